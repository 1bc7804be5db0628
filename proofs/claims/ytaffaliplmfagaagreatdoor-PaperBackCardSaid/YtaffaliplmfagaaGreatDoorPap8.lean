/-
  warrenerplain.Report, of two that are the same; the report of one key.
-/
import Derived.Test.YtaffaliplmfagaaGreatDoorPap7
import Derived.Test.YtaffaliplmfagaaGreatDoorPap4
set_option linter.unusedVariables false
set_option linter.unusedSimpArgs false
namespace Go.Proofs.YtaffaliplmfagaaGreatDoor.Line
open Go.RowKit Go.Sort Go.Proofs.YtaffaliplmfagaaGreatDoor.Own Go.Proofs.YtaffaliplmfagaaGreatDoor.Conv Go.Proofs.YtaffaliplmfagaaGreatDoor.Calm Go.Proofs.YtaffaliplmfagaaGreatDoor.Oct

set_option maxRecDepth 100000 in
set_option maxHeartbeats 8000000 in
theorem report_same (w : World) (vd ed : Int) (v u : Value) (fs gs : List FoundI) (h : FR w v fs) (h' : FR w u gs) (hs : fs.map keyF = gs.map keyF) :
    Calls Tryz.prog 12 #[.agg #[.int .i64 vd, .int .i64 ed, v], .agg #[.int .i64 vd, .int .i64 ed, u]] w fun e w' => e = .returned (.bool true) ∧ Kept No w w' := by
  have hlen : fs.length = gs.length := by have := congrArg List.length hs; simpa using this
  obtain ⟨n, hnn⟩ : ∃ n, fs.length = n := ⟨_, rfl⟩
  obtain ⟨-, ao, cap, hv, hc, hm, -, -⟩ := h.rd
  obtain ⟨-, ao2, cap2, hu, hc2, hm2, -, -⟩ := h'.rd
  rw [hnn] at hv hc
  rw [← hlen, hnn] at hu hc2
  subst hv
  subst hu
  unfold maxLen at hm hm2
  have hx := (Box.new w #[.int .i64 vd, .int .i64 ed, .slice ao n cap] 24).alloc (.cells #[.int .i64 vd, .int .i64 ed, .slice ao2 n cap2] 24)
  have hy := Box.new (w.alloc (.cells #[.int .i64 vd, .int .i64 ed, .slice ao n cap] 24)) #[.int .i64 vd, .int .i64 ed, .slice ao2 n cap2] 24
  have hk := ((Kept.refl No w).alloc (.cells #[.int .i64 vd, .int .i64 ed, .slice ao n cap] 24)).alloc (.cells #[.int .i64 vd, .int .i64 ed, .slice ao2 n cap2] 24)
  simp only [World.size_alloc] at hy
  have H := Lib.hid (h.kept hk)
  have H' := Lib.hid (h'.kept hk)
  have HE := Lib.hid hs
  have HN := Lib.hid hnn
  have HN' : Hid (gs.length = n) := Lib.hid (by rw [← hlen, hnn])
  have HX := Lib.hid hx
  have HY := Lib.hid hy
  have HK := Lib.hid hk
  clear h h' hs hlen hnn hx hy hk
  go_enter Tryz.func12, Tryz.ntmps12
  go_upto_region 1 with fail
  generalize (w.alloc (.cells #[.int .i64 vd, .int .i64 ed, .slice ao n cap] 24)).alloc (.cells #[.int .i64 vd, .int .i64 ed, .slice ao2 n cap2] 24) = w0 at *
  have x0 : w0.cell? ⟨w.heap.size, 0, none⟩ = some (.int .i64 vd) := HX.out.cell 0
  have x1 : w0.cell? ⟨w.heap.size, 1, none⟩ = some (.int .i64 ed) := HX.out.cell 1
  have x2 : w0.cell? ⟨w.heap.size, 2, none⟩ = some (.slice ao n cap) := HX.out.cell 2
  have y0 : w0.cell? ⟨w.heap.size + 1, 0, none⟩ = some (.int .i64 vd) := HY.out.cell 0
  have y1 : w0.cell? ⟨w.heap.size + 1, 1, none⟩ = some (.int .i64 ed) := HY.out.cell 1
  have y2 : w0.cell? ⟨w.heap.size + 1, 2, none⟩ = some (.slice ao2 n cap2) := HY.out.cell 2
  have q0 : (vd != vd) = false := by simp
  have q1 : (ed != ed) = false := by simp
  have q3 : ((n : Int) != (n : Int)) = false := by simp
  go_wp2_with fail
  go_loopw [5] (fun i wr => ∃ m : Nat, m ≤ n ∧ i = .int .i64 m ∧ Kept No w0 wr) (fun i _ => n - (intOf i).toNat)
  case atStart => exact ⟨0, by omega, rfl, Kept.refl _ _⟩
  case round =>
    clear x0 x1 x2 y0 y1 y2 q0 q1 q3
    obtain ⟨t, ht, rfl, hK⟩ := hrel
    have xr := HX.out.kept hK id
    have yr := HY.out.kept hK id
    have x2 : wr.cell? ⟨w.heap.size, 2, none⟩ = some (.slice ao n cap) := xr.cell 2
    have y2 : wr.cell? ⟨w.heap.size + 1, 2, none⟩ = some (.slice ao2 n cap2) := yr.cell 2
    by_cases hlt : t < n
    · obtain ⟨f, hf⟩ : ∃ f, fs[t]? = some f := ⟨_, List.getElem?_eq_getElem (by rw [HN.out]; exact hlt)⟩
      obtain ⟨f', hf'⟩ : ∃ f, gs[t]? = some f := ⟨_, List.getElem?_eq_getElem (by rw [HN'.out]; exact hlt)⟩
      have hkk : keyF f = keyF f' := by
        have h1 : (fs.map keyF)[t]? = (gs.map keyF)[t]? := by rw [HE.out]
        rw [List.getElem?_map, List.getElem?_map, hf, hf'] at h1
        exact Option.some.inj h1
      have hp1 := (H.out.kept hK).pk hf
      have hp2 := (H'.out.kept hK).pk hf'
      obtain ⟨g, o, rfl, hg, e0, e1, e2, e3⟩ := (H.out.kept hK).at hf
      obtain ⟨g2, o2, rfl, hg2, d0, d1, d2, d3⟩ := (H'.out.kept hK).at hf'
      obtain ⟨fk, fi, fj, fv, fm, fzs⟩ := f
      obtain ⟨gk, gi, gj, gv, gm, gzs⟩ := f'
      simp only [keyF, Prod.mk.injEq] at hkk
      obtain ⟨⟨rfl, rfl, rfl⟩, rfl⟩ := hkk
      simp only at hp1 hp2 e0 e1 e2 e3 d0 d1 d2 d3
      have hcall : ∀ p : KW wr, Calls Tryz.prog 31 #[fv, gv] p.w fun e w' => e = .returned (.bool true) ∧ Kept No p.w w' := fun p => by
        have := Pick.ints_is p.w fv gv fm gm fzs fzs (hp1.kept p.h (fun _ _ => id)) (hp2.kept p.h (fun _ _ => id))
        rw [decide_eq_true rfl] at this
        exact this
      have HC := Lib.hid hcall
      have k1 : ∀ p : KW wr, p.w.cell? ⟨w.heap.size, 2, none⟩ = some (.slice (some ⟨g, o, none⟩) n cap) := KW.old x2 xr.lt
      have k2 : ∀ p : KW wr, p.w.cell? ⟨w.heap.size + 1, 2, none⟩ = some (.slice (some ⟨g2, o2, none⟩) n cap2) := KW.old y2 yr.lt
      have a0 := KW.old e0 hg
      have a1 := KW.old e1 hg
      have a2 := KW.old e2 hg
      have a3 := KW.old e3 hg
      have b0 := KW.old d0 hg2
      have b1 := KW.old d1 hg2
      have b2 := KW.old d2 hg2
      have b3 := KW.old d3 hg2
      clear hp1 hp2 hf hf' hcall e0 e1 e2 e3 d0 d1 d2 d3 xr yr
      go_wp2_with fail
      refine wp_region_calm (by kernel_rfl) (by kernel_rfl) ?_
      repeat (go_big_quiet_step ((go_at_call 31; with_reducible exact calls_of _ (HC.out _))))
      refine wpQuiet_nil ?_
      rintro _ ⟨p, rfl⟩
      have hK2 := hK.trans p.h (fun _ _ f => f)
      generalize p.w = wz at *
      clear k1 k2 a0 a1 a2 a3 b0 b1 b2 b3 HC
      go_wp2_with fail
      go_roundw
      case rel => exact ⟨t + 1, by omega, by go_num, hK2⟩
      case measure => simp [intOf]; omega
    · obtain rfl : t = n := by omega
      go_wp2_with fail
      go_ret
      exact ⟨rfl, HK.out.trans hK (fun _ _ f => f)⟩

theorem box_rd4 {w : World} {b : Nat} {x y z u : Value} {t : TypeId} (h : Box w b #[x, y, z, u] t) : Rd w 4 (.slice (some ⟨b, 0, none⟩) 1 1) 1 [x, y, z, u] := by
  refine ⟨rfl, _, 1, rfl, Nat.le_refl _, by unfold maxLen; omega, (fun hh => by cases hh), fun _ => ⟨b, 0, rfl, h.lt, fun j v hv => ?_⟩⟩
  rw [Nat.zero_add, h.cell]
  simpa using hv

set_option maxRecDepth 100000 in
set_option maxHeartbeats 8000000 in
theorem some_is (w : World) : Calls Tryz.prog 15 #[] w fun e w' => Kept No w w' ∧ ∃ b1 b2, e = .returned (.agg #[.int .i64 2, .int .i64 5, .slice (some ⟨b1, 0, none⟩) 1 1]) ∧ FR w' (.slice (some ⟨b1, 0, none⟩) 1 1) [⟨5, 1, 2, .slice (some ⟨b2, 0, none⟩) 2 2, 2, [0, 1]⟩] := by
  have hr := Box.new w #[.int .i64 0, .int .i64 0, .slice none 0 0] 24
  have hk := (Kept.refl No w).alloc (.cells #[.int .i64 0, .int .i64 0, .slice none 0 0] 24)
  go_enter Tryz.func15, Tryz.ntmps15
  go_upto_region 1 with fail
  generalize w.alloc (.cells #[.int .i64 0, .int .i64 0, .slice none 0 0] 24) = w0 at *
  have hi := (Box.new w0 #[.int .i64 0, .int .i64 1] 3).alloc (.cells #[.int .i64 5, .int .i64 1, .int .i64 2, .slice (some ⟨w0.heap.size, 0, none⟩) 2 2] 48)
  have hf := Box.new (w0.alloc (.cells #[.int .i64 0, .int .i64 1] 3)) #[.int .i64 5, .int .i64 1, .int .i64 2, .slice (some ⟨w0.heap.size, 0, none⟩) 2 2] 48
  have hr2 := (hr.alloc (.cells #[.int .i64 0, .int .i64 1] 3)).alloc (.cells #[.int .i64 5, .int .i64 1, .int .i64 2, .slice (some ⟨w0.heap.size, 0, none⟩) 2 2] 48)
  have hk2 := (hk.alloc (.cells #[.int .i64 0, .int .i64 1] 3)).alloc (.cells #[.int .i64 5, .int .i64 1, .int .i64 2, .slice (some ⟨w0.heap.size, 0, none⟩) 2 2] 48)
  have hlt := hr.lt
  simp only [World.size_alloc] at hf
  have hk3 : Kept (Only w.heap.size) ((w0.alloc (.cells #[.int .i64 0, .int .i64 1] 3)).alloc (.cells #[.int .i64 5, .int .i64 1, .int .i64 2, .slice (some ⟨w0.heap.size, 0, none⟩) 2 2] 48)) (((w0.alloc (.cells #[.int .i64 0, .int .i64 1] 3)).alloc (.cells #[.int .i64 5, .int .i64 1, .int .i64 2, .slice (some ⟨w0.heap.size, 0, none⟩) 2 2] 48)).setRow w.heap.size #[.int .i64 2, .int .i64 5, .slice (some ⟨w0.heap.size + 1, 0, none⟩) 1 1]) := row_only _ _ _
  have hi4 := hi.kept hk3 (fun e => by have : w0.heap.size = w.heap.size := e; omega)
  have hf4 := hf.kept hk3 (fun e => by have : w0.heap.size + 1 = w.heap.size := e; omega)
  have HR2 := Lib.hid hr2
  have HK4 := Lib.hid (hk2.trans hk3 (fun q hq e => by have : q = w.heap.size := e; omega))
  have HI := Lib.hid hi4
  have HF := Lib.hid hf4
  clear hr hk hi hf hr2 hk2 hk3 hi4 hf4
  go_wp2_with (refine wpList_store_rowTo rfl 24 _ _ rfl rfl w.heap.size #[.int .i64 2, .int .i64 5, .slice (some ⟨w0.heap.size + 1, 0, none⟩) 1 1] (by kernel_rfl) (by kernel_rfl) 24 _ HR2.out (by kernel_rfl) (by kernel_rfl) (by kernel_rfl) ?_)
  refine bodyPost_ret (results_cell_row rfl _ _ w.heap.size 24 #[.int .i64 2, .int .i64 5, .slice (some ⟨w0.heap.size + 1, 0, none⟩) 1 1] (0, 0) _ (by kernel_rfl) HR2.out.row Tryz.underlying24 rfl (by kernel_rfl)) rfl ?_
  refine ⟨HK4.out, w0.heap.size + 1, w0.heap.size, rfl, box_rd4 HF.out, fun f hm => ?_⟩
  rw [List.mem_singleton] at hm
  subst hm
  exact box_rd HI.out rfl 2 rfl (by unfold maxLen; omega)
end Go.Proofs.YtaffaliplmfagaaGreatDoor.Line
