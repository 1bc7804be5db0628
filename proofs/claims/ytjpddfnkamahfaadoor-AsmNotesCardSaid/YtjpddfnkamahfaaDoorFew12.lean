/-
  warrenerlaw11.Few: the first threads, and of each the first instructions.
-/
import Derived.Test.YtjpddfnkamahfaaDoorLay12
import Derived.Test.YtjpddfnkamahfaaDoorRow
set_option linter.unusedVariables false
set_option linter.unusedSimpArgs false
namespace Go.Proofs.YtjpddfnkamahfaaDoor.Line
open Go.RowKit Go.Sort Go.Proofs.YtjpddfnkamahfaaDoor.Own Go.Proofs.YtjpddfnkamahfaaDoor.Conv Go.Proofs.YtjpddfnkamahfaaDoor.Calm Go.Proofs.YtjpddfnkamahfaaDoor.Open

theorem info_thread : (Tryd.prog.info? 52).map (fun i => (i.zero, i.size, i.bytes)) = some (some (.slice none 0 0), 1, 24) := by kernel_rfl
def cutV : Value → Value
  | .slice ao n cap => .slice ao (min n 20) cap
  | v => v
def cutRow (q : RowI) : RowI := ⟨cutV q.v, min q.n 20, q.zs.take (min q.n 20 * 5)⟩
def cutL (rows : List RowI) (k : Nat) : List Value := ((rows.take k).map cutRow).map (·.v)
theorem cutL_len (rows : List RowI) (k : Nat) (h : k ≤ rows.length) : (cutL rows k).length = k := by simp [cutL]; omega
theorem cutL_step {rows : List RowI} {k : Nat} (h : k < rows.length) {a : Option Addr} {m c : Nat} (hv : (rowAt rows k).v = .slice a m c) : cutL rows (k + 1) = cutL rows k ++ [.slice a (min m 20) c] := by
  have hq : rowAt rows k = rows[k] := by rw [rowAt, List.getElem?_eq_getElem h]; rfl
  rw [hq] at hv
  unfold cutL
  rw [List.take_add_one, List.getElem?_eq_getElem h, List.map_append, List.map_append]
  simp [cutRow, cutV, hv]
theorem rd_cut {w : World} {size n m cap : Nat} {ao : Option Addr} {xs : List Value} (h : Rd w size (.slice ao n cap) n xs) (hm : m ≤ n) : Rd w size (.slice ao m cap) m (xs.take (m * size)) := by
  obtain ⟨hl, ao', cap', hv, h1, h2, h3, h4⟩ := h
  cases hv
  refine ⟨?_, ao, cap, rfl, by omega, h2, fun e => ⟨by have := (h3 e).1; omega, (h3 e).2⟩, fun h0 => ?_⟩
  · rw [List.length_take, hl]; exact Nat.min_eq_left (Nat.mul_le_mul_right _ hm)
  · obtain ⟨g, o, rfl, hg, hc⟩ := h4 (by omega)
    refine ⟨g, o, rfl, hg, fun j u hu => hc j u ?_⟩
    rw [List.getElem?_take] at hu
    split at hu
    · exact hu
    · cases hu
theorem cut_row {w : World} {q : RowI} (h : Rd w 5 q.v q.n (vals q.zs) ∧ ∀ z ∈ q.zs, int64 z) : Rd w 5 (cutRow q).v (cutRow q).n (vals (cutRow q).zs) ∧ ∀ z ∈ (cutRow q).zs, int64 z := by
  obtain ⟨h1, h2⟩ := h
  obtain ⟨ao, cap, hv⟩ : ∃ ao cap, q.v = .slice ao q.n cap := by obtain ⟨_, ao, cap, hv, _⟩ := h1; exact ⟨ao, cap, hv⟩
  refine ⟨?_, fun z hz => h2 z (List.mem_of_mem_take hz)⟩
  have h3 := rd_cut (by rw [hv] at h1; exact h1) (Nat.min_le_left q.n 20)
  unfold cutRow
  simp only [hv, cutV]
  rw [show vals (q.zs.take (min q.n 20 * 5)) = (vals q.zs).take (min q.n 20 * 5) from by simp [vals, List.map_take]]
  exact h3
theorem box_set {w : World} {b : Nat} {cs : Array Value} {t : TypeId} (h : Box w b cs t) (i : Nat) (u : Value) : Box (w.setCell ⟨b, i, none⟩ u) b (cs.setIfInBounds i u) t := by
  obtain ⟨hlt, hk⟩ := Array.getElem?_eq_some_iff.1 h
  show (w.heap.modify b _)[b]? = _
  rw [Array.getElem?_eq_getElem (by rw [Array.size_modify]; exact hlt), Array.getElem_modify_self, hk]
  rfl
theorem box_other {W : World} {b : Nat} {cs : Array Value} {t : TypeId} (h : Box W b cs t) (a : Addr) (u : Value) (hb : b ≠ a.block) : Box (W.setCell a u) b cs t := (Below.heap_setCell _ _ _ _ hb).trans h
def Mine (a b k : Nat) : Prop := a ≤ k ∧ k < b

/-- What Few answers. -/
def FewPost (B : Nat) (w : World) (r c s : Int) (e : Ending) (w' : World) : Prop :=
  ∃ (ao : Option Addr) (n cap : Nat) (rows : List RowI), e = .returned (.agg #[.int .i64 r, .int .i64 c, .int .i64 s, .slice ao n cap]) ∧ (∀ w'', Kept (Mine B w.heap.size) w' w'' → PR w'' (.slice ao n cap) rows) ∧ rows.length ≤ 6 ∧ (∀ t, lenAt rows t ≤ 20) ∧ Kept No w w'
theorem few_len (rows : List RowI) (k t : Nat) : lenAt ((rows.take k).map cutRow) t ≤ 20 := by
  unfold lenAt rowAt
  rcases h : ((rows.take k).map cutRow)[t]? with _ | q
  · simp
  · obtain ⟨y, hy, rfl⟩ := List.mem_map.1 (List.mem_of_getElem? h)
    simp only [Option.getD_some, cutRow]
    omega

set_option maxRecDepth 100000 in
set_option maxHeartbeats 8000000 in
theorem few_is (r c s : Int) (ao : Option Addr) (n cap : Nat) (rows : List RowI) (wo w : World) (hwo : Kept No wo w) (h : Rd wo 1 (.slice ao n cap) rows.length (rows.map (·.v))) (hr : ∀ q ∈ rows, Rd wo 5 q.v q.n (vals q.zs) ∧ ∀ z ∈ q.zs, int64 z) :
    Calls Tryd.prog 10 #[.agg #[.int .i64 r, .int .i64 c, .int .i64 s, .slice ao n cap]] w (FewPost wo.heap.size w r c s) := by
  obtain ⟨i0, hi, hz0, hz1, hz2⟩ := info_parts info_thread
  have hpr := (pr_of h hr).kept hwo
  have HWO := Lib.hid hwo
  obtain ⟨hn, hcap, hm⟩ := hpr.len
  unfold maxLen at hm
  have hn1 : n ≤ rows.length := by omega
  have hn2 : rows.length ≤ n := by omega
  have hx := (Box.new w #[.int .i64 r, .int .i64 c, .int .i64 s, .slice ao n cap] 32).alloc (.cells #[.int .i64 0, .int .i64 0, .int .i64 0, .slice none 0 0] 32)
  have ho := Box.new (w.alloc (.cells #[.int .i64 r, .int .i64 c, .int .i64 s, .slice ao n cap] 32)) #[.int .i64 0, .int .i64 0, .int .i64 0, .slice none 0 0] 32
  rw [World.size_alloc] at ho
  have hk : Kept No w ((w.alloc (.cells #[.int .i64 r, .int .i64 c, .int .i64 s, .slice ao n cap] 32)).alloc (.cells #[.int .i64 0, .int .i64 0, .int .i64 0, .slice none 0 0] 32)) := ((Kept.refl _ _).alloc _).alloc _
  have hsz : ((w.alloc (.cells #[.int .i64 r, .int .i64 c, .int .i64 s, .slice ao n cap] 32)).alloc (.cells #[.int .i64 0, .int .i64 0, .int .i64 0, .slice none 0 0] 32)).heap.size = w.heap.size + 2 := by rw [World.size_alloc, World.size_alloc]
  have HX := Lib.hid hx
  have HO := Lib.hid ho
  have HK := Lib.hid hk
  have HSZ := Lib.hid hsz
  have HP := Lib.hid hpr
  have HRaw := Lib.hid hr
  clear hn h hr hpr hx ho hk hsz hwo
  go_enter Tryd.func10, Tryd.ntmps10
  go_upto_region 1 with fail
  generalize (w.alloc (.cells #[.int .i64 r, .int .i64 c, .int .i64 s, .slice ao n cap] 32)).alloc (.cells #[.int .i64 0, .int .i64 0, .int .i64 0, .slice none 0 0] 32) = w0 at *
  go_wp2_with fail
  go_loopw [3, 4] (fun o i wr => ∃ k : Nat, k ≤ n ∧ k ≤ 6 ∧ i = .int .i64 k ∧ Hid (Seg wr w0.heap.size 52 1 o (cutL rows k).length (cutL rows k)) ∧ Kept No w0 wr) (fun _ i _ => 6 - (intOf i).toNat)
  case atStart => exact ⟨0, by omega, by omega, rfl, Lib.hid (by simpa [cutL] using Seg.nil _ _ _ _), Kept.refl _ _⟩
  case round =>
    obtain ⟨k, hk, hk6, rfl, hseg, hK⟩ := hrel
    have d3 : wr.cell? ⟨w.heap.size, 3, none⟩ = some (.slice ao n cap) := (HX.out.kept hK id).cell 3
    by_cases hlt : k < n ∧ k < 6
    · obtain ⟨hl1, hl2⟩ := hlt
      have e1 : decide ((k : Int) < n) = true := decide_eq_true (by omega)
      have e2 : decide ((k : Int) < 6) = true := decide_eq_true (by omega)
      obtain ⟨g, o, rfl, hg, hcell⟩ := ((HP.out.kept HK.out).kept hK).head (t := k) (by omega)
      obtain ⟨a2, cp2, hv, h1, h2, hth⟩ := HP.out.thread (t := k) (by omega)
      rw [hv] at hcell
      have hst := cutL_step (show k < rows.length by omega) hv
      have hcl := cutL_len rows k (by omega)
      obtain ⟨m, hL⟩ : ∃ m, lenAt rows k = m := ⟨_, rfl⟩
      rw [hL] at hcell h1 hth hst
      unfold maxLen at h2
      have HST := Lib.hid hst
      have hcl6 : (cutL rows k).length ≤ 6 := by omega
      clear hv hL hst hcl
      by_cases h20 : 20 < m
      · obtain ⟨g3, o3, rfl, _, _⟩ := hth (by omega)
        have e3 : decide ((20 : Int) < m) = true := decide_eq_true (by omega)
        have e4 : 20 ≤ cp2 := by omega
        have hmin : Hid (min m 20 = 20) := Lib.hid (by omega)
        rw [hmin.out] at HST
        clear hth
        go_upto_region 8 with fail
        clear d3 hcell
        go_wp2_with (at_builtin; refine wpList_append_seg rfl _ _ 30 rfl w0.heap.size 52 i0 (.slice none 0 0) 1 24 Tryd.underlying30 hi hz0 hz1 hz2 rfl (by decide) _ _ _ rfl (hseg.out.kept ((Kept.refl No _).alloc _) (fun _ _ f => f.elim)) ⟨_, 0, none⟩ 1 1 [.slice (some ⟨g3, o3, none⟩) 20 cp2] rfl rfl (cell_one _ _ _) (fun u hu => by simp at hu; subst hu; rfl) (by unfold maxLen; omega) (by omega) (by have := hK.size; simp; omega) ?_)
        intro v3 w3 hs3 hg3 hb3
        have hK3 : Kept No w0 w3 := (hK.alloc (.cells #[.slice (some ⟨g3, o3, none⟩) 20 cp2] 52)).grown hg3 (fun g hlt hg => by have := (hseg.out.lt g hg).1; omega)
        have Hs3 : Hid (Seg w3 w0.heap.size 52 1 v3 (cutL rows (k + 1)).length (cutL rows (k + 1))) := Lib.hid (by rw [HST.out, List.length_append]; exact hs3)
        clear hs3 hg3 hb3 hseg
        go_wp2_with fail
        go_roundw
        case rel => exact ⟨k + 1, by omega, by omega, by go_num, Hs3, hK3⟩
        case measure => simp [intOf]; omega
      · have e3 : decide ((20 : Int) < m) = false := decide_eq_false (by omega)
        have hmin : Hid (min m 20 = m) := Lib.hid (by omega)
        rw [hmin.out] at HST
        clear hth
        go_upto_region 8 with fail
        clear d3 hcell
        go_wp2_with (at_builtin; refine wpList_append_seg rfl _ _ 30 rfl w0.heap.size 52 i0 (.slice none 0 0) 1 24 Tryd.underlying30 hi hz0 hz1 hz2 rfl (by decide) _ _ _ rfl (hseg.out.kept ((Kept.refl No _).alloc _) (fun _ _ f => f.elim)) ⟨_, 0, none⟩ 1 1 [.slice a2 m cp2] rfl rfl (cell_one _ _ _) (fun u hu => by simp at hu; subst hu; rfl) (by unfold maxLen; omega) (by omega) (by have := hK.size; simp; omega) ?_)
        intro v3 w3 hs3 hg3 hb3
        have hK3 : Kept No w0 w3 := (hK.alloc (.cells #[.slice a2 m cp2] 52)).grown hg3 (fun g hlt hg => by have := (hseg.out.lt g hg).1; omega)
        have Hs3 : Hid (Seg w3 w0.heap.size 52 1 v3 (cutL rows (k + 1)).length (cutL rows (k + 1))) := Lib.hid (by rw [HST.out, List.length_append]; exact hs3)
        clear hs3 hg3 hb3 hseg
        go_wp2_with fail
        go_roundw
        case rel => exact ⟨k + 1, by omega, by omega, by go_num, Hs3, hK3⟩
        case measure => simp [intOf]; omega
    · have hx := HX.out.kept hK id
      have ho := HO.out.kept hK id
      have hsg := hseg.out
      have hkl : (cutL rows k).length = k := cutL_len rows k (by omega)
      obtain ⟨A, C, hv3⟩ : ∃ A C, u3 = .slice A k C := by
        obtain ⟨_, h2 | ⟨g, o, c, cur, h2, _⟩⟩ := hsg
        · exact ⟨none, 0, by rw [h2.1, ← hkl, h2.2]⟩
        · exact ⟨_, _, by rw [h2, hkl]⟩
      subst hv3
      rw [hkl] at hsg
      have hsz := hK.size
      have hsz0 := HSZ.out
      have hne : w.heap.size + 1 ≠ w.heap.size := by omega
      -- the world behind the stores
      have hx1 : Box (wr.setCell ⟨w.heap.size, 3, none⟩ (.slice A k C)) w.heap.size #[.int .i64 r, .int .i64 c, .int .i64 s, .slice A k C] 32 := box_set hx 3 (.slice A k C)
      have ho1 : Box (wr.setCell ⟨w.heap.size, 3, none⟩ (.slice A k C)) (w.heap.size + 1) #[.int .i64 0, .int .i64 0, .int .i64 0, .slice none 0 0] 32 := box_other ho ⟨w.heap.size, 3, none⟩ _ hne
      have kS : Kept (Mine w.heap.size w0.heap.size) wr (wr.setCell ⟨w.heap.size, 3, none⟩ (.slice A k C)) := (Kept.refl _ _).setCell (p := ⟨w.heap.size, 3, none⟩) (fun _ => ⟨Nat.le_refl _, by show w.heap.size < _; omega⟩) _
      have f3 : wr.frozen? ⟨w.heap.size, 3, none⟩ = false := hx.frozen 3
      have HX1 := Lib.hid hx1
      have HO1 := Lib.hid ho1
      have HKS := Lib.hid kS
      have HSG := Lib.hid hsg
      have HKR := Lib.hid hK
      have hk6' : k < 6 ∨ k = 6 := by omega
      clear hx ho hsg hkl hsz hsz0 hne hx1 ho1 kS hseg hK
      have fin : ∀ w', Kept (Mine w.heap.size w0.heap.size) wr w' → ∃ (ao : Option Addr) (n cap : Nat) (rs : List RowI), (.agg #[.int .i64 r, .int .i64 c, .int .i64 s, .slice A k C] : Value) = .agg #[.int .i64 r, .int .i64 c, .int .i64 s, .slice ao n cap] ∧ (∀ w'', Kept (Mine wo.heap.size w.heap.size) w' w'' → PR w'' (.slice ao n cap) rs) ∧ rs.length ≤ 6 ∧ (∀ t, lenAt rs t ≤ 20) ∧ Kept No w w' := by
        intro w' hk'
        have hkw : Kept No w w' := (HK.out.trans HKR.out (fun _ _ f => f)).trans hk' (fun q hq hm => by have := hm.1; omega)
        have hl : ((rows.take k).map cutRow).length = k := by simp; omega
        refine ⟨A, k, C, (rows.take k).map cutRow, rfl, fun w'' hk'' => pr_of ?_ (fun q hq => ?_), by omega, few_len rows k, hkw⟩
        · rw [hl]
          have hsz2 : w.heap.size ≤ w0.heap.size := HK.out.size
          have hrd := HSG.out.rd.kept hk' (fun g hg hm => by have := (HSG.out.lt g hg).1; have := hm.2; omega)
          exact hrd.kept hk'' (fun g hg hm => by have := (HSG.out.lt g hg).1; have := hm.2; omega)
        · obtain ⟨y, hy, rfl⟩ := List.mem_map.1 hq
          have h1 := cut_row (HRaw.out y (List.mem_of_mem_take hy))
          have hko : Kept No wo w'' := (HWO.out.trans hkw (fun _ _ f => f)).trans hk'' (fun q hq hm => by have := hm.1; omega)
          exact ⟨h1.1.kept hko (fun _ _ => id), h1.2⟩
      have FIN := Lib.hid fin
      clear fin
      have hex : (decide (k < n) = false) ∨ (decide (k < n) = true ∧ decide ((k : Int) < 6) = false) := by
        by_cases h1 : k < n
        · exact .inr ⟨decide_eq_true (by omega), decide_eq_false (by omega)⟩
        · exact .inl (decide_eq_false (by omega))
      clear hlt hk6'
      rcases hex with e1 | ⟨e1, e2⟩
      all_goals
        go_upto_region 10 with fail
        have hx2 := HX1.out
        have ho2 := HO1.out
        have hK2 := HKS.out
        clear d3 f3
        generalize wr.setCell ⟨w.heap.size, 3, none⟩ (.slice A k C) = w2 at *
        have c0 : w2.cell? ⟨w.heap.size, 0, none⟩ = some (.int .i64 r) := hx2.cell 0
        have c1 : w2.cell? ⟨w.heap.size, 1, none⟩ = some (.int .i64 c) := hx2.cell 1
        have c2 : w2.cell? ⟨w.heap.size, 2, none⟩ = some (.int .i64 s) := hx2.cell 2
        have c3 : w2.cell? ⟨w.heap.size, 3, none⟩ = some (.slice A k C) := hx2.cell 3
        have hlast := ho2.row (cs := #[.int .i64 r, .int .i64 c, .int .i64 s, .slice A k C])
        have hkl : Kept (Mine w.heap.size w0.heap.size) wr (w2.setRow (w.heap.size + 1) #[.int .i64 r, .int .i64 c, .int .i64 s, .slice A k C]) := by
          refine ⟨hK2.os, hK2.tape, hK2.output, by rw [show (w2.setRow (w.heap.size + 1) #[.int .i64 r, .int .i64 c, .int .i64 s, .slice A k C]).heap.size = w2.heap.size from by simp [World.setRow]]; exact hK2.size, fun q hq hm => ?_⟩
          have hne : q ≠ w.heap.size + 1 := fun e => hm ⟨by omega, by have := HSZ.out; omega⟩
          rw [← hK2.block q hq hm]
          exact setRow_other w2 (w.heap.size + 1) q _ hne
        go_wp2_with (refine wpList_store_rowTo rfl 32 _ _ rfl rfl (w.heap.size + 1) #[.int .i64 r, .int .i64 c, .int .i64 s, .slice A k C] (by kernel_rfl) (by kernel_rfl) 32 _ ho2 (by kernel_rfl) (by kernel_rfl) (by kernel_rfl) ?_)
        refine bodyPost_ret (results_cell_row rfl _ _ (w.heap.size + 1) 32 #[.int .i64 r, .int .i64 c, .int .i64 s, .slice A k C] (0, 0) _ rfl hlast Tryd.underlying32 rfl (by kernel_rfl)) rfl ?_
        obtain ⟨ao', n', cap', rs, he, h1, h2, h3, h4⟩ := FIN.out _ hkl
        exact ⟨ao', n', cap', rs, congrArg Ending.returned he, h1, h2, h3, h4⟩
end Go.Proofs.YtjpddfnkamahfaaDoor.Line
