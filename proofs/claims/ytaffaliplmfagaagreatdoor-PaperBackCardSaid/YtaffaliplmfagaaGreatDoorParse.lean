/-
  A key, out of words.
-/
import Derived.Test.YtaffaliplmfagaaGreatDoorKey
import Derived.Test.YtaffaliplmfagaaGreatDoorAlloc
import Derived.Test.YtaffaliplmfagaaGreatDoorWords2
import Derived.Test.YtaffaliplmfagaaGreatDoorSmall13
set_option linter.unusedVariables false
namespace Go.Proofs.YtaffaliplmfagaaGreatDoor.Line
open Go.RowKit Go.Sort Go.Proofs.YtaffaliplmfagaaGreatDoor.Own Go.Proofs.YtaffaliplmfagaaGreatDoor.Conv Go.Proofs.YtaffaliplmfagaaGreatDoor.Calm

theorem results_row_tmp {P : Program} {fn : Func} {p u : Tmp} {ty : TypeId} (h : fn.results = #[.cell p ty, .tmp u]) (tmps : Array Value) (w : World) (g : Nat) (t : TypeId) (cs : Array Value) (fr : Nat × Nat) (d : TypeDesc)
    (hp : tmps.getD p undef = .pointer (some ⟨g, 0, none⟩)) (hg : w.heap[g]? = some (.cells cs t fr))
    (hu : P.underlying ty = some d) (hd : (match d with | .struct _ | .array _ _ => true | _ => false) = true) (hi : (P.info? ty).map (·.size) = some cs.size) :
    (results fn tmps).run P w = .ok (.tuple #[.agg cs, tmps.getD u undef]) w := by
  rw [results_cell_tmp h, hp]
  simp [asAddr, Result.andThen, run_loadVar_row w g t ty cs fr d hg hu hd hi]
theorem Box.set {w : World} {g : Nat} {cs : Array Value} {t : TypeId} (h : Box w g cs t) (i : Nat) (u : Value) : Box (w.setCell ⟨g, i, none⟩ u) g (cs.setIfInBounds i u) t := by
  unfold Box at h ⊢
  obtain ⟨hlt, hk⟩ := Array.getElem?_eq_some_iff.1 h
  show (w.heap.modify g _)[g]? = _
  rw [Array.getElem?_eq_getElem (by rw [Array.size_modify]; exact hlt), Array.getElem_modify_self, hk]
  rfl
theorem Box.set_other {w : World} {g b : Nat} {cs : Array Value} {t : TypeId} (h : Box w g cs t) (hb : b ≠ g) (i : Nat) (u : Value) : Box (w.setCell ⟨b, i, none⟩ u) g cs t := by
  unfold Box at h ⊢
  show (w.heap.modify b _)[g]? = _
  rw [Array.getElem?_modify, if_neg hb]
  exact h

def nameB : List ByteArray := nameL.map fun l => ⟨l.toArray⟩
def kindOf (x : List UInt8) : Int := Lib.idxOfS nameB ⟨x.toArray⟩
/-- A key, out of a text. -/
def parseL (l : List UInt8) : Option K3 :=
  match wordsL l with
  | [x, y, z] => match smallL y 16, smallL z 16 with
    | some i, some j => if keyT (kindOf x) i j = l then some (kindOf x, i, j) else none
    | _, _ => none
  | _ => none
theorem mk_inj {a b : List UInt8} (h : (⟨a.toArray⟩ : ByteArray) = ⟨b.toArray⟩) : a = b := by have := congrArg (fun b => b.data.toList) h; simpa using this
theorem pieces_le (c : UInt8) : ∀ (l : List UInt8), ∀ p ∈ pieces c l, p.length ≤ l.length
  | [], p, h => by simp [pieces] at h; simp [h]
  | b :: r, p, h => by
    have ih := pieces_le c r
    unfold pieces at h
    split at h
    · rcases List.mem_cons.1 h with rfl | h
      · simp
      · have := ih p h; simp; omega
    · split at h
      · rw [List.mem_singleton.1 h]; simp
      · rename_i q ps e
        rw [e] at ih
        rcases List.mem_cons.1 h with rfl | h
        · have := ih q (by simp); simp; omega
        · have := ih p (by simp [h]); simp; omega
theorem words_le {l p : List UInt8} (h : p ∈ wordsL l) : p.length ≤ l.length := pieces_le 32 l p (List.mem_filter.1 h).1
theorem parse_few {l : List UInt8} (h : (wordsL l).length ≠ 3) : parseL l = none := by
  unfold parseL
  split
  · rename_i e; rw [e] at h; exact absurd rfl h
  · rfl
theorem parse_three {l x y z : List UInt8} (h : wordsL l = [x, y, z]) : parseL l = match smallL y 16, smallL z 16 with
    | some i, some j => if keyT (kindOf x) i j = l then some (kindOf x, i, j) else none
    | _, _ => none := by
  unfold parseL
  rw [h]
theorem idx_is (b : Nat) (sx : ByteArray) (w : World) (h : Box w b nameS 87) :
    Calls Tryz.prog 51 #[.slice (some ⟨b, 0, none⟩) 7 7, .string sx] w fun e w' => e = .returned (.int .i64 (Lib.idxOfS nameB sx)) ∧ w' = w := by
  have := Tryz.slices_Index_string b 0 7 7 nameB sx w (by decide) (by omega) (fun j hj => by
    rw [Nat.zero_add, Box.cell h]
    have hj' : j < 7 := hj
    have : j = 0 ∨ j = 1 ∨ j = 2 ∨ j = 3 ∨ j = 4 ∨ j = 5 ∨ j = 6 := by omega
    rcases this with rfl | rfl | rfl | rfl | rfl | rfl | rfl <;> rfl)
  exact this
theorem ptr0 (b : Nat) (w : World) : (Instr.index 102 (.agg #[.pointer (some ⟨b, 1, none⟩), .pointer (some ⟨b, 2, none⟩)]) (.int .i64 0)).run Tryz.prog w = .ok (.pointer (some ⟨b, 1, none⟩)) w := by kernel_rfl
theorem ptr1 (b : Nat) (w : World) : (Instr.index 102 (.agg #[.pointer (some ⟨b, 1, none⟩), .pointer (some ⟨b, 2, none⟩)]) (.int .i64 1)).run Tryz.prog w = .ok (.pointer (some ⟨b, 2, none⟩)) w := by kernel_rfl

set_option maxRecDepth 100000 in
set_option maxHeartbeats 4000000 in
theorem parse_is (l : List UInt8) (hl : l.length ≤ 100000) (w : World) (hT : Door.Tabs w) :
    Calls Tryz.prog 29 #[.string ⟨l.toArray⟩] w fun e w' => e = .returned (.tuple #[.agg #[.int .i64 ((parseL l).getD (0, 0, 0)).1, .int .i64 ((parseL l).getD (0, 0, 0)).2.1, .int .i64 ((parseL l).getD (0, 0, 0)).2.2], .bool (parseL l).isSome]) ∧ Kept No w w' := by
  obtain ⟨r, hr⟩ : ∃ r, parseL l = r := ⟨_, rfl⟩
  rw [hr]
  have HP := Lib.hid hr
  clear hr
  obtain ⟨s0, hs0⟩ : ∃ s : ByteArray, (⟨l.toArray⟩ : ByteArray) = s := ⟨_, rfl⟩
  have hW := words_is l hl
  rw [hs0] at hW ⊢
  have HW := Lib.hid hW
  have HT := Lib.hid hT
  have HS0 := Lib.hid hs0
  have hb0 := Box.new w #[.int .i64 0, .int .i64 0, .int .i64 0] 45
  have hk0 : Kept No w (w.alloc (.cells #[.int .i64 0, .int .i64 0, .int .i64 0] 45)) := (Kept.refl _ _).alloc _
  clear hW hT hs0
  go_enter Tryz.func29, Tryz.ntmps29
  go_upto_region 1 with fail
  generalize w.alloc (.cells #[.int .i64 0, .int .i64 0, .int .i64 0] 45) = w0 at *
  go_wp2_with fail
  refine (HW.out w0).mono ?_
  rintro e w1 ⟨k1, v, rfl, hseg⟩
  have hb1 := hb0.kept k1 id
  have hk1 := hk0.trans k1 (fun _ _ f => f)
  clear k1 hb0 hk0
  obtain ⟨_, ao, cw, rfl, hc, hm, hn, hR⟩ := hseg.rd
  unfold maxLen at hm
  by_cases h3 : (wordsL l).length = 3
  · obtain ⟨x, y, z, hxyz⟩ : ∃ x y z, wordsL l = [x, y, z] := by
      match hw : wordsL l, h3 with
      | [x, y, z], _ => exact ⟨x, y, z, rfl⟩
    have hpp := parse_three hxyz
    rw [HP.out] at hpp
    rw [hxyz] at hR
    obtain ⟨g, o, rfl, hg, hcell⟩ := hR (by simp)
    obtain ⟨sx, hsx⟩ : ∃ s : ByteArray, (⟨x.toArray⟩ : ByteArray) = s := ⟨_, rfl⟩
    obtain ⟨sy, hsy⟩ : ∃ s : ByteArray, (⟨y.toArray⟩ : ByteArray) = s := ⟨_, rfl⟩
    obtain ⟨sz, hsz⟩ : ∃ s : ByteArray, (⟨z.toArray⟩ : ByteArray) = s := ⟨_, rfl⟩
    have x0 : w1.cell? ⟨g, o, none⟩ = some (.string sx) := by rw [← hsx]; exact hcell 0 _ rfl
    have x1 : w1.cell? ⟨g, o + 1, none⟩ = some (.string sy) := by rw [← hsy]; exact hcell 1 _ rfl
    have x2 : w1.cell? ⟨g, o + 2, none⟩ = some (.string sz) := by rw [← hsz]; exact hcell 2 _ rfl
    have ly : y.length ≤ 1000000 := by have := words_le (l := l) (p := y) (by rw [hxyz]; simp); omega
    have lz : z.length ≤ 1000000 := by have := words_le (l := l) (p := z) (by rw [hxyz]; simp); omega
    have HY := Lib.hid (small_is y ly 16)
    have HZ := Lib.hid (small_is z lz 16)
    rw [hsy] at HY
    rw [hsz] at HZ
    rw [h3] at hc ⊢
    have HPP := Lib.hid hpp
    have HN := Lib.hid names_is
    clear hn hR hseg hcell h3 HP hpp hxyz ly lz hsy hsz
    go_upto_region 4 with fail
    go_wp2_with fail
    refine (HN.out _).mono ?_
    rintro e w2 ⟨rfl, k2⟩
    have hb2 := hb1.kept k2 id
    have hk2 := hk1.trans k2 (fun _ _ f => f)
    have y0 := (k2.cell hg id).trans x0
    have y1 := (k2.cell (p := ⟨g, o + 1, none⟩) hg id).trans x1
    have y2 := (k2.cell (p := ⟨g, o + 2, none⟩) hg id).trans x2
    have hg2 : g < w2.heap.size := Nat.lt_of_lt_of_le hg k2.size
    clear x0 x1 x2 hb1 hk1 k2 hg
    have hn0 : Box (w2.alloc (.cells #[.string ⟨#[]⟩, .string ⟨#[]⟩, .string ⟨#[]⟩, .string ⟨#[]⟩, .string ⟨#[]⟩, .string ⟨#[]⟩, .string ⟨#[]⟩] 87)) w2.heap.size #[.string ⟨#[]⟩, .string ⟨#[]⟩, .string ⟨#[]⟩, .string ⟨#[]⟩, .string ⟨#[]⟩, .string ⟨#[]⟩, .string ⟨#[]⟩] 87 := Box.new _ _ _
    have hb3 := hb2.alloc (.cells #[.string ⟨#[]⟩, .string ⟨#[]⟩, .string ⟨#[]⟩, .string ⟨#[]⟩, .string ⟨#[]⟩, .string ⟨#[]⟩, .string ⟨#[]⟩] 87)
    have hk3 := hk2.alloc (.cells #[.string ⟨#[]⟩, .string ⟨#[]⟩, .string ⟨#[]⟩, .string ⟨#[]⟩, .string ⟨#[]⟩, .string ⟨#[]⟩, .string ⟨#[]⟩] 87)
    have hka : Kept No w2 (w2.alloc (.cells #[.string ⟨#[]⟩, .string ⟨#[]⟩, .string ⟨#[]⟩, .string ⟨#[]⟩, .string ⟨#[]⟩, .string ⟨#[]⟩, .string ⟨#[]⟩] 87)) := (Kept.refl _ _).alloc _
    go_upto_region 5 with (refine wpList_store_rowTo rfl 87 _ _ rfl rfl w2.heap.size nameS (by kernel_rfl) (by kernel_rfl) 87 _ hn0 (by kernel_rfl) (by kernel_rfl) (by kernel_rfl) ?_)
    have hn4 := Box.row (cs := nameS) hn0
    have hb4 := Box.row_other (cs := nameS) hb3 (g := w2.heap.size) (by have := hb2.lt; omega)
    have hs4 : ((w2.alloc (.cells #[.string ⟨#[]⟩, .string ⟨#[]⟩, .string ⟨#[]⟩, .string ⟨#[]⟩, .string ⟨#[]⟩, .string ⟨#[]⟩, .string ⟨#[]⟩] 87)).setRow w2.heap.size nameS).heap.size = w2.heap.size + 1 := by rw [setRow_size]; exact World.size_alloc _ _
    have hk4 := row_kept hk3 (g := w2.heap.size) hk2.size nameS
    have hkb := row_kept hka (g := w2.heap.size) (Nat.le_refl _) nameS
    have z0 := (hkb.cell (p := ⟨g, o, none⟩) hg2 id).trans y0
    have z1 := (hkb.cell (p := ⟨g, o + 1, none⟩) hg2 id).trans y1
    have z2 := (hkb.cell (p := ⟨g, o + 2, none⟩) hg2 id).trans y2
    have hg4 : g < ((w2.alloc (.cells #[.string ⟨#[]⟩, .string ⟨#[]⟩, .string ⟨#[]⟩, .string ⟨#[]⟩, .string ⟨#[]⟩, .string ⟨#[]⟩, .string ⟨#[]⟩] 87)).setRow w2.heap.size nameS).heap.size := by rw [hs4]; omega
    obtain ⟨n7, hn7⟩ : ∃ n7, w2.heap.size = n7 := ⟨_, rfl⟩
    have hwn : w.heap.size < n7 := by have := hb2.lt; omega
    have hgn : g < n7 := by omega
    generalize (w2.alloc (.cells #[.string ⟨#[]⟩, .string ⟨#[]⟩, .string ⟨#[]⟩, .string ⟨#[]⟩, .string ⟨#[]⟩, .string ⟨#[]⟩, .string ⟨#[]⟩] 87)).setRow w2.heap.size nameS = w4 at *
    rw [hn7] at *
    clear hn0 hb3 hk3 hka hkb hb2 hk2 y0 y1 y2 hg2 hn7
    obtain ⟨w5, hw5⟩ : ∃ w5, w4.alloc (.cells #[.int .i64 0, .int .i64 0, .int .i64 0] 45) = w5 := ⟨_, rfl⟩
    have k45 : Kept No w4 w5 := by rw [← hw5]; exact (Kept.refl _ _).alloc _
    have d0 : ∀ b, (two w4 w5 b).cell? ⟨g, o, none⟩ = some (.string sx) := two_cell z0 k45 hg4
    have hb5 : w5.heap[w4.heap.size]? = some (.cells #[.int .i64 0, .int .i64 0, .int .i64 0] 45 (0, 0)) := by rw [← hw5]; exact heap_alloc_new w4 _
    obtain ⟨kz, hkz⟩ : ∃ z, kindOf x = z := ⟨_, rfl⟩
    have hI : ∀ b m, Calls Tryz.prog 51 #[.slice (some ⟨n7, 0, none⟩) 7 7, .string sx] ((two w4 w5 b).drewN m) fun e w' => e = .returned (.int .i64 kz) ∧ w' = (two w4 w5 b).drewN m := fun b m => by
      rw [← hkz, kindOf, hsx]
      refine idx_is n7 sx _ ?_
      cases b
      · exact hn4
      · have hn5 := hn4.kept k45 id
        exact hn5
    have HI := Lib.hid hI
    have HW5 := Lib.hid hw5
    have HB5 := Lib.hid hb5
    have HKZ := Lib.hid hkz
    have HS4 := Lib.hid hs4
    clear hI hw5 hb5 hkz hsx hs4
    refine wp_region_alloc_tail 7 6 _ rfl rfl (by omega) (Drawn w4 w5) ⟨1, rfl⟩ (by kernel_rfl) (by kernel_rfl) ?_
    simp only [List.take_succ_cons, List.take_zero, List.drop_succ_cons, List.drop_zero]
    repeat (refine lexA_step rfl (fun K hK => ?_); go_simp; first
      | (refine hK _ ?_; clear hK K)
      | (apply Exists.intro
         refine ⟨⟨fun _ => ?_, fun _ => ?_⟩, hK _ ?_⟩
         iterate 2 (go_at_call 51; with_reducible exact Calls.quiet_of_same (HI.out _ _))
         clear hK K))
    refine lexA_alloc rfl rfl (.pointer (some ⟨w4.heap.size, 0, none⟩)) ?_ ?_
    · rintro _ ⟨m, rfl⟩
      refine ⟨w5.drewN m, ?_, ⟨m, rfl⟩⟩
      rw [← HW5.out]
      go_simp
      exact ⟨rfl, rfl⟩
    refine lexR_nil ?_
    rintro _ ⟨m, rfl⟩
    have hz6 : ((two w4 w5 true).drewN m).heap[w4.heap.size]? = some (.cells #[.int .i64 0, .int .i64 0, .int .i64 0] 45 (0, 0)) := HB5.out
    have hk46 : Kept No w4 ((two w4 w5 true).drewN m) := k45.drewN m
    generalize (two w4 w5 true).drewN m = w6 at *
    have hs4 := HS4.out
    rw [hs4] at hz6 hg4
    simp only [hs4]
    have hb6 := hb4.kept hk46 id
    have hk6 := hk4.trans hk46 (fun _ _ f => f)
    have y1 := (hk46.cell (p := ⟨g, o + 1, none⟩) (show g < w4.heap.size by omega) id).trans z1
    have y2 := (hk46.cell (p := ⟨g, o + 2, none⟩) (show g < w4.heap.size by omega) id).trans z2
    clear hb4 hk4 hk46 z0 z1 z2 d0 HI HW5 HB5 k45 hn4
    refine wpList_store_rowTo rfl 45 _ _ rfl rfl (n7 + 1) #[.int .i64 kz, .int .i64 0, .int .i64 0] rfl rfl 45 _ hz6 (by kernel_rfl) (by kernel_rfl) (by kernel_rfl) ?_
    have hz7 := Box.row (cs := #[.int .i64 kz, .int .i64 0, .int .i64 0]) hz6
    have hb7 := Box.row_other (cs := #[.int .i64 kz, .int .i64 0, .int .i64 0]) hb6 (g := n7 + 1) (by omega)
    have hk7 := row_kept hk6 (g := n7 + 1) (by omega) #[.int .i64 kz, .int .i64 0, .int .i64 0]
    have x1 : (w6.setRow (n7 + 1) #[.int .i64 kz, .int .i64 0, .int .i64 0]).cell? ⟨g, o + 1, none⟩ = some (.string sy) := (World.cell?_of_block (setRow_other w6 (n7 + 1) g _ (by omega))).trans y1
    have x2 : (w6.setRow (n7 + 1) #[.int .i64 kz, .int .i64 0, .int .i64 0]).cell? ⟨g, o + 2, none⟩ = some (.string sz) := (World.cell?_of_block (setRow_other w6 (n7 + 1) g _ (by omega))).trans y2
    generalize w6.setRow (n7 + 1) #[.int .i64 kz, .int .i64 0, .int .i64 0] = w7 at *
    refine wpList_nil ?_
    clear hz6 hb6 hk6 y1 y2
    have hwb : w.heap.size < n7 + 1 := by omega
    have hgb : g < n7 + 1 := by omega
    clear hwn hgn hg4 hs4 HS4
    generalize n7 + 1 = b6 at *
    have hp0 := ptr0 b6
    have hp1 := ptr1 b6
    go_wp2_with fail
    go_loopw [27] (fun i wr => ∃ a b : Int, Hid ((i = .int .i64 0 ∧ a = 0 ∧ b = 0) ∨ (i = .int .i64 1 ∧ smallL y 16 = some a ∧ b = 0) ∨ (i = .int .i64 2 ∧ smallL y 16 = some a ∧ smallL z 16 = some b)) ∧ Box wr b6 #[.int .i64 kz, .int .i64 a, .int .i64 b] 45 ∧ Box wr w.heap.size #[.int .i64 0, .int .i64 0, .int .i64 0] 45 ∧ Kept No w wr ∧ wr.cell? ⟨g, o + 1, none⟩ = some (.string sy) ∧ wr.cell? ⟨g, o + 2, none⟩ = some (.string sz)) (fun i _ => 2 - (intOf i).toNat)
    case atStart => exact ⟨0, 0, Lib.hid (.inl ⟨rfl, rfl, rfl⟩), hz7, hb7, hk7, x1, x2⟩
    case round =>
      obtain ⟨a, b, Hi, hz, hb, hK, x1, x2⟩ := hrel
      have hTr := HT.out.kept hK
      have HTR := Lib.hid hTr
      clear hTr
      rcases Hi.out with ⟨rfl, rfl, rfl⟩ | ⟨rfl, ha, rfl⟩ | ⟨rfl, ha, hbb⟩
      · clear Hi
        cases hy : smallL y 16 with
        | none =>
          rw [hy] at HY HPP
          obtain rfl : r = none := HPP.out
          simp only [Option.getD_none, Option.isSome_none] at HY
          clear hy HPP
          go_wp2_with fail
          refine (HY.out _ HTR.out).mono ?_
          rintro e w8 ⟨rfl, k8⟩
          have hb8 := hb.kept k8 id
          have hk8 := hK.trans k8 (fun _ _ f => f)
          clear hz hb hK x1 x2 k8 HTR
          go_wp2_with (refine wpList_store_rowTo rfl 45 _ _ rfl rfl w.heap.size #[.int .i64 0, .int .i64 0, .int .i64 0] (by kernel_rfl) (by kernel_rfl) 45 _ hb8 (by kernel_rfl) (by kernel_rfl) (by kernel_rfl) ?_)
          have hb9 := Box.row (cs := #[.int .i64 0, .int .i64 0, .int .i64 0]) hb8
          have hk9 := row_kept hk8 (Nat.le_refl _) #[.int .i64 0, .int .i64 0, .int .i64 0]
          go_wp2_with fail
          refine bodyPost_ret (results_row_tmp rfl _ _ w.heap.size 45 #[.int .i64 0, .int .i64 0, .int .i64 0] (0, 0) _ rfl hb9 Tryz.underlying45 rfl (by kernel_rfl)) rfl ⟨rfl, hk9⟩
        | some a =>
          rw [hy] at HY
          simp only [Option.getD_some, Option.isSome_some] at HY
          have HA := Lib.hid hy
          clear hy
          go_wp2_with fail
          refine (HY.out _ HTR.out).mono ?_
          rintro e w8 ⟨rfl, k8⟩
          have hb8 := hb.kept k8 id
          have hz8 := hz.kept k8 id
          have hk8 := hK.trans k8 (fun _ _ f => f)
          have y1 := (k8.cell (p := ⟨g, o + 1, none⟩) (Nat.lt_trans hgb hz.lt) id).trans x1
          have y2 := (k8.cell (p := ⟨g, o + 2, none⟩) (Nat.lt_trans hgb hz.lt) id).trans x2
          have c1 : w8.cell? ⟨b6, 1, none⟩ = some (.int .i64 0) := hz8.cell 1
          have f1 := hz8.frozen 1
          clear hz hb hK x1 x2 k8 HTR
          go_wp2_with fail
          have hz9 := Box.set hz8 1 (.int .i64 a)
          have hb9 := Box.set_other hb8 (b := b6) (by omega) 1 (.int .i64 a)
          have hk9 := hk8.setCell (p := ⟨b6, 1, none⟩) (fun h => absurd h (by show ¬ b6 < w.heap.size; omega)) (.int .i64 a)
          have w1 : (w8.setCell ⟨b6, 1, none⟩ (.int .i64 a)).cell? ⟨g, o + 1, none⟩ = some (.string sy) := (World.cell?_setCell_other _ _ _ _ (fun e => absurd (congrArg Addr.block e) (by show ¬ b6 = g; omega))).trans y1
          have w2 : (w8.setCell ⟨b6, 1, none⟩ (.int .i64 a)).cell? ⟨g, o + 2, none⟩ = some (.string sz) := (World.cell?_setCell_other _ _ _ _ (fun e => absurd (congrArg Addr.block e) (by show ¬ b6 = g; omega))).trans y2
          go_roundw
          case rel => exact ⟨a, 0, Lib.hid (.inr (.inl ⟨by go_num, (by first | rfl | exact HA.out), rfl⟩)), hz9, hb9, hk9, w1, w2⟩
          case measure => simp [intOf]
      · have HA := Lib.hid ha
        clear Hi ha
        cases hy : smallL z 16 with
        | none =>
          rw [hy] at HZ HPP
          have hrn := HPP.out
          rw [HA.out] at hrn
          obtain rfl : r = none := hrn
          simp only [Option.getD_none, Option.isSome_none] at HZ
          clear hy HPP
          go_wp2_with fail
          refine (HZ.out _ HTR.out).mono ?_
          rintro e w8 ⟨rfl, k8⟩
          have hb8 := hb.kept k8 id
          have hk8 := hK.trans k8 (fun _ _ f => f)
          clear hz hb hK x1 x2 k8 HTR
          go_wp2_with (refine wpList_store_rowTo rfl 45 _ _ rfl rfl w.heap.size #[.int .i64 0, .int .i64 0, .int .i64 0] (by kernel_rfl) (by kernel_rfl) 45 _ hb8 (by kernel_rfl) (by kernel_rfl) (by kernel_rfl) ?_)
          have hb9 := Box.row (cs := #[.int .i64 0, .int .i64 0, .int .i64 0]) hb8
          have hk9 := row_kept hk8 (Nat.le_refl _) #[.int .i64 0, .int .i64 0, .int .i64 0]
          go_wp2_with fail
          refine bodyPost_ret (results_row_tmp rfl _ _ w.heap.size 45 #[.int .i64 0, .int .i64 0, .int .i64 0] (0, 0) _ rfl hb9 Tryz.underlying45 rfl (by kernel_rfl)) rfl ⟨rfl, hk9⟩
        | some b =>
          rw [hy] at HZ
          simp only [Option.getD_some, Option.isSome_some] at HZ
          have HB := Lib.hid hy
          clear hy
          go_wp2_with fail
          refine (HZ.out _ HTR.out).mono ?_
          rintro e w8 ⟨rfl, k8⟩
          have hb8 := hb.kept k8 id
          have hz8 := hz.kept k8 id
          have hk8 := hK.trans k8 (fun _ _ f => f)
          have y1 := (k8.cell (p := ⟨g, o + 1, none⟩) (Nat.lt_trans hgb hz.lt) id).trans x1
          have y2 := (k8.cell (p := ⟨g, o + 2, none⟩) (Nat.lt_trans hgb hz.lt) id).trans x2
          have c1 : w8.cell? ⟨b6, 2, none⟩ = some (.int .i64 0) := hz8.cell 2
          have f1 := hz8.frozen 2
          clear hz hb hK x1 x2 k8 HTR
          go_wp2_with fail
          have hz9 := Box.set hz8 2 (.int .i64 b)
          have hb9 := Box.set_other hb8 (b := b6) (by omega) 2 (.int .i64 b)
          have hk9 := hk8.setCell (p := ⟨b6, 2, none⟩) (fun h => absurd h (by show ¬ b6 < w.heap.size; omega)) (.int .i64 b)
          have w1 : (w8.setCell ⟨b6, 2, none⟩ (.int .i64 b)).cell? ⟨g, o + 1, none⟩ = some (.string sy) := (World.cell?_setCell_other _ _ _ _ (fun e => absurd (congrArg Addr.block e) (by show ¬ b6 = g; omega))).trans y1
          have w2 : (w8.setCell ⟨b6, 2, none⟩ (.int .i64 b)).cell? ⟨g, o + 2, none⟩ = some (.string sz) := (World.cell?_setCell_other _ _ _ _ (fun e => absurd (congrArg Addr.block e) (by show ¬ b6 = g; omega))).trans y2
          go_roundw
          case rel => exact ⟨a, b, Lib.hid (.inr (.inr ⟨by go_num, (by first | rfl | exact HA.out), (by first | rfl | exact HB.out)⟩)), hz9, hb9, hk9, w1, w2⟩
          case measure => simp [intOf]
      · have hpp := HPP.out
        rw [ha, hbb, HKZ.out] at hpp
        simp only at hpp
        clear Hi HPP HKZ ha hbb HY HZ x1 x2
        have hT2 := text_is kz a b wr HTR.out
        obtain ⟨tx, htx⟩ : ∃ s : ByteArray, (⟨(keyT kz a b).toArray⟩ : ByteArray) = s := ⟨_, rfl⟩
        rw [htx] at hT2
        have HTX := Lib.hid hT2
        have c0 : wr.cell? ⟨b6, 0, none⟩ = some (.int .i64 kz) := hz.cell 0
        have c1 : wr.cell? ⟨b6, 1, none⟩ = some (.int .i64 a) := hz.cell 1
        have c2 : wr.cell? ⟨b6, 2, none⟩ = some (.int .i64 b) := hz.cell 2
        clear hT2
        by_cases hk : keyT kz a b = l
        · rw [if_pos hk] at hpp
          obtain rfl := hpp
          have hs : tx = s0 := by rw [← htx, ← HS0.out, hk]
          subst hs
          clear hk htx HS0
          go_wp2_with fail
          refine HTX.out.mono ?_
          rintro e w8 ⟨rfl, k8⟩
          have hb8 := hb.kept k8 id
          have hz8 := hz.kept k8 id
          have hk8 := hK.trans k8 (fun _ _ f => f)
          have d0 : w8.cell? ⟨b6, 0, none⟩ = some (.int .i64 kz) := hz8.cell 0
          have d1 : w8.cell? ⟨b6, 1, none⟩ = some (.int .i64 a) := hz8.cell 1
          have d2 : w8.cell? ⟨b6, 2, none⟩ = some (.int .i64 b) := hz8.cell 2
          clear hz hb hK k8 HTR c0 c1 c2
          go_wp2_with (refine wpList_store_rowTo rfl 45 _ _ rfl rfl w.heap.size #[.int .i64 kz, .int .i64 a, .int .i64 b] rfl rfl 45 _ hb8 (by kernel_rfl) (by kernel_rfl) (by kernel_rfl) ?_)
          have hb9 := Box.row (cs := #[.int .i64 kz, .int .i64 a, .int .i64 b]) hb8
          have hk9 := row_kept hk8 (Nat.le_refl _) #[.int .i64 kz, .int .i64 a, .int .i64 b]
          go_wp2_with fail
          refine bodyPost_ret (results_row_tmp rfl _ _ w.heap.size 45 #[.int .i64 kz, .int .i64 a, .int .i64 b] (0, 0) _ rfl hb9 Tryz.underlying45 rfl (by kernel_rfl)) rfl ⟨rfl, hk9⟩
        · rw [if_neg hk] at hpp
          obtain rfl := hpp
          have hs : (tx.toList == s0.toList) = false := by
            rw [← htx, ← HS0.out, mk_toList, mk_toList]
            simpa using hk
          clear hk htx
          go_wp2_with fail
          refine HTX.out.mono ?_
          rintro e w8 ⟨rfl, k8⟩
          have hb8 := hb.kept k8 id
          have hk8 := hK.trans k8 (fun _ _ f => f)
          clear hz hb hK k8 HTR c0 c1 c2
          go_wp2_with (refine wpList_store_rowTo rfl 45 _ _ rfl rfl w.heap.size #[.int .i64 0, .int .i64 0, .int .i64 0] (by kernel_rfl) (by kernel_rfl) 45 _ hb8 (by kernel_rfl) (by kernel_rfl) (by kernel_rfl) ?_)
          have hb9 := Box.row (cs := #[.int .i64 0, .int .i64 0, .int .i64 0]) hb8
          have hk9 := row_kept hk8 (Nat.le_refl _) #[.int .i64 0, .int .i64 0, .int .i64 0]
          go_wp2_with fail
          refine bodyPost_ret (results_row_tmp rfl _ _ w.heap.size 45 #[.int .i64 0, .int .i64 0, .int .i64 0] (0, 0) _ rfl hb9 Tryz.underlying45 rfl (by kernel_rfl)) rfl ⟨rfl, hk9⟩
  · obtain rfl : none = r := by rw [← HP.out]; exact (parse_few h3).symm
    have hlen : ((wordsL l).length : Int) ≠ 3 := by omega
    generalize (wordsL l).length = n at *
    have hq : ((n : Int) != 3) = true := by simpa using hlen
    clear hseg hR hn h3 HP
    go_wp2_with (refine wpList_store_rowTo rfl 45 _ _ rfl rfl w.heap.size #[.int .i64 0, .int .i64 0, .int .i64 0] (by kernel_rfl) (by kernel_rfl) 45 _ hb1 (by kernel_rfl) (by kernel_rfl) (by kernel_rfl) ?_)
    have hb2 := Box.row (cs := #[.int .i64 0, .int .i64 0, .int .i64 0]) hb1
    have hk2 := row_kept hk1 (Nat.le_refl _) #[.int .i64 0, .int .i64 0, .int .i64 0]
    go_wp2_with fail
    refine bodyPost_ret (results_row_tmp rfl _ _ w.heap.size 45 #[.int .i64 0, .int .i64 0, .int .i64 0] (0, 0) _ rfl hb2 Tryz.underlying45 rfl (by kernel_rfl)) rfl ⟨rfl, hk2⟩
end Go.Proofs.YtaffaliplmfagaaGreatDoor.Line
