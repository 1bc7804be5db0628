/-
  KeysAdd answers true, whatever the lists of keys and the key are. Condition: the seven variables that the row lists lie as their initialisers lay them.
-/
import Derived.Test.YtnggbfdnlmkklaaDoorKeyRef2
import Derived.Test.YtnggbfdnlmkklaaDoorKeyLive
import Derived.Test.YtnggbfdnlmkklaaDoorOpenRows
import Derived.BigQuiet
import Derived.Lay
import Derived.MakeChecks
import Derived.Test.YtnggbfdnlmkklaaDoorDoor
import Derived.Test.YtnggbfdnlmkklaaDoorOpen
import Derived.Test.YtnggbfdnlmkklaaDoorCards
import Derived.Test.YtnggbfdnlmkklaaDoorTie
set_option linter.unusedVariables false
namespace Go.Proofs.YtnggbfdnlmkklaaDoor.keysAdd
open Go.RowKit Go.Sort Go.Proofs.YtnggbfdnlmkklaaDoor.Own Go.Proofs.YtnggbfdnlmkklaaDoor.Conv Go.Proofs.YtnggbfdnlmkklaaDoor.Line Go.Proofs.YtnggbfdnlmkklaaDoor.Calm

theorem of3 : ∀ (n : Nat) (zs : List Int), zs.length = n * 3 → ∃ xs : List K3, vals zs = keyV xs ∧ xs.length = n
  | 0, zs, h => by
    obtain rfl : zs = [] := List.eq_nil_of_length_eq_zero (by omega)
    exact ⟨[], rfl, rfl⟩
  | n + 1, a :: b :: c :: r, h => by
    obtain ⟨xs, h1, h2⟩ := of3 n r (by simp at h; omega)
    refine ⟨(a, b, c) :: xs, ?_, by simp [h2]⟩
    have e : keyV ((a, b, c) :: xs) = .int .i64 a :: .int .i64 b :: .int .i64 c :: keyV xs := rfl
    rw [e, ← h1]
    rfl
  | n + 1, [], h => by simp at h
  | n + 1, [_], h => by simp at h; omega
  | n + 1, [_, _], h => by simp at h; omega

theorem take_fold {xs : List K3} {m : Nat} {x : K3} (h : xs[m]? = some x) : (xs.take (m + 1)).foldl addC [] = addC ((xs.take m).foldl addC []) x := by
  rw [List.take_add_one, h, List.foldl_append]
  rfl

set_option maxRecDepth 100000 in
set_option maxHeartbeats 16000000 in
theorem body (w : World) (hT : Door.Tabs w) (v u : Value) (n0 m0 : Nat) (xs0 ys0 : List K3) (hx : Rd w 3 v n0 (keyV xs0)) (hy : Rd w 3 u m0 (keyV ys0)) (k1 k2 k3 : Int) :
    Calls Tryd.prog 5 #[v, u, .agg #[.int .i64 k1, .int .i64 k2, .int .i64 k3]] w fun e w' => e = .returned (.bool true) ∧ Below w.heap.size w w' := by
  have hk0 : Kept No w (w.alloc (.cells #[.int .i64 k1, .int .i64 k2, .int .i64 k3] 23)) := (Kept.refl _ _).alloc _
  have hb0 := Box.new w #[.int .i64 k1, .int .i64 k2, .int .i64 k3] 23
  have HX := Lib.hid hx
  have HY := Lib.hid hy
  have HT := Lib.hid hT
  clear hx hy hT
  go_enter Tryd.func5, Tryd.ntmps5
  go_upto_region 1 with fail
  generalize w.alloc (.cells #[.int .i64 k1, .int .i64 k2, .int .i64 k3] 23) = w0 at *
  go_wp2_with fail
  refine (alive_is w0 (HT.out.kept hk0)).mono ?_
  rintro e w1 ⟨rfl, k1'⟩
  have hb1 := hb0.kept k1' id
  have hk1 := hk0.trans k1' (fun _ _ f => f)
  clear hb0 hk0 k1'
  go_wp2_with fail
  refine (few_is w1 v n0 xs0 (HX.out.kept hk1 (fun _ _ f => f))).mono ?_
  rintro e w2 ⟨rfl, v2, n, rfl, hn, hx2⟩
  go_wp2_with fail
  refine (few_is w2 u m0 ys0 (HY.out.kept hk1 (fun _ _ f => f))).mono ?_
  rintro e w3 ⟨rfl, u2, m, rfl, hm, hy2⟩
  generalize xs0.take 30 = xs at *
  generalize ys0.take 30 = ys at *
  have hxl : xs.length = n := by have := hx2.len; rw [keyV_len] at this; omega
  have HL := Lib.hid hxl
  obtain ⟨av, cv, rfl, hnc, hcm⟩ := key_slice hx2
  clear HX HY HT hxl
  go_wp2_with fail
  go_loopw [7, 8, 9] (fun a b i wr => ∃ (k la lb : Nat), k ≤ n ∧ i = .int .i64 k ∧ la ≤ 31 ∧ lb ≤ 31 ∧ Rd wr 3 a la (keyV ((xs.take k).foldl addC [])) ∧ Rd wr 3 b lb (keyV ((xs.take k).foldl addC [])) ∧ Rd wr 3 (.slice av n cv) n (keyV xs) ∧ Rd wr 3 u2 m (keyV ys) ∧ Box wr w.heap.size #[.int .i64 k1, .int .i64 k2, .int .i64 k3] 23 ∧ Kept No w wr) (fun _ _ i _ => n - (intOf i).toNat)
  case atStart => exact ⟨0, 0, 0, by omega, rfl, by omega, by omega, by simpa [keyV, vals] using Rd.nil w3 3, by simpa [keyV, vals] using Rd.nil w3 3, hx2, hy2, hb1, hk1⟩
  case round =>
    obtain ⟨k, la, lb, hk, rfl, hla, hlb, ha, hb, hxr, hyr, hbx, hK⟩ := hrel
    clear hx2 hy2 hb1 hk1
    by_cases hlt : k < n
    · obtain ⟨x, hxk⟩ : ∃ x, xs[k]? = some x := ⟨_, List.getElem?_eq_getElem (by have := HL.out; omega)⟩
      have hfl := len_fold (xs.take k) []
      have hla2 : la = ((xs.take k).foldl addC []).length := by have := ha.len; rw [keyV_len] at this; omega
      have hlb2 : lb = ((xs.take k).foldl addC []).length := by have := hb.len; rw [keyV_len] at this; omega
      have hla30 : la ≤ k := by rw [hla2]; rw [List.length_take] at hfl; simp at hfl; omega
      have hlb30 : lb ≤ k := by rw [hlb2]; rw [List.length_take] at hfl; simp at hfl; omega
      obtain ⟨g, o, rfl, hg, e1, e2, e3⟩ := key_cells hxr rfl k x hxk
      have j1 : (k : Int) < (n : Int) := by omega
      have HST := Lib.hid (take_fold hxk)
      have HRI := Lib.hid (rising_fold (xs.take k) [] (by simp [Rising]))
      clear hla2 hlb2 hfl
      obtain ⟨x1, x2, x3⟩ := x
      simp only at e1 e2 e3
      go_wp2_with fail
      refine (add_is wr _ la _ ha (by omega) x1 x2 x3).mono ?_
      rintro e w4 ⟨va, ma, rfl, hma, hsa, k4⟩
      have hb4 := hb.kept k4 (fun _ _ f => f)
      have hx4 := hxr.kept k4 (fun _ _ f => f)
      have hy4 := hyr.kept k4 (fun _ _ f => f)
      have hbx4 := hbx.kept k4 id
      have hK4 := hK.trans k4 (fun _ _ f => f)
      clear ha hb hxr hyr hbx hK k4 e1 e2 e3
      obtain ⟨g', o', he', _, e1, e2, e3⟩ := key_cells hx4 rfl k (x1, x2, x3) hxk
      cases he'
      simp only at e1 e2 e3
      clear hxk
      go_wp2_with fail
      refine (refadd_is w4 _ lb _ hb4 (by omega) x1 x2 x3).mono ?_
      rintro e w5 ⟨vb, mb, rfl, hmb, hsb, k5⟩
      rw [addR_eq _ _ HRI.out] at hsb
      have hsa5 := hsa.kept k5 (fun _ _ f => f)
      have hx5 := hx4.kept k5 (fun _ _ f => f)
      have hy5 := hy4.kept k5 (fun _ _ f => f)
      have hbx5 := hbx4.kept k5 id
      have hK5 := hK4.trans k5 (fun _ _ f => f)
      have hmb2 : mb = ma := by
        have h1 := hsa5.len
        have h2 := hsb.len
        omega
      clear hb4 hx4 hy4 hbx4 hK4 k5 e1 e2 e3 hsa
      go_wp2_with fail
      go_roundw
      case rel => exact ⟨k + 1, ma, mb, by omega, by go_num, by omega, by omega, by rw [HST.out]; exact hsa5.rd, by rw [HST.out]; exact hsb.rd, hx5, hy5, hbx5, hK5⟩
      case measure => simp [intOf]; omega
    · obtain rfl : k = n := by omega
      have htk : xs.take k = xs := List.take_of_length_le (by have := HL.out; omega)
      rw [htk] at ha hb
      obtain ⟨A, hA⟩ : ∃ A, xs.foldl addC [] = A := ⟨_, rfl⟩
      have hmem : ∀ x, x ∈ A ↔ x ∈ xs := fun x => by rw [← hA, mem_fold]; simp
      have hri : Rising A := by rw [← hA]; exact rising_fold xs [] (by simp [Rising])
      rw [hA] at ha hb
      have hlaA : A.length = la := by have := ha.len; rw [keyV_len] at this; omega
      obtain ⟨aa, ca, rfl, _, hca⟩ := key_slice ha
      have HM := Lib.hid hmem
      have HRI := Lib.hid hri
      have HLA := Lib.hid hlaA
      clear hmem hri hlaA hA htk
      go_wp2_with fail
      go_loopw [10] (fun i wr => ∃ j : Nat, j ≤ la ∧ i = .int .i64 j ∧ Rd wr 3 (.slice aa la ca) la (keyV A) ∧ Rd wr 3 u8 lb (keyV A) ∧ Rd wr 3 (.slice av k cv) k (keyV xs) ∧ Rd wr 3 u2 m (keyV ys) ∧ Box wr w.heap.size #[.int .i64 k1, .int .i64 k2, .int .i64 k3] 23 ∧ Kept No w wr) (fun i _ => la - (intOf i).toNat)
      case atStart => exact ⟨0, by omega, rfl, ha, hb, hxr, hyr, hbx, hK⟩
      case round =>
        clear ha hb hxr hyr hbx hK
        obtain ⟨j, hj, rfl, ha, hb, hxr, hyr, hbx, hK⟩ := hrel
        by_cases hlj : j < la
        · obtain ⟨x, hxj⟩ : ∃ x, A[j]? = some x := ⟨_, List.getElem?_eq_getElem (by have := HLA.out; omega)⟩
          obtain ⟨g, o, rfl, hg, e1, e2, e3⟩ := key_cells ha rfl j x hxj
          have hmx : x ∈ xs := (HM.out x).1 (List.mem_of_getElem? hxj)
          have CH : Hid (∀ p : KW wr, Calls Tryd.prog 17 #[.slice av k cv, .agg #[.int .i64 x.1, .int .i64 x.2.1, .int .i64 x.2.2]] p.w fun e w' => e = .returned (.bool true) ∧ Kept No p.w w') := Lib.hid fun p => by
            have := phas_is p.w (.slice av k cv) k xs (hxr.kept p.h (fun _ _ f => f)) x.1 x.2.1 x.2.2
            rw [decide_eq_true (show (x.1, x.2.1, x.2.2) ∈ xs from hmx)] at this
            exact this
          have cc1 : ∀ p : KW wr, p.w.cell? ⟨g, o + j * 3, none⟩ = some (.int .i64 x.1) := KW.old e1 hg
          have cc2 : ∀ p : KW wr, p.w.cell? ⟨g, o + j * 3 + 1, none⟩ = some (.int .i64 x.2.1) := KW.old e2 hg
          have cc3 : ∀ p : KW wr, p.w.cell? ⟨g, o + j * 3 + 2, none⟩ = some (.int .i64 x.2.2) := KW.old e3 hg
          have j1 : (j : Int) < (la : Int) := by omega
          by_cases hj0 : j = 0
          · have j2 : decide (0 < j) = false := decide_eq_false (by omega)
            clear hxj hmx e1 e2 e3 hj0
            go_wp2_with fail
            refine wp_region_calm (by kernel_rfl) (by kernel_rfl) ?_
            repeat (go_big_quiet_step ((go_at_call 17; with_reducible exact calls_of _ (CH.out _))))
            refine wpQuiet_nil ?_
            rintro _ ⟨p, rfl⟩
            have ha2 := ha.kept p.h (fun _ _ f => f)
            have hb2 := hb.kept p.h (fun _ _ f => f)
            have hx2 := hxr.kept p.h (fun _ _ f => f)
            have hy2 := hyr.kept p.h (fun _ _ f => f)
            have hbx2 := hbx.kept p.h id
            have hK2 := hK.trans p.h (fun _ _ f => f)
            clear ha hb hxr hyr hbx hK cc1 cc2 cc3 CH
            go_wp2_with fail
            go_roundw
            case rel => exact ⟨j + 1, by omega, by go_num, ha2, hb2, hx2, hy2, hbx2, hK2⟩
            case measure => simp [intOf]; omega
          · obtain ⟨y, hyj⟩ : ∃ y, A[j - 1]? = some y := ⟨_, List.getElem?_eq_getElem (by have := HLA.out; omega)⟩
            obtain ⟨g', o', he', _, f1, f2, f3⟩ := key_cells ha rfl (j - 1) y hyj
            cases he'
            have hls : lt3 y x = true := rising_at HRI.out hyj (by rw [show j - 1 + 1 = j by omega]; exact hxj)
            have CL : Hid (∀ p : KW wr, Calls Tryd.prog 7 #[.agg #[.int .i64 y.1, .int .i64 y.2.1, .int .i64 y.2.2], .agg #[.int .i64 x.1, .int .i64 x.2.1, .int .i64 x.2.2]] p.w fun e w' => e = .returned (.bool true) ∧ Kept No p.w w') := Lib.hid fun p => by
              have := less_is y.1 y.2.1 y.2.2 x.1 x.2.1 x.2.2 p.w
              rw [show lessB y.1 y.2.1 y.2.2 x.1 x.2.1 x.2.2 = true from hls] at this
              exact this
            have dd1 : ∀ p : KW wr, p.w.cell? ⟨g, o + (j - 1) * 3, none⟩ = some (.int .i64 y.1) := KW.old f1 hg
            have dd2 : ∀ p : KW wr, p.w.cell? ⟨g, o + (j - 1) * 3 + 1, none⟩ = some (.int .i64 y.2.1) := KW.old f2 hg
            have dd3 : ∀ p : KW wr, p.w.cell? ⟨g, o + (j - 1) * 3 + 2, none⟩ = some (.int .i64 y.2.2) := KW.old f3 hg
            have j2 : decide (0 < j) = true := decide_eq_true (by omega)
            have j3 : IntKind.i64.wrap ((j : Int) - 1) = ((j - 1 : Nat) : Int) := by rw [IntKind.wrap_i64]; omega
            have j4 : ((j - 1 : Nat) : Int) < (la : Int) := by omega
            clear hxj hyj hmx e1 e2 e3 f1 f2 f3 hls
            go_wp2_with fail
            refine wp_region_calm (by kernel_rfl) (by kernel_rfl) ?_
            repeat (go_big_quiet_step (first
              | (go_at_call 17; with_reducible exact calls_of _ (CH.out _))
              | (go_at_call 7; with_reducible exact calls_of _ (CL.out _))))
            refine wpQuiet_nil ?_
            rintro _ ⟨p, rfl⟩
            have ha2 := ha.kept p.h (fun _ _ f => f)
            have hb2 := hb.kept p.h (fun _ _ f => f)
            have hx2 := hxr.kept p.h (fun _ _ f => f)
            have hy2 := hyr.kept p.h (fun _ _ f => f)
            have hbx2 := hbx.kept p.h id
            have hK2 := hK.trans p.h (fun _ _ f => f)
            clear ha hb hxr hyr hbx hK cc1 cc2 cc3 CH CL dd1 dd2 dd3
            go_wp2_with fail
            go_roundw
            case rel => exact ⟨j + 1, by omega, by go_num, ha2, hb2, hx2, hy2, hbx2, hK2⟩
            case measure => simp [intOf]; omega
        · obtain rfl : j = la := by omega
          obtain ⟨bo, hbo⟩ : ∃ b, decide ((k1, k2, k3) ∈ xs) = b := ⟨_, rfl⟩
          have hbo2 : decide ((k1, k2, k3) ∈ A) = bo := by
            rw [← hbo]
            by_cases h : (k1, k2, k3) ∈ xs
            · rw [decide_eq_true h, decide_eq_true ((HM.out _).2 h)]
            · rw [decide_eq_false h, decide_eq_false (fun h' => h ((HM.out _).1 h'))]
          have C1 : Hid (∀ p : KW wr, Calls Tryd.prog 18 #[.slice aa j ca, u8] p.w fun e w' => e = .returned (.bool true) ∧ Kept No p.w w') := Lib.hid fun p => by
            have := pkeys_is p.w _ u8 _ lb A A (ha.kept p.h (fun _ _ f => f)) (hb.kept p.h (fun _ _ f => f))
            rw [decide_eq_true rfl] at this
            exact this
          have C2 : Hid (∀ p : KW wr, Calls Tryd.prog 19 #[.slice aa j ca, u8] p.w fun e w' => e = .returned (.bool true) ∧ Kept No p.w w') := Lib.hid fun p => by
            have := same_is p.w _ u8 _ lb A A (ha.kept p.h (fun _ _ f => f)) (hb.kept p.h (fun _ _ f => f))
            rw [decide_eq_true rfl] at this
            exact this
          have C3 : Hid (∀ p : KW wr, Calls Tryd.prog 20 #[.slice aa j ca, .agg #[.int .i64 k1, .int .i64 k2, .int .i64 k3]] p.w fun e w' => e = .returned (.bool bo) ∧ Kept No p.w w') := Lib.hid fun p => by
            have := has_is p.w _ _ A (ha.kept p.h (fun _ _ f => f)) k1 k2 k3
            rw [hbo2] at this
            exact this
          have C4 : Hid (∀ p : KW wr, Calls Tryd.prog 17 #[.slice av k cv, .agg #[.int .i64 k1, .int .i64 k2, .int .i64 k3]] p.w fun e w' => e = .returned (.bool bo) ∧ Kept No p.w w') := Lib.hid fun p => by
            have := phas_is p.w _ _ xs (hxr.kept p.h (fun _ _ f => f)) k1 k2 k3
            rw [hbo] at this
            exact this
          have C5 : Hid (∀ p : KW wr, Calls Tryd.prog 21 #[u2, .agg #[.int .i64 k1, .int .i64 k2, .int .i64 k3]] p.w fun e w' => e = .returned (.bool true) ∧ Kept No p.w w') := Lib.hid fun p => odd_is p.w u2 m ys (hyr.kept p.h (fun _ _ f => f)) (by omega) k1 k2 k3
          obtain ⟨dd1, dd2, dd3⟩ := KW.box3 hbx
          clear hbo hbo2 ha hb hxr hyr hbx
          go_wp2_with fail
          refine wp_region_calm (by kernel_rfl) (by kernel_rfl) ?_
          repeat (go_big_quiet_step (first
            | (go_at_call 18; with_reducible exact calls_of _ (C1.out _))
            | (go_at_call 19; with_reducible exact calls_of _ (C2.out _))
            | (go_at_call 20; with_reducible exact calls_of _ (C3.out _))
            | (go_at_call 17; with_reducible exact calls_of _ (C4.out _))
            | (go_at_call 21; with_reducible exact calls_of _ (C5.out _))))
          refine wpQuiet_nil ?_
          rintro _ ⟨p, rfl⟩
          have hK2 := hK.trans p.h (fun _ _ f => f)
          go_wp2_with fail
          go_ret
          exact ⟨rfl, hK2.below (Nat.le_refl _) (fun _ _ => id)⟩

theorem walk (w : World) (hT : Door.Tabs w) (v : Value) (n : Nat) (zs : List Int) (rd : Rd w 3 v n (vals zs)) (wf : ∀ z ∈ zs, (Lit.int .i64 z).wf = true) (u : Value) (m : Nat) (zs2 : List Int) (rd2 : Rd w 3 u m (vals zs2)) (wf2 : ∀ z ∈ zs2, (Lit.int .i64 z).wf = true) (ks : List Int) (hl : ks.length = Tryd.prog.cellsOf 23) (wf3 : ∀ z ∈ ks, (Lit.int .i64 z).wf = true) :
    Calls Tryd.prog 5 #[v, u, .agg (vals ks).toArray] w fun e w' => e = .returned (.bool true) ∧ Below w.heap.size w w' := by
  have h3 : ks.length = 3 := hl.trans (by kernel_rfl)
  obtain ⟨xs, h1, _⟩ := of3 n zs (by have := rd.len; rw [vals_len] at this; exact this)
  obtain ⟨ys, h2, _⟩ := of3 m zs2 (by have := rd2.len; rw [vals_len] at this; exact this)
  rw [h1] at rd
  rw [h2] at rd2
  match ks, h3 with
  | [k1, k2, k3], _ => exact body w hT v u n m xs ys rd rd2 k1 k2 k3

section
open Go.ChangeShapes Go.WideShapes Go.ChangeAt Go.ChangeMaps Go.RowKit Go.Proofs.YtnggbfdnlmkklaaDoor.Own Go.Proofs.YtnggbfdnlmkklaaDoor.Open Go.Proofs.YtnggbfdnlmkklaaDoor.Door

theorem own : ownKnob Tryd.prog.godebug = none := by kernel_rfl
theorem laidOut : laidOutB Tryd.prog = true := by kernel_rfl

theorem door_met (os : Os) (args : Array Value) : laidMetH Tryd.prog Rows.keysAddRow.laid ((World.laidAll Tryd.prog os Rows.keysAddRow.laid).forCall (fun _ _ => 0) ⟨#[], args, []⟩).memory := by
  rw [MakeChecks.laidMetH_plain _ _ _ (by kernel_rfl)]
  exact laidMet_laidAll _ (by kernel_rfl) (by kernel_rfl)

set_option maxRecDepth 100000 in
theorem lifted (os : Os) (started : os.Started) (H : Type) (enc : TypeId × Value → H) :
    ReturnsInHanded {} Tryd.checked os 5 .any (fun w args => (Rows.keysAddSpec.pre enc Tryd.prog Tryd.f5 [] false w args ∧ laidMetH Tryd.prog Rows.keysAddRow.laid w) ∧ sizedMet enc Tryd.prog Tryd.f5 (OpenSpec.ofChange Rows.keysAddSpec) false w args) (Rows.keysAddSpec.post enc Tryd.prog Tryd.f5 false true false false) := by
  refine returnsInHanded_of_change_and (C := Tryd.checked) (X := fun w _ => laidMetH Tryd.prog Rows.keysAddRow.laid w) (fun _ _ _ hh h => h.of_heap hh) own started (by kernel_rfl) Tryd.func5
    (ChangeSpec.witness_shaped (enc := enc) (C := Tryd.checked) (os := os) (X := fun w _ => laidMetH Tryd.prog Rows.keysAddRow.laid w) false (World.laidAll Tryd.prog os Rows.keysAddRow.laid) #[.slice none 0 0, .slice none 0 0, .agg #[.int .i64 0, .int .i64 0, .int .i64 0]] 8 (World.laidAll_os _ _ _) (World.shaped_of_ZipB (by kernel_rfl) (by kernel_rfl)) (by kernel_rfl) (by kernel_rfl) (by kernel_rfl) (door_met os _)) ?_
  intro W base args ds gs before hval0 hW _ _ hL _
  have hval : ∀ (j : Nat) t v, Tryd.f5.params[j]? = some t → args[j]? = some v → Value.okWide Tryd.prog W .any base t v := hval0
  have hW' := hW
  obtain ⟨p, q, hA0, hV, rfl, hfz, hnd⟩ := hW
  have hA : DataW.TrodAll enc Tryd.prog W 0 (fun _ => true) true Tryd.f5.params.toList args.toList ds p := hA0
  rw [Tryd.params5] at hA hval
  have hA1 := hA
  obtain ⟨v0, vs0, d0, ds0, p0, q0, hargs, rfl, rfl, h0, r0⟩ := trodAll_cons hA
  obtain ⟨v1, vs1, d1, ds1, p1, q1, rfl, rfl, rfl, h1, r1⟩ := trodAll_cons r0
  obtain ⟨v2, vs2, d2, ds2, p2, q2, rfl, rfl, rfl, h2, r2⟩ := trodAll_cons r1
  obtain ⟨rfl, rfl, rfl⟩ := trodAll_nil r2
  obtain rfl : args = #[v0, v1, v2] := by cases args; simp_all
  obtain ⟨rfl, rfl⟩ := trodVars_none hV
  obtain ⟨n0, z0, rd0, wf0⟩ := open_i64s 3 Tryd.underlying34 (by kernel_rfl) (by decide) (by kernel_rfl) (hval 0 34 v0 rfl rfl) h0
  obtain ⟨n1, z1, rd1, wf1⟩ := open_i64s 3 Tryd.underlying34 (by kernel_rfl) (by decide) (by kernel_rfl) (hval 1 34 v1 rfl rfl) h1
  obtain ⟨z2, rfl, l2, wf2⟩ := open_agg_i64 Tryd.underlying23 (by kernel_rfl) (hval 2 23 v2 rfl rfl) h2
  clear hA0 hval0
  simp only [List.append_nil] at hW' hA1
  refine (walk W (tabs_of hL) v0 n0 z0 rd0 wf0 v1 n1 z1 rd1 wf1 z2 l2 wf2).mono fun e W' ⟨he, hb⟩ => ?_
  subst he
  exact ⟨_, rfl, ⟨_, _, _, [], _, [], hW', trodAll_mk1 (shut_bool Tryd.underlying4 _), below_args laidOut hb (by kernel_rfl) hA1 (fun x hx => by simpa using hW'.lt x hx), rfl, hb.frame _, fun h => by cases h⟩⟩

theorem said : Rows.KeysAddSaid :=
  OpenClaim.holds_of_wide 5 Tryd.f5 rfl rfl rfl rfl rfl rfl rfl ⟨rfl, rfl, rfl, rfl, rfl⟩ rfl rfl rfl rfl rfl (by kernel_rfl) Tryd.func5 (by kernel_rfl)
    (of_decide_eq_true (by kernel_rfl)) (by unfold Func.isWrapper; first | (rw [if_pos (by decide +kernel)]; kernel_rfl) | (rw [if_neg (by decide +kernel)]; exact ⟨rfl, rfl⟩))
    (fun os started H enc _ => lifted os started H enc)

theorem proved : Rows.KeysAddCardSaid :=
  Claim7.holds_tied_plain_at .later [] [.data, .data, .data, .data, .sentinel, .sentinel, .pinned] true Rows.keysAddCard.stood.harness true
    said (fun _ h => by cases h) (by kernel_rfl) (fun _ h => by cases h) keysAdd_row_tie rfl ⟨rfl, rfl⟩ (by kernel_rfl) rfl
    (fun f fn hf hfn => by
      obtain rfl : f = 5 := Option.some.inj ((show Tryd.prog.funcNamed "warrener/warrenerlaw32.KeysAdd" = some 5 by kernel_rfl).symm.trans hf) |>.symm
      obtain rfl : fn = Tryd.f5 := (Option.some.inj (Tryd.func5.symm.trans hfn)).symm
      exact ⟨by kernel_rfl, fun j t ht => by
        have hm : t ∈ Tryd.f5.params := Array.mem_of_getElem? ht
        have hall : (Tryd.f5.params.all fun u => !Tryd.prog.wantsStandIn u) = true := by kernel_rfl
        have := Array.all_eq_true_iff_forall_mem.1 hall t hm
        exact (show Tryd.prog.wantsStandIn t = false by simpa using this)⟩)
    (by kernel_rfl)
end
end Go.Proofs.YtnggbfdnlmkklaaDoor.keysAdd
