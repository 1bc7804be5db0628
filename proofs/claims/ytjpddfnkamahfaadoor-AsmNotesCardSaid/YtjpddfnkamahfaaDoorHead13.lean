/-
  The reader's first line: reader.head.
-/
import Derived.Test.YtjpddfnkamahfaaDoorSmall13
import Derived.Test.YtjpddfnkamahfaaDoorRefIns
import Derived.Test.YtjpddfnkamahfaaDoorText12
import Derived.Deep.QuietTactic
set_option linter.unusedVariables false
set_option linter.unusedSimpArgs false
namespace Go.Proofs.YtjpddfnkamahfaaDoor.Line
open Go.RowKit Go.Sort Go.Proofs.YtjpddfnkamahfaaDoor.Own Go.Proofs.YtjpddfnkamahfaaDoor.Conv Go.Proofs.YtjpddfnkamahfaaDoor.Calm

/-- The j-th number of the first line. -/
def hdN (ws : List (List UInt8)) (j : Nat) : Option Int := smallL (ws.getD (j + 1) []) 255
def hdV (ws : List (List UInt8)) (j : Nat) : Int := (hdN ws j).getD 0
def headOk (ws : List (List UInt8)) : Bool := decide (ws.length = 4) && (ws.getD 0 [] == headW) && (hdN ws 0).isSome && (hdN ws 1).isSome && (hdN ws 2).isSome
def boxK (r c s : Int) (v : Value) (bg : Bool) (ws : List (List UInt8)) (k : Nat) : Array Value :=
  #[.int .i64 (if 0 < k then hdV ws 0 else r), .int .i64 (if 1 < k then hdV ws 1 else c), .int .i64 (if 2 < k then hdV ws 2 else s), v, .bool bg]
theorem box_step (r c s : Int) (v : Value) (bg : Bool) (ws : List (List UInt8)) {k : Nat} (h : k < 3) : (boxK r c s v bg ws k).setIfInBounds k (.int .i64 (hdV ws k)) = boxK r c s v bg ws (k + 1) := by
  have : k = 0 ∨ k = 1 ∨ k = 2 := by omega
  rcases this with rfl | rfl | rfl <;> simp [boxK]
theorem pidx (b k : Nat) (h : k < 3) (w : World) : (Instr.index 90 (.agg #[.pointer (some ⟨b, 0, none⟩), .pointer (some ⟨b, 1, none⟩), .pointer (some ⟨b, 2, none⟩)]) (.int .i64 k)).run Tryd.prog w = .ok (.pointer (some ⟨b, k, none⟩)) w := match k, h with
  | 0, _ => by kernel_rfl
  | 1, _ => by kernel_rfl
  | 2, _ => by kernel_rfl
  | n + 3, h => by omega

set_option maxRecDepth 100000 in
set_option maxHeartbeats 8000000 in
theorem head_is (b : Nat) (r c s : Int) (v : Value) (bg : Bool) (wv : Value) (ws : List (List UInt8)) (w : World) (hbx : Box w b #[.int .i64 r, .int .i64 c, .int .i64 s, v, .bool bg] 58) (hx : Rd w 1 wv ws.length (sv ws)) (hg : ∀ g, wv.ownBlock = some g → g ≠ b) (hsm : ∀ x ∈ ws, x.length ≤ 1000000) (wt : World) (hT : Door.Tabs wt) (hkt : Kept No wt w) (hbt : wt.heap.size ≤ b) :
    Calls Tryd.prog 47 #[.pointer (some ⟨b, 0, none⟩), wv] w fun e w' => Kept (Only b) w w' ∧ ((headOk ws = false ∧ e = .returned (.int .i64 1)) ∨ (headOk ws = true ∧ e = .returned (.int .i64 0) ∧ Box w' b #[.int .i64 (hdV ws 0), .int .i64 (hdV ws 1), .int .i64 (hdV ws 2), v, .bool true] 58)) := by
  obtain ⟨hl, ao, cap, rfl, hc, hm, _, hR⟩ := hx
  unfold maxLen at hm
  by_cases h4 : ws.length = 4
  · obtain ⟨g, o, rfl, hgl, hcell⟩ := hR (by omega)
    have hgb : g ≠ b := hg g rfl
    obtain ⟨x0, x1, x2, x3, rfl⟩ : ∃ x0 x1 x2 x3, ws = [x0, x1, x2, x3] := by
      match ws, h4 with
      | [x0, x1, x2, x3], _ => exact ⟨_, _, _, _, rfl⟩
    obtain ⟨s0, hs0⟩ : ∃ s : ByteArray, (⟨x0.toArray⟩ : ByteArray) = s := ⟨_, rfl⟩
    have c0 : w.cell? ⟨g, o, none⟩ = some (.string s0) := by rw [← hs0]; exact hcell 0 _ rfl
    have ht0 := toList_mk3 hs0
    have HC := Lib.hid (fun j (x : List UInt8) (h : [x0, x1, x2, x3][j]? = some x) => hcell j (.string ⟨x.toArray⟩) (by rw [sv, List.getElem?_map, h]; rfl))
    have HBX := Lib.hid hbx
    have HT := Lib.hid (fun w' (hk : Kept (Only b) w w') => hT.kept (hkt.trans hk (fun q hq h => by have : q = b := h; omega)))
    have HSM := Lib.hid hsm
    rw [show [x0, x1, x2, x3].length = 4 from rfl] at *
    clear hl hR hg hsm hcell hs0 hT hkt h4 hbx
    by_cases hwn : x0 = headW
    · have hq : (s0.toList == [119, 97, 114, 114, 101, 110, 101, 114]) = true := by rw [ht0, hwn]; simp [headW]
      clear ht0
      go_enter Tryd.func47, Tryd.ntmps47
      go_upto_region 3 with fail
      go_quiet (fail)
      have hbx1 : Box (w.drewN nq) b (boxK r c s v bg [x0, x1, x2, x3] 0) 58 := HBX.out
      have hk1 : Kept (Only b) w (w.drewN nq) := (Kept.refl _ _).drewN nq
      have HB1 := Lib.hid hbx1
      have HK1 := Lib.hid hk1
      have hcw : ∀ (w' : World), Kept (Only b) w w' → ∀ j x, [x0, x1, x2, x3][j]? = some x → w'.cell? ⟨g, o + j, none⟩ = some (.string ⟨x.toArray⟩) := fun w' hk j x h => (hk.cell (p := ⟨g, o + j, none⟩) hgl (fun e => hgb e)).trans (HC.out j x h)
      have HCW := Lib.hid hcw
      clear hbx1 hk1 hcw HC HBX c0
      go_wp2_with fail
      go_loopw [31] (fun i wr => ∃ k : Nat, k ≤ 3 ∧ i = .int .i64 k ∧ Hid (∀ j, j < k → (hdN [x0, x1, x2, x3] j).isSome = true) ∧ Hid (Box wr b (boxK r c s v bg [x0, x1, x2, x3] k) 58) ∧ Hid (Kept (Only b) w wr)) (fun i _ => 3 - (intOf i).toNat)
      case atStart => exact ⟨0, by omega, rfl, Lib.hid (fun j hj => by omega), HB1, HK1⟩
      case round =>
        clear HB1 HK1
        obtain ⟨k, hk, rfl, hok, hbk, hkk⟩ := hrel
        by_cases hlt : k < 3
        · obtain ⟨x, hx⟩ : ∃ x, [x0, x1, x2, x3][k + 1]? = some x := ⟨_, List.getElem?_eq_getElem (by simp; omega)⟩
          obtain ⟨sx, hsx⟩ : ∃ y : ByteArray, (⟨x.toArray⟩ : ByteArray) = y := ⟨_, rfl⟩
          have c1 : wr.cell? ⟨g, o + (k + 1), none⟩ = some (.string sx) := by rw [← hsx]; exact HCW.out _ hkk.out _ _ hx
          have hxl := HSM.out x (List.mem_of_getElem? hx)
          have hsmx := small_is x hxl 255 wr (HT.out _ hkk.out)
          have hdn : hdN [x0, x1, x2, x3] k = smallL x 255 := by rw [hdN, List.getD_eq_getElem?_getD, hx]; rfl
          rw [hsx, ← hdn] at hsmx
          have hpi := fun w => pidx b k hlt w
          have hk1i : (k : Int) + 1 < 4 := by omega
          have HSX := Lib.hid hsmx
          clear hx hsx hsmx hdn
          cases hnm : hdN [x0, x1, x2, x3] k with
          | none =>
            have HE : Hid (headOk [x0, x1, x2, x3] = false) := Lib.hid (by
              have : k = 0 ∨ k = 1 ∨ k = 2 := by omega
              rcases this with rfl | rfl | rfl <;> simp [headOk, hnm])
            rw [hnm] at HSX
            clear hnm
            go_wp2_with fail
            refine HSX.out.mono ?_
            rintro e w5 ⟨rfl, k5⟩
            have hk5 := hkk.out.trans k5 (fun _ _ f => f.elim)
            clear c1 k5 hpi
            go_wp2_with fail
            go_ret
            exact ⟨hk5, .inl ⟨HE.out, rfl⟩⟩
          | some u =>
            have hvu : hdV [x0, x1, x2, x3] k = u := by rw [hdV, hnm]; rfl
            have hnew : Hid (∀ j, j < k + 1 → (hdN [x0, x1, x2, x3] j).isSome = true) := Lib.hid (fun j hj => (Nat.lt_succ_iff_lt_or_eq.1 hj).elim (fun h => hok.out j h) (fun h => by rw [h, hnm]; rfl))
            have hst := box_step r c s v bg [x0, x1, x2, x3] hlt
            rw [hvu] at hst
            have HST := Lib.hid hst
            rw [hnm] at HSX
            clear hnm hvu hst
            go_wp2_with fail
            refine HSX.out.mono ?_
            rintro e w5 ⟨rfl, k5⟩
            have hk5 := hkk.out.trans k5 (fun _ _ f => f.elim)
            have hb5 := hbk.out.kept k5 id
            obtain ⟨oc, ho5⟩ : ∃ u, (boxK r c s v bg [x0, x1, x2, x3] k)[k]? = some u := ⟨_, Array.getElem?_eq_getElem (by simp [boxK]; omega)⟩
            have a0 : w5.cell? ⟨b, k, none⟩ = some oc := (hb5.cell k).trans ho5
            have f0 : w5.frozen? ⟨b, k, none⟩ = false := hb5.frozen k
            have hbn : Hid (Box (w5.setCell ⟨b, k, none⟩ (.int .i64 u)) b (boxK r c s v bg [x0, x1, x2, x3] (k + 1)) 58) := Lib.hid (by rw [← HST.out]; exact Box.set hb5 k _)
            have hkn : Hid (Kept (Only b) w (w5.setCell ⟨b, k, none⟩ (.int .i64 u))) := Lib.hid (hk5.setCell (p := ⟨b, k, none⟩) (fun _ => by exact rfl) _)
            clear c1 k5 hpi hk5 hb5 ho5
            go_wp2_with fail
            go_roundw
            case rel => exact ⟨k + 1, by omega, by go_num, hnew, hbn, hkn⟩
            case measure => simp [intOf]; omega
        · obtain rfl : k = 3 := by omega
          have HE : Hid (headOk [x0, x1, x2, x3] = true) := Lib.hid (by
            have h0 := hok.out 0 (by omega)
            have h1 := hok.out 1 (by omega)
            have h2 := hok.out 2 (by omega)
            subst hwn
            simp [headOk, h0, h1, h2])
          have hb3 : Box wr b #[.int .i64 (hdV [x0, x1, x2, x3] 0), .int .i64 (hdV [x0, x1, x2, x3] 1), .int .i64 (hdV [x0, x1, x2, x3] 2), v, .bool bg] 58 := hbk.out
          have a0 : wr.cell? ⟨b, 4, none⟩ = some (.bool bg) := hb3.cell 4
          have f0 : wr.frozen? ⟨b, 4, none⟩ = false := hb3.frozen 4
          have hbn : Hid (Box (wr.setCell ⟨b, 4, none⟩ (.bool true)) b #[.int .i64 (hdV [x0, x1, x2, x3] 0), .int .i64 (hdV [x0, x1, x2, x3] 1), .int .i64 (hdV [x0, x1, x2, x3] 2), v, .bool true] 58) := Lib.hid (Box.set hb3 4 (.bool true))
          have hkn : Hid (Kept (Only b) w (wr.setCell ⟨b, 4, none⟩ (.bool true))) := Lib.hid (hkk.out.setCell (p := ⟨b, 4, none⟩) (fun _ => by exact rfl) _)
          clear hb3 hwn
          go_wp2_with fail
          go_ret
          exact ⟨hkn.out, .inr ⟨HE.out, rfl, hbn.out⟩⟩
    · have HE : Hid (headOk [x0, x1, x2, x3] = false) := Lib.hid (by simp [headOk, hwn])
      have hq : (s0.toList == [119, 97, 114, 114, 101, 110, 101, 114]) = false := by rw [ht0]; simpa [headW] using hwn
      clear ht0 hwn
      go_enter Tryd.func47, Tryd.ntmps47
      go_wp2_with fail
      go_ret
      exact ⟨Kept.refl _ _, .inl ⟨HE.out, rfl⟩⟩
  · have HE : Hid (headOk ws = false) := Lib.hid (by simp [headOk, h4])
    have hne : ((ws.length : Int) != 4) = true := by
      rw [bne_iff_ne]; omega
    clear h4 hR hl hg hsm
    go_enter Tryd.func47, Tryd.ntmps47
    go_wp2_with fail
    go_ret
    exact ⟨Kept.refl _ _, .inl ⟨HE.out, rfl⟩⟩
end Go.Proofs.YtjpddfnkamahfaaDoor.Line
