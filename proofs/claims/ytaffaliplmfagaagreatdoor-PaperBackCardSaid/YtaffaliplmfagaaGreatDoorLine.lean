/-
  Package lines: decimals; joined words; the number of a text.
-/
import Derived.Test.YtaffaliplmfagaaGreatDoorLineLaw
import Derived.Test.YtaffaliplmfagaaGreatDoorDoor
import Derived.Test.YtaffaliplmfagaaGreatDoorConv
import Derived.Test.YtaffaliplmfagaaGreatDoorShelf
import Derived.WalkKit
import Derived.Lib.Hide
set_option linter.unusedVariables false
namespace Go.Proofs.YtaffaliplmfagaaGreatDoor.Line
open Go.RowKit Go.Sort Go.Proofs.YtaffaliplmfagaaGreatDoor.Own Go.Proofs.YtaffaliplmfagaaGreatDoor.Conv

/-- Texts as values. -/
def sv (xs : List (List UInt8)) : List Value := xs.map fun l => .string ⟨l.toArray⟩
theorem sv_len (xs : List (List UInt8)) : (sv xs).length = xs.length := by simp [sv]
theorem sv_app (xs ys : List (List UInt8)) : sv (xs ++ ys) = sv xs ++ sv ys := by simp [sv]
theorem sv_one (xs : List (List UInt8)) : ∀ u ∈ sv xs, u.oneCell' = true := by
  intro u hu
  simp only [sv, List.mem_map] at hu
  obtain ⟨z, _, rfl⟩ := hu
  rfl
theorem info_string : (Tryz.prog.info? 9).map (fun i => (i.zero, i.size, i.bytes)) = some (some (.string ⟨#[]⟩), 1, 16) := by kernel_rfl
theorem kept_grow {S : Nat → Prop} {w w' : World} (h : Kept S w w') (os : Array Obj) : Kept S w (grow w' os) :=
  h.trans (T := No) ⟨rfl, rfl, rfl, by simp, fun k hk _ => heap_grow_old _ _ hk⟩ (fun _ _ f => f.elim)

theorem decimal_is (n : Int) (h0 : -9223372036854775808 ≤ n) (h1 : n ≤ 9223372036854775807) (w : World) (hT : Door.Tabs w) :
    Calls Tryz.prog 36 #[.int .i64 n] w fun e w' => e = .returned (.string ⟨(Lib.itoa n).toArray⟩) ∧ Kept No w w' := by
  go_enter Tryz.func36, Tryz.ntmps36
  go_wp2_with fail
  refine (Tryz.strconv_FormatInt_10 n h0 h1 _ hT.pow10).mono ?_
  rintro e w' ⟨rfl, k, os, rfl⟩
  have hk := kept_grow ((Kept.refl No w).drewN k) os
  generalize grow (w.drewN k) os = w1 at *
  go_wp2_with fail
  go_ret
  exact ⟨rfl, hk⟩

theorem join_is (w : World) (v : Value) (n : Nat) (xs : List (List UInt8)) (h : Rd w 1 v n (sv xs)) (hn : n ≤ 1000000) (hlen : (Lib.join xs [32]).length ≤ 140737488355328) :
    Calls Tryz.prog 34 #[v] w fun e w' => e = .returned (.string ⟨(Lib.join xs [32]).toArray⟩) ∧ Kept No w w' := by
  obtain ⟨hl, ao, c, rfl, hc, hm, hnn, hR⟩ := h
  rw [sv_len, Nat.mul_one] at hl
  unfold maxLen at hm
  go_enter Tryz.func34, Tryz.ntmps34
  by_cases h0 : n = 0
  · subst h0
    obtain rfl : xs = [] := List.eq_nil_of_length_eq_zero hl
    clear hR hnn
    go_wp2_with fail
    refine (Tryz.strings_Join_none ao c ⟨#[32]⟩ w).mono ?_
    rintro e w' ⟨rfl, rfl⟩
    go_wp2_with fail
    go_ret
    exact ⟨rfl, Kept.refl _ _⟩
  · obtain ⟨g, o, rfl, hg, hcell⟩ := hR (by omega)
    have HC := Lib.hid hcell
    clear hR hnn hcell
    have e1 : (xs.map fun l => (⟨l.toArray⟩ : ByteArray)).map (·.data.toList) = xs := by
      rw [List.map_map]
      exact List.map_id _
    have E1 := Lib.hid e1
    have hj := Tryz.strings_Join g o c (xs.map fun l => (⟨l.toArray⟩ : ByteArray)) ⟨#[32]⟩ w (fun j x hx => by
      simp only [List.getElem?_map, Option.map_eq_some_iff] at hx
      obtain ⟨l, hl1, rfl⟩ := hx
      exact HC.out j _ (by simp [sv, hl1])) hg (by simp; omega) (by simp; omega) (by rw [e1]; exact hlen)
    rw [e1] at hj
    simp only [List.length_map, hl] at hj
    have HJ := Lib.hid hj
    clear hj e1
    go_wp2_with fail
    refine HJ.out.mono ?_
    rintro e w' ⟨rfl, hb⟩
    have hk : Kept No w w' := Kept.of_below hb (fun k h1 h2 => by omega)
    go_wp2_with fail
    go_ret
    exact ⟨rfl, hk⟩
end Go.Proofs.YtaffaliplmfagaaGreatDoor.Line
