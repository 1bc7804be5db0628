/-
  Package lines: decimals; joined words; the number of a text.
-/
import Derived.Test.YtjpddfnkamahfaaDoorLineLaw
import Derived.Test.YtjpddfnkamahfaaDoorDoor
import Derived.Test.YtjpddfnkamahfaaDoorConv
import Derived.Test.YtjpddfnkamahfaaDoorShelf
import Derived.WalkKit
import Derived.Lib.Hide
set_option linter.unusedVariables false
namespace Go.Proofs.YtjpddfnkamahfaaDoor.Line
open Go.RowKit Go.Sort Go.Proofs.YtjpddfnkamahfaaDoor.Own Go.Proofs.YtjpddfnkamahfaaDoor.Conv

/-- Texts as values. -/
def sv (xs : List (List UInt8)) : List Value := xs.map fun l => .string ⟨l.toArray⟩
theorem sv_len (xs : List (List UInt8)) : (sv xs).length = xs.length := by simp [sv]
theorem sv_app (xs ys : List (List UInt8)) : sv (xs ++ ys) = sv xs ++ sv ys := by simp [sv]
theorem sv_one (xs : List (List UInt8)) : ∀ u ∈ sv xs, u.oneCell' = true := by
  intro u hu
  simp only [sv, List.mem_map] at hu
  obtain ⟨z, _, rfl⟩ := hu
  rfl
theorem info_string : (Tryd.prog.info? 9).map (fun i => (i.zero, i.size, i.bytes)) = some (some (.string ⟨#[]⟩), 1, 16) := by kernel_rfl
theorem kept_grow {S : Nat → Prop} {w w' : World} (h : Kept S w w') (os : Array Obj) : Kept S w (grow w' os) :=
  h.trans (T := No) ⟨rfl, rfl, rfl, by simp, fun k hk _ => heap_grow_old _ _ hk⟩ (fun _ _ f => f.elim)

theorem decimal_is (n : Int) (h0 : -9223372036854775808 ≤ n) (h1 : n ≤ 9223372036854775807) (w : World) (hT : Door.Tabs w) :
    Calls Tryd.prog 41 #[.int .i64 n] w fun e w' => e = .returned (.string ⟨(Lib.itoa n).toArray⟩) ∧ Kept No w w' := by
  go_enter Tryd.func41, Tryd.ntmps41
  go_wp2_with fail
  refine (Tryd.strconv_FormatInt_10 n h0 h1 _ hT.pow10).mono ?_
  rintro e w' ⟨rfl, k, os, rfl⟩
  have hk := kept_grow ((Kept.refl No w).drewN k) os
  generalize grow (w.drewN k) os = w1 at *
  go_wp2_with fail
  go_ret
  exact ⟨rfl, hk⟩

end Go.Proofs.YtjpddfnkamahfaaDoor.Line
