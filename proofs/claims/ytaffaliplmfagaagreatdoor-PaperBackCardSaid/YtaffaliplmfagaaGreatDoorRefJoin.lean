/-
  The reference's join of texts.
-/
import Derived.Test.YtaffaliplmfagaaGreatDoorCut
import Derived.Test.YtaffaliplmfagaaGreatDoorRefDec
set_option linter.unusedVariables false
namespace Go.Proofs.YtaffaliplmfagaaGreatDoor.Line
open Go.RowKit Go.Sort Go.Proofs.YtaffaliplmfagaaGreatDoor.Own Go.Proofs.YtaffaliplmfagaaGreatDoor.Conv

theorem join_snoc (xs : List (List UInt8)) (y sep : List UInt8) : Lib.join (xs ++ [y]) sep = if xs = [] then y else Lib.join xs sep ++ (sep ++ y) := by
  cases xs with
  | nil => rw [List.nil_append, Lib.join_one, if_pos rfl]
  | cons x r =>
    rw [if_neg (by simp), List.cons_append, Lib.join_cons, Lib.join_cons]
    simp [Lib.joinTail]
theorem join_take_le (xs : List (List UInt8)) (sep : List UInt8) (k : Nat) : (Lib.join (xs.take k) sep).length ≤ (Lib.join xs sep).length := by
  cases xs with
  | nil => simp
  | cons x r =>
    cases k with
    | zero => simp [Lib.join_nil]
    | succ k =>
      rw [List.take_succ_cons, Lib.join_cons, Lib.join_cons, List.length_append, List.length_append]
      have := Lib.joinTail_take_le sep r k
      omega

set_option maxHeartbeats 4000000 in
theorem refjoin_is (w : World) (v : Value) (n : Nat) (xs : List (List UInt8)) (h : Rd w 1 v n (sv xs)) (hlen : (Lib.join xs [32]).length ≤ 1000000) :
    Calls Tryz.prog 22 #[v] w fun e w' => e = .returned (.string ⟨(Lib.join xs [32]).toArray⟩) ∧ Kept No w w' := by
  obtain ⟨hl, ao, lc, rfl, hc, hm, hn, hR⟩ := h
  rw [sv_len, Nat.mul_one] at hl
  unfold maxLen at hm
  have HR := Lib.hid hR
  have hjt := join_take_le xs [32]
  have HJ := Lib.hid hjt
  clear hR hjt
  go_enter Tryz.func22, Tryz.ntmps22
  go_wp2_with fail
  go_loopw [3, 4] (fun s i wr => ∃ (k : Nat) (sb : ByteArray), k ≤ n ∧ s = .string sb ∧ i = .int .i64 k ∧ Hid (sb = ⟨(Lib.join (xs.take k) [32]).toArray⟩) ∧ Kept No w wr) (fun _ i _ => n - (intOf i).toNat)
  case atStart => exact ⟨0, ⟨#[]⟩, by omega, rfl, rfl, Lib.hid rfl, Kept.refl _ _⟩
  case round =>
    obtain ⟨k, sb, hk, rfl, rfl, hsb, hK⟩ := hrel
    by_cases hlt : k < n
    · obtain ⟨g, o, rfl, hg, hcell⟩ := HR.out (by omega)
      have c : wr.cell? ⟨g, o + k, none⟩ = some (.string ⟨(xs[k]'(by omega)).toArray⟩) := (hK.cell (p := ⟨g, o + k, none⟩) hg id).trans (hcell k _ (by simp [sv]))
      have e1 : xs.take (k + 1) = xs.take k ++ [xs[k]'(by omega)] := by simp
      have hsn := join_snoc (xs.take k) (xs[k]'(by omega)) [32]
      rw [← e1] at hsn
      have hle := HJ.out (k + 1)
      generalize xs[k]'(by omega) = x at *
      obtain ⟨sx, hsx⟩ : ∃ s : ByteArray, (⟨x.toArray⟩ : ByteArray) = s := ⟨_, rfl⟩
      rw [hsx] at c
      have hxs : sx.size = x.length := by rw [← hsx]; exact mk_size x
      have hbs : sb.size = (Lib.join (xs.take k) [32]).length := by rw [hsb.out]; exact mk_size _
      clear hcell e1
      by_cases h0 : k = 0
      · rw [if_pos (by rw [h0]; rfl)] at hsn
        have hz : sb.size = 0 := by rw [hbs, h0]; rfl
        rw [hsn] at hle
        have hx1 : sx.size ≤ 1000000 := by omega
        have hnew : Hid (sb ++ sx = ⟨(Lib.join (xs.take (k + 1)) [32]).toArray⟩) := Lib.hid (by rw [hsn, hsb.out, h0, ← hsx]; exact app_mk [] x)
        clear hsn hle hsx hxs hbs
        subst h0
        rw [Nat.add_zero] at c
        rw [Int.natCast_zero]
        go_wp2_with fail
        go_roundw
        case rel => exact ⟨0 + 1, _, by omega, rfl, by go_num, hnew, hK⟩
        case measure => simp [intOf]; omega
      · have hne : xs.take k ≠ [] := by intro e; have := congrArg List.length e; rw [List.length_take, List.length_nil] at this; omega
        rw [if_neg hne] at hsn
        rw [hsn] at hle
        simp only [List.length_append, List.length_cons, List.length_nil] at hle
        have hx1 : sx.size ≤ 1000000 := by omega
        have hx2 : sb.size ≤ 1000000 := by omega
        have hnew : Hid ((sb ++ ⟨#[32]⟩) ++ sx = ⟨(Lib.join (xs.take (k + 1)) [32]).toArray⟩) := Lib.hid (by
          rw [hsn, hsb.out, ← hsx]
          rw [show (⟨(Lib.join (xs.take k) [32]).toArray⟩ : ByteArray) ++ ⟨#[32]⟩ = ⟨(Lib.join (xs.take k) [32] ++ [32]).toArray⟩ from app_mk _ [32]]
          rw [app_mk, List.append_assoc])
        have hk0 : 0 < k := by omega
        clear hsn hle hsx hxs hbs hne
        go_wp2_with fail
        go_roundw
        case rel => exact ⟨k + 1, _, by omega, rfl, by go_num, hnew, hK⟩
        case measure => simp [intOf]; omega
    · obtain rfl : k = n := by omega
      have he : xs.take k = xs := List.take_of_length_le (by omega)
      have Hsb := Lib.hid hsb.out
      rw [he] at Hsb
      clear he
      go_wp2_with fail
      go_ret
      rw [← Hsb.out]
      exact ⟨rfl, hK⟩

theorem pieces_no (c : UInt8) : ∀ l : List UInt8, ∀ p ∈ pieces c l, ∀ b ∈ p, b ≠ c
  | [] => by simp [pieces]
  | b :: r => by
    have ih := pieces_no c r
    unfold pieces
    split
    · intro p hp
      rcases List.mem_cons.1 hp with rfl | hp
      · simp
      · exact ih p hp
    · rename_i hne
      split
      · intro p hp
        rw [List.mem_singleton] at hp
        subst hp
        simpa using hne
      · rename_i q qs hq
        intro p hp
        rcases List.mem_cons.1 hp with rfl | hp
        · intro y hy
          rcases List.mem_cons.1 hy with rfl | hy
          · exact hne
          · exact ih q (by rw [hq]; simp) y hy
        · exact ih p (by rw [hq]; simp [hp])
/-- A text that is a word. -/
def isWord (t : List UInt8) : Prop := wordsL t = [t]
instance (t : List UInt8) : Decidable (isWord t) := inferInstanceAs (Decidable (_ = _))
theorem isWord_parts {t : List UInt8} (h : isWord t) : t ≠ [] ∧ ∀ b ∈ t, b ≠ 32 := by
  have hm : t ∈ wordsL t := by rw [h]; simp
  rw [wordsL, List.mem_filter] at hm
  exact ⟨by intro e; rw [e] at hm; simp at hm, pieces_no 32 t t hm.1⟩
theorem isWord_of {t : List UInt8} (h0 : t ≠ []) (h : ∀ b ∈ t, b ≠ 32) : isWord t := by
  rw [isWord, words_miss t h, if_neg h0]
theorem words_join : ∀ xs : List (List UInt8), (∀ t ∈ xs, isWord t) → wordsL (Lib.join xs [32]) = xs
  | [], _ => by rw [Lib.join_nil]; rfl
  | [x], h => by rw [Lib.join_one]; exact h x (by simp)
  | x :: y :: r, h => by
    have ih := words_join (y :: r) (fun t ht => h t (List.mem_cons_of_mem _ ht))
    obtain ⟨h0, h1⟩ := isWord_parts (h x (by simp))
    have e : Lib.join (x :: y :: r) [32] = x ++ 32 :: Lib.join (y :: r) [32] := by
      rw [Lib.join_cons, Lib.join_cons]
      simp [Lib.joinTail]
    rw [e, words_hit x _ h1, if_neg h0, ih]
    rfl
theorem join_bound (m : Nat) : ∀ xs : List (List UInt8), (∀ t ∈ xs, t.length ≤ m) → (Lib.join xs [32]).length ≤ (m + 1) * xs.length
  | [], _ => by simp [Lib.join_nil]
  | [x], h => by rw [Lib.join_one]; have := h x (by simp); simp; omega
  | x :: y :: r, h => by
    have ih := join_bound m (y :: r) (fun t ht => h t (List.mem_cons_of_mem _ ht))
    have hx := h x (by simp)
    have e : Lib.join (x :: y :: r) [32] = x ++ 32 :: Lib.join (y :: r) [32] := by
      rw [Lib.join_cons, Lib.join_cons]
      simp [Lib.joinTail]
    rw [e, List.length_append, List.length_cons, List.length_cons, Nat.mul_add]
    omega
end Go.Proofs.YtaffaliplmfagaaGreatDoor.Line
