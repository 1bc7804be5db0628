/-
  Package octet: a reader of octets.
-/
import Derived.Test.YtaffaliplmfagaaGreatDoorRows
import Derived.Test.YtaffaliplmfagaaGreatDoorOwn
import Derived.WalkKit
import Derived.Lib.Hide
import Derived.Deep.QuietTactic
import Derived.Laws.Bits64b
set_option linter.unusedVariables false
namespace Go.Proofs.YtaffaliplmfagaaGreatDoor.Oct
open Go.RowKit Go.Proofs.YtaffaliplmfagaaGreatDoor.Own

/-- Octets as values. -/
def bv (bs : List Int) : List Value := bs.map (Value.int .u8)
theorem bv_len (bs : List Int) : (bv bs).length = bs.length := by simp [bv]

/-- A reader: it has taken k of the octets bs, which lie in a slice of its own. -/
def Rdr (w : World) (B r : Nat) (bad : Bool) (k : Nat) (v : Value) (bs : List Int) : Prop :=
  Box w r #[.bool true, .bool bad, .int .i64 k, v] 111 ∧ Seg w B 5 1 v bs.length (bv bs) ∧ (∀ g, v.ownBlock = some g → g ≠ r) ∧ k ≤ bs.length ∧ B ≤ r

section
variable {w w' : World} {B r k : Nat} {bad : Bool} {v : Value} {bs : List Int}
theorem Rdr.cells (h : Rdr w B r bad k v bs) : w.cell? ⟨r, 0, none⟩ = some (.bool true) ∧ w.cell? ⟨r, 1, none⟩ = some (.bool bad) ∧ w.cell? ⟨r, 2, none⟩ = some (.int .i64 k) ∧ w.cell? ⟨r, 3, none⟩ = some v := by
  have h0 := h.1.cell 0
  have h1 := h.1.cell 1
  have h2 := h.1.cell 2
  have h3 := h.1.cell 3
  exact ⟨by simpa using h0, by simpa using h1, by simpa using h2, by simpa using h3⟩
theorem Rdr.kept {S : Nat → Prop} (h : Rdr w B r bad k v bs) (hk : Kept S w w') (hr : ¬ S r) (hv : ∀ g, v.ownBlock = some g → ¬ S g) : Rdr w' B r bad k v bs :=
  ⟨h.1.kept hk hr, h.2.1.kept hk hv, h.2.2⟩
theorem Rdr.slice (h : Rdr w B r bad k v bs) : ∃ a c, v = .slice a bs.length c ∧ bs.length ≤ c ∧ c ≤ maxLen := by
  obtain ⟨_, a, c, hv, h1, h2, _⟩ := h.2.1.rd
  exact ⟨a, c, hv, h1, h2⟩
end

theorem bad_is (w : World) (B r : Nat) (bad : Bool) (k : Nat) (v : Value) (bs : List Int) (h : Rdr w B r bad k v bs) :
    Calls Tryz.prog 70 #[.pointer (some ⟨r, 0, none⟩)] w fun e w' => e = .returned (.bool bad) ∧ w' = w := by
  obtain ⟨c0, c1, c2, c3⟩ := h.cells
  go_enter Tryz.func70, Tryz.ntmps70
  go_wp2_with fail
  go_ret
  exact ⟨rfl, rfl⟩
theorem at_is (w : World) (B r : Nat) (bad : Bool) (k : Nat) (v : Value) (bs : List Int) (h : Rdr w B r bad k v bs) :
    Calls Tryz.prog 59 #[.pointer (some ⟨r, 0, none⟩)] w fun e w' => e = .returned (.int .i64 k) ∧ w' = w := by
  obtain ⟨c0, c1, c2, c3⟩ := h.cells
  go_enter Tryz.func59, Tryz.ntmps59
  go_wp2_with fail
  go_ret
  exact ⟨rfl, rfl⟩
theorem left_is (w : World) (B r : Nat) (bad : Bool) (k : Nat) (v : Value) (bs : List Int) (h : Rdr w B r bad k v bs) :
    Calls Tryz.prog 71 #[.pointer (some ⟨r, 0, none⟩)] w fun e w' => e = .returned (.int .i64 (bs.length - k : Nat)) ∧ Kept No w w' := by
  obtain ⟨c0, c1, c2, c3⟩ := h.cells
  obtain ⟨a, c, rfl, hc, hm⟩ := h.slice
  have hk := h.2.2.2.1
  unfold maxLen at hm
  have d2 : ∀ nq, (w.drewN nq).cell? ⟨r, 2, none⟩ = some (.int .i64 k) := fun _ => c2
  have d3 : ∀ nq, (w.drewN nq).cell? ⟨r, 3, none⟩ = some (.slice a bs.length c) := fun _ => c3
  have e1 : IntKind.i64.wrap ((bs.length : Int) - (k : Int)) = ((bs.length - k : Nat) : Int) := by rw [IntKind.wrap_i64]; omega
  go_enter Tryz.func71, Tryz.ntmps71
  go_wp2_with fail
  go_quiet (fail)
  go_wp2_with fail
  go_ret
  exact ⟨rfl, (Kept.refl No w).drewN _⟩

/-- The reader with other marks. -/
theorem Rdr.put {w : World} {B r k : Nat} {bad : Bool} {v : Value} {bs : List Int} (h : Rdr w B r bad k v bs) (bad' : Bool) (k' : Nat) (hk : k' ≤ bs.length) {w' : World} (hkp : Kept (Only r) w w') (hb : Box w' r #[.bool true, .bool bad', .int .i64 k', v] 111) : Rdr w' B r bad' k' v bs :=
  ⟨hb, h.2.1.kept hkp (fun g hg => h.2.2.1 g hg), h.2.2.1, hk, h.2.2.2.2⟩
theorem box_set {w : World} {b : Nat} {cs : Array Value} {t : TypeId} (h : Box w b cs t) (i : Nat) (u : Value) : Box (w.setCell ⟨b, i, none⟩ u) b (cs.setIfInBounds i u) t := by
  obtain ⟨hlt, hk⟩ := Array.getElem?_eq_some_iff.1 h
  show (w.heap.modify b _)[b]? = _
  rw [Array.getElem?_eq_getElem (by rw [Array.size_modify]; exact hlt), Array.getElem_modify_self, hk]
  rfl

/-- What a taking of n octets hands back. -/
def NextPost (w : World) (B r k n : Nat) (bad : Bool) (v : Value) (bs : List Int) (e : Ending) (w' : World) : Prop :=
  Kept (Only r) w w' ∧ ((bad = true ∨ bs.length - k < n) ∧ e = .returned (.tuple #[.slice none 0 0, .bool false]) ∧ Rdr w' B r true k v bs ∨
    (bad = false ∧ n ≤ bs.length - k) ∧ ∃ u, e = .returned (.tuple #[u, .bool true]) ∧ Rdr w' B r false (k + n) v bs ∧ Rd w' 1 u n (bv ((bs.drop k).take n)))

set_option maxHeartbeats 2000000 in
theorem next_is (w : World) (B r : Nat) (bad : Bool) (k n : Nat) (v : Value) (bs : List Int) (h : Rdr w B r bad k v bs) (hn : 1 ≤ n) (hn8 : n ≤ 8) :
    Calls Tryz.prog 58 #[.pointer (some ⟨r, 0, none⟩), .int .i64 n] w (NextPost w B r k n bad v bs) := by
  obtain ⟨c0, c1, c2, c3⟩ := h.cells
  have f1 := h.1.frozen 1
  have f2 := h.1.frozen 2
  have hk := h.2.2.2.1
  go_enter Tryz.func58, Tryz.ntmps58
  go_wp2_with fail
  refine (bad_is w B r bad k v bs h).mono ?_
  rintro e w' ⟨rfl, rfl⟩
  cases bad with
  | true =>
    go_wp2_with fail
    go_ret2
    exact ⟨Kept.refl _ _, .inl ⟨.inl rfl, rfl, h⟩⟩
  | false =>
    go_wp2_with fail
    refine (left_is _ B r false k v bs h).mono ?_
    rintro e w1 ⟨rfl, k1⟩
    have h1 := h.kept k1 id (fun _ _ => id)
    obtain ⟨c0, c1, c2, c3⟩ := h1.cells
    have f1 := h1.1.frozen 1
    have f2 := h1.1.frozen 2
    obtain ⟨_, a, c, rfl, hc, hm, hnn, hR⟩ := h1.2.1.rd
    unfold maxLen at hm
    by_cases hl : bs.length - k < n
    · go_wp2_with fail
      go_ret2
      have k2 := (k1.mono (S := Only r) (fun _ _ f => f.elim)).setCell (p := ⟨r, 1, none⟩) (fun _ => by exact rfl) (.bool true)
      exact ⟨k2, .inl ⟨.inr hl, rfl, h1.put true k hk ((Kept.refl (Only r) w1).setCell (p := ⟨r, 1, none⟩) (fun _ => by exact rfl) _) (box_set h1.1 1 _)⟩⟩
    · obtain ⟨g, o, rfl, hg, hcell⟩ := hR (by omega)
      have E1 : IntKind.i64.wrap ((k : Int) + (n : Int)) = (k : Int) + (n : Int) := by rw [IntKind.wrap_i64]; omega
      have E2 : IntKind.i64.wrap (k : Int) = (k : Int) := by rw [IntKind.wrap_i64]; omega
      have ec : ((k + n : Nat) : Int) = (k : Int) + (n : Int) := by omega
      have k2 := (k1.mono (S := Only r) (fun _ _ f => f.elim)).setCell (p := ⟨r, 2, none⟩) (fun _ => by exact rfl) (.int .i64 ((k : Int) + (n : Int)))
      have hb2 : Box (w1.setCell ⟨r, 2, none⟩ (.int .i64 ((k : Int) + (n : Int)))) r #[.bool true, .bool false, .int .i64 (k + n : Nat), .slice (some ⟨g, o, none⟩) bs.length c] 111 := by
        rw [ec]; exact box_set h1.1 2 _
      have h2 := h1.put false (k + n) (by omega) ((Kept.refl (Only r) w1).setCell (p := ⟨r, 2, none⟩) (fun _ => by exact rfl) (.int .i64 ((k : Int) + (n : Int)))) hb2
      have d := h2.cells
      rw [ec] at d
      have d2 : ∀ nq, ((w1.setCell ⟨r, 2, none⟩ (.int .i64 ((k : Int) + (n : Int)))).drewN nq).cell? ⟨r, 2, none⟩ = some (.int .i64 ((k : Int) + (n : Int))) := fun _ => d.2.2.1
      have d3 : ∀ nq, ((w1.setCell ⟨r, 2, none⟩ (.int .i64 ((k : Int) + (n : Int)))).drewN nq).cell? ⟨r, 3, none⟩ = some (.slice (some ⟨g, o, none⟩) bs.length c) := fun _ => d.2.2.2
      have b1 : (0 : Int) ≤ (k : Int) := by omega
      have b2 : (k : Int) ≤ (k : Int) + (n : Int) := by omega
      have b3 : (k : Int) + (n : Int) ≤ (c : Int) := by omega
      have b4 : (0 : Int) ≤ (k : Int) + (n : Int) := by omega
      have b5 : ((k : Int) + (n : Int)).toNat = k + n := by omega
      have k12 := (Kept.refl (Only r) w1).setCell (p := ⟨r, 2, none⟩) (fun _ => by exact rfl) (.int .i64 ((k : Int) + (n : Int)))
      have hn0 : ¬ n = 0 := by omega
      have H := Lib.hid h2
      have HC := Lib.hid hcell
      clear d h2 hcell hR hnn hb2
      go_wp2_with fail
      generalize w1.setCell ⟨r, 2, none⟩ (.int .i64 ((k : Int) + (n : Int))) = w2 at *
      clear ec
      go_quiet (fail)
      go_wp2_with fail
      go_ret2
      refine ⟨k2.drewN _, .inr ⟨⟨rfl, by omega⟩, _, rfl, H.out.kept ((Kept.refl No w2).drewN _) id (fun _ _ => id), ?_⟩⟩
      refine ⟨by simp [bv]; omega, _, n, rfl, by omega, by unfold maxLen; omega, (fun e => by cases e), fun _ => ⟨g, o + k, rfl, Nat.lt_of_lt_of_le hg k12.size, fun j u hu => ?_⟩⟩
      rw [(k12.drewN _).cell (p := ⟨g, o + k + j, none⟩) hg (fun e => h1.2.2.1 g rfl e), Nat.add_assoc]
      refine HC.out (k + j) u ?_
      have hj : j < n := by
        have := (List.getElem?_eq_some_iff.1 hu).1
        simp [bv] at this
        omega
      rw [← hu]
      simp only [bv, List.map_take, List.map_drop, List.getElem?_take, List.getElem?_drop]
      rw [if_pos hj]

/-- The number that octets tell. -/
def beN (bs : List Int) : Nat := bs.foldl (fun a c => a * 256 + c.toNat) 0
def Octs (bs : List Int) : Prop := ∀ c ∈ bs, 0 ≤ c ∧ c < 256
theorem beN_snoc (bs : List Int) (c : Int) : beN (bs ++ [c]) = beN bs * 256 + c.toNat := by simp [beN]
theorem beN_lt : ∀ (n : Nat) (bs : List Int), Octs bs → beN (bs.take n) < 256 ^ n
  | 0, bs, _ => by simp [beN]
  | n + 1, bs, h => by
    by_cases hn : n < bs.length
    · have e : bs.take (n + 1) = bs.take n ++ [bs[n]] := by simp
      have h1 := beN_lt n bs h
      have h2 := h bs[n] (List.getElem_mem hn)
      rw [e, beN_snoc, Nat.pow_succ]
      omega
    · have h1 := beN_lt n bs h
      rw [List.take_of_length_le (by omega)] at h1 ⊢
      rw [Nat.pow_succ]
      omega
theorem or_add (x c : Nat) (hx : x * 256 < 18446744073709551616) (hc : c < 256) : bits .or .u64 ((x : Int) * 256) (c : Int) = ((x * 256 + c : Nat) : Int) := by
  have h := bits_or_u64_nat (x * 256) c hx (by omega)
  rw [show ((x * 256 : Nat) : Int) = (x : Int) * 256 by omega] at h
  rw [h]
  have h2 := Nat.two_pow_add_eq_or_of_lt (i := 8) (b := c) hc x
  rw [show x * 256 + c = 2 ^ 8 * x + c by omega, h2, show 2 ^ 8 * x = x * 256 by omega]

def NumPost (w : World) (B r k n : Nat) (bad : Bool) (v : Value) (bs : List Int) (e : Ending) (w' : World) : Prop :=
  Kept (Only r) w w' ∧ ((bad = true ∨ bs.length - k < n) ∧ e = .returned (.tuple #[.int .i64 0, .bool false]) ∧ Rdr w' B r true k v bs ∨
    (bad = false ∧ n ≤ bs.length - k) ∧ e = .returned (.tuple #[.int .i64 (wrap64 (beN ((bs.drop k).take n) : Nat)), .bool true]) ∧ Rdr w' B r false (k + n) v bs)

set_option maxHeartbeats 2000000 in
theorem num_is (w : World) (B r : Nat) (bad : Bool) (k n : Nat) (v : Value) (bs : List Int) (hb : Octs bs) (h : Rdr w B r bad k v bs) (hn : 1 ≤ n) (hn8 : n ≤ 8) :
    Calls Tryz.prog 44 #[.pointer (some ⟨r, 0, none⟩), .int .i64 n] w (NumPost w B r k n bad v bs) := by
  go_enter Tryz.func44, Tryz.ntmps44
  go_wp2_with fail
  refine (next_is w B r bad k n v bs h hn hn8).mono ?_
  rintro e w1 ⟨k1, ⟨hbad, rfl, h1⟩ | ⟨⟨hbad, hle⟩, u, rfl, h1, hu⟩⟩
  · go_wp2_with fail
    go_loop [8, 19, 10] (fun x i _ => x = .int .u64 0 ∧ i = .int .i64 0) (fun _ _ _ => 0)
    case atStart => exact ⟨rfl, rfl⟩
    case round =>
      obtain ⟨rfl, rfl⟩ := hrel
      go_wp2_with fail
      go_ret2
      exact ⟨k1, .inl ⟨hbad, rfl, h1⟩⟩
  · have ht : Octs ((bs.drop k).take n) := fun c hc => hb c (List.mem_of_mem_drop (List.mem_of_mem_take hc))
    have hlen : ((bs.drop k).take n).length = n := by simp; omega
    obtain ⟨ts, hts⟩ : ∃ ts, (bs.drop k).take n = ts := ⟨_, rfl⟩
    rw [hts] at ht hlen hu
    have Hts := Lib.hid hts
    clear hts
    subst hbad
    obtain ⟨_, a, c, rfl, hc, hm, hnn, hR⟩ := hu
    unfold maxLen at hm
    obtain ⟨g, o, rfl, hg, hcell⟩ := hR (by omega)
    have HC := Lib.hid hcell
    have HT := Lib.hid ht
    clear hcell hR hnn ht
    go_wp2_with fail
    go_loop [8, 19, 10] (fun x i _ => ∃ m : Nat, m ≤ n ∧ i = .int .i64 m ∧ x = .int .u64 (beN (ts.take m) : Nat)) (fun _ i _ => n - (intOf i).toNat)
    case atStart => exact ⟨0, by omega, rfl, by simp [beN]⟩
    case round =>
      obtain ⟨m, hm2, rfl, rfl⟩ := hrel
      by_cases hmn : m < n
      · have c1 := HC.out m (.int .u8 (ts[m]'(by omega))) (by simp [bv])
        have hx := beN_lt m ts HT.out
        have h2 := HT.out (ts[m]'(by omega)) (List.getElem_mem _)
        have e : ts.take (m + 1) = ts.take m ++ [ts[m]'(by omega)] := by simp
        have hp : 256 ^ m ≤ 256 ^ 7 := Nat.pow_le_pow_right (by omega) (by omega)
        generalize ts[m]'(by omega) = z at *
        obtain ⟨cn, rfl⟩ : ∃ cn : Nat, z = cn := ⟨z.toNat, by omega⟩
        have hx2 : beN (ts.take m) * 256 < 18446744073709551616 := by omega
        have E0 := beN_snoc (ts.take m) (cn : Int)
        rw [← e] at E0
        have E1 : IntKind.u64.wrap ((beN (ts.take m) : Int) * 256) = (beN (ts.take m) : Int) * 256 := by rw [IntKind.wrap_u64]; omega
        have E2 : IntKind.u64.wrap (cn : Int) = (cn : Int) := by rw [IntKind.wrap_u64]; omega
        have E3 := or_add (beN (ts.take m)) cn hx2 (by omega)
        generalize beN (ts.take m) = x at *
        go_wp2_with fail
        go_round
        case rel => exact ⟨m + 1, by omega, by go_num, by rw [E0]; congr 1⟩
        case measure => simp [intOf]; omega
      · obtain rfl : m = n := by omega
        rw [List.take_of_length_le (by omega)]
        go_wp2_with fail
        go_ret2
        exact ⟨k1, .inr ⟨⟨rfl, hle⟩, by rw [Hts.out]; rfl, h1⟩⟩
end Go.Proofs.YtaffaliplmfagaaGreatDoor.Oct
