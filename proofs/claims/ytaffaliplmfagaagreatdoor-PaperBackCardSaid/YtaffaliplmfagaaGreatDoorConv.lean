/-
  Octets as a text and back: conversions, over slices of the call's own.
-/
import Derived.Test.YtaffaliplmfagaaGreatDoorOwn
import Derived.Lib.ConvBytes
import Derived.Lib.UnsafeStr
import Derived.Laws.AppendOwn
import Derived.Laws.IdiomStrings
set_option linter.unusedVariables false
namespace Go.Proofs.YtaffaliplmfagaaGreatDoor.Conv
open Go.RowKit Go.Proofs.YtaffaliplmfagaaGreatDoor.Own

theorem byteCells_len (l : List UInt8) : (Lib.byteCells l).length = l.length := by simp [Lib.byteCells]
theorem byteCells_app (l r : List UInt8) : Lib.byteCells (l ++ r) = Lib.byteCells l ++ Lib.byteCells r := by simp [Lib.byteCells]
theorem byteCells_one (l : List UInt8) : ∀ u ∈ Lib.byteCells l, u.oneCell' = true := by
  intro u hu
  simp only [Lib.byteCells, List.mem_map] at hu
  obtain ⟨z, _, rfl⟩ := hu
  rfl
/-- Numbers as octets. -/
def u8s (bs : List Int) : List UInt8 := bs.map fun c => UInt8.ofNat c.toNat
theorem u8s_len (bs : List Int) : (u8s bs).length = bs.length := by simp [u8s]
theorem u8s_app (bs cs : List Int) : u8s (bs ++ cs) = u8s bs ++ u8s cs := by simp [u8s]
theorem u8s_cells (bs : List Int) (h : ∀ c ∈ bs, 0 ≤ c ∧ c < 256) : Lib.byteCells (u8s bs) = bs.map (Value.int .u8) := by
  simp only [Lib.byteCells, u8s, List.map_map]
  refine List.map_congr_left fun c hc => ?_
  obtain ⟨h0, h1⟩ := h c hc
  have : c.toNat % 256 = c.toNat := Nat.mod_eq_of_lt (by omega)
  simp only [Function.comp, UInt8.toNat_ofNat']
  congr 1
  omega

theorem kept_bytes (w : World) (e : TypeId) (s : ByteArray) : Kept No w (Lib.bytesWorld w e s) :=
  ⟨by simp [Lib.bytesWorld, World.freeze, World.alloc, World.drew, -World.alloc_eq, -World.drew_eq], by simp [Lib.bytesWorld, World.freeze, World.alloc, World.drew, -World.alloc_eq, -World.drew_eq], by simp [Lib.bytesWorld, World.freeze, World.alloc, World.drew, -World.alloc_eq, -World.drew_eq],
    by rw [Lib.bytesWorld_size]; omega, fun k hk _ => Lib.bytesWorld_at_old w e s k hk⟩

/-- '[]byte(s)'. -/
theorem conv_bytes {P : Program} (w : World) (src dst e : TypeId) (s : ByteArray) {u : TypeDesc} (hs : P.underlying src = some u) (hd : P.underlying dst = some (.slice e)) (he : P.underlying e = some (.int .u8)) (hm : s.size ≤ maxLen) :
    (convert src dst (.string s)).run P w = .ok (.slice (some ⟨w.heap.size, 0, none⟩) s.size (grownCap w s.size 0 e)) (Lib.bytesWorld w e s) ∧
    Seg (Lib.bytesWorld w e s) w.heap.size e 1 (.slice (some ⟨w.heap.size, 0, none⟩) s.size (grownCap w s.size 0 e)) s.size (Lib.byteCells s.data.toList) := by
  have hlen : s.data.toList.length = s.size := by simp
  have hge := grownCap_ge w s.size 0 e
  refine ⟨Lib.run_convert_string_bytes w src dst e s hs hd he, by rw [byteCells_len, hlen, Nat.mul_one], .inr ⟨w.heap.size, 0, _, _, rfl, Nat.le_refl _, ⟨_, Lib.bytesWorld_at_new w e s, fun j hj h => by have := h.1; simp only at this; omega⟩, hge, grownCap_le_maxLen w s.size 0 e hm, ?_, fun j hj => ?_⟩⟩
  · simp [Lib.bytesCells]
    omega
  · rw [Nat.mul_one] at hj
    simp [Lib.bytesCells, Lib.byteCells, Array.getElem?_append]
    intro h
    omega

/-- 'string(b)'. -/
theorem conv_string {P : Program} (w : World) (src dst e : TypeId) (v : Value) (n : Nat) (l : List UInt8) (hs : P.underlying src = some (.slice e)) (he : P.underlying e = some (.int .u8)) (hd : P.underlying dst = some .string)
    (hr : Rd w 1 v n (Lib.byteCells l)) : (convert src dst v).run P w = .ok (.string ⟨l.toArray⟩) w := by
  obtain ⟨hl, ao, c, rfl, hc, hm, hn, hR⟩ := hr
  rw [byteCells_len, Nat.mul_one] at hl
  subst hl
  cases ao with
  | none =>
    obtain ⟨h0, rfl⟩ := hn rfl
    obtain rfl : l = [] := List.eq_nil_of_length_eq_zero h0
    rw [run_convert_bytes_string w src dst e _ _ _ hs he hd]
    simp [Conv.bytesToString]
    rfl
  | some a =>
    refine run_convert_bytes_back w src dst e a c l hs he hd fun j hj => ?_
    obtain ⟨g, o, e1, hg, hcell⟩ := hR (by omega)
    cases e1
    rw [Addr.add_lit]
    exact hcell j _ (by simp [Lib.byteCells, hj])
end Go.Proofs.YtaffaliplmfagaaGreatDoor.Conv
