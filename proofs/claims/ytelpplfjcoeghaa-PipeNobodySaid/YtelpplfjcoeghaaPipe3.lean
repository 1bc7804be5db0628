/-
  The walks of the statements' own helpers over package pipe: Ints, Clone, told, run.
-/
import Derived.Test.YtelpplfjcoeghaaPipe2
namespace Go.Proofs.Ytelpplfjcoeghaa.Pipe
open Go.RowKit Go.Conc Go.Proofs.Ytelpplfjcoeghaa.Chan Go.Proofs.Ytelpplfjcoeghaa.Own

set_option maxHeartbeats 1000000 in
theorem ints_same (va vb : Value) (xs : List Int) (w : World) (ha : Rd w 1 va xs.length (vals xs)) (hb : Rd w 1 vb xs.length (vals xs)) :
    Calls Try.prog 17 #[va, vb] w fun e w' => e = .returned (.bool true) ∧ ∃ k, w' = w.drewN k := by
  obtain ⟨_, aa, ca, rfl, hca, hma, _, hA⟩ := ha
  obtain ⟨_, ab, cb, rfl, hcb, hmb, _, hB⟩ := hb
  unfold maxLen at hma hmb
  by_cases h0 : 0 < xs.length
  · obtain ⟨ga, oa, rfl, _, hA1⟩ := hA h0
    obtain ⟨gb, ob, rfl, _, hB1⟩ := hB h0
    clear hA hB
    generalize hn : xs.length = n at *
    have Hn := Lib.hid hn
    clear hn
    go_enter Try.func17, Try.ntmps17
    go_wp2_with fail
    go_loopw [5] (fun i wr => ∃ k : Nat, k ≤ n ∧ i = .int .i64 k ∧ ∃ m, wr = w.drewN m) (fun i wr => n - (intOf i).toNat)
    case atStart => exact ⟨0, by omega, rfl, 0, rfl⟩
    case round =>
      obtain ⟨k, hk, rfl, m, rfl⟩ := hrel
      by_cases hlt : k < n
      · have hx : k < xs.length := by rw [Hn.out]; exact hlt
        have cca := hA1 k (.int .i64 xs[k]) (by simp [vals, hx])
        have ccb := hB1 k (.int .i64 xs[k]) (by simp [vals, hx])
        generalize xs[k] = x at cca ccb
        clear hx hA1 hB1
        go_wp2_with fail
        go_quiet (fail)
        go_wp2
        exact ⟨⟨k + 1, by omega, by go_num, _, rfl⟩, by simp [intOf]; omega⟩
      · go_wp2
        go_ret
        exact ⟨rfl, m, rfl⟩
  · generalize hn : xs.length = n at *
    have Hn := Lib.hid hn
    clear hn hA hB
    go_enter Try.func17, Try.ntmps17
    go_wp2_with fail
    go_loopw [5] (fun i wr => i = .int .i64 0 ∧ wr = w) (fun i wr => 0)
    case atStart => exact ⟨rfl, rfl⟩
    case round =>
      obtain ⟨rfl, rfl⟩ := hrel
      go_wp2
      go_ret
      exact ⟨rfl, 0, rfl⟩

/-- told: the pipe stands as the list says. -/
theorem told_is (b c cap : Nat) (xs : List Int) (v : Value) (w : World) (h : Pt w b c cap xs) (hv : Rd w 1 v xs.length (vals xs)) (hvc : ∀ g, v.ownBlock = some g → ¬ Only c g) (hc : xs.length ≤ cap) (hm : cap ≤ 256) :
    Calls Try.prog 10 #[.pointer (some ⟨b, 0, .none⟩), v, .int .i64 cap] w fun e w' => e = .returned (.bool true) ∧ Pt w' b c cap xs ∧ Kept (Only c) w w' := by
  have hv0 := hv
  obtain ⟨_, ao, ca, rfl, hca, hma, _, _⟩ := hv
  unfold maxLen at hma
  go_enter Try.func10, Try.ntmps10
  go_wp2_with fail
  refine (len_some b c cap xs _ h).mono ?_
  rintro e w' ⟨rfl, rfl⟩
  go_wp2_with fail
  refine (room_some b c cap xs _ h hc hm).mono ?_
  rintro e w1 ⟨rfl, k, rfl⟩
  have h1 : Pt (w'.drewN k) b c cap xs := h
  go_wp2_with fail
  refine (all_some b c cap xs _ h1 hc hm).mono ?_
  rintro e w2 ⟨va, rfl, hs, hch, hk⟩
  have hK : Kept (Only c) w' w2 := ((Kept.refl (Only c) w').drewN k).trans hk (fun _ _ h => h)
  have hv2 := hv0.kept hK hvc
  have h2 := h.next hK hch
  clear hv0 h h1 hk hch hvc
  go_wp2_with fail
  refine (ints_same va _ xs _ hs.rd hv2).mono ?_
  rintro e w3 ⟨rfl, m, rfl⟩
  go_wp2_with fail
  go_ret
  exact ⟨rfl, h2, hK.drewN m⟩
end Go.Proofs.Ytelpplfjcoeghaa.Pipe
