/-
  The iterator over a program's places: each once, in their order.
-/
import Derived.Test.YtkjhopnhphiiaaaDoorPlaceEach
import Derived.Test.YtkjhopnhphiiaaaDoorRange2
import Derived.Test.YtkjhopnhphiiaaaDoorCalmIn
set_option linter.unusedVariables false
namespace Go.Proofs.YtkjhopnhphiiaaaDoor.Line
open Go.RowKit Go.Shelf Go.Sort Go.Proofs.YtkjhopnhphiiaaaDoor.Own Go.Proofs.YtkjhopnhphiiaaaDoor.Conv Go.Proofs.YtkjhopnhphiiaaaDoor.Calm Go.Proofs.YtkjhopnhphiiaaaDoor.Range2
attribute [local go_sem] Oper.semAt_some

def enP (x : Pl) : Value := .agg #[.int .i64 x.1, .int .i64 x.2.1, .int .i64 x.2.2]
/-- The places of the first m kinds, and of the next one the first q. -/
def upTo (r c s t m q : Nat) : List Pl := ((sizesL r c s t).take m).flatMap ofSize ++ (match (sizesL r c s t)[m]? with | some z => (ofSize z).take q | none => [])
theorem upTo_zero (r c s t : Nat) : upTo r c s t 0 0 = [] := by simp [upTo, sizesL]
theorem upTo_all (r c s t : Nat) : upTo r c s t 8 0 = placesL r c s t := by simp [upTo, sizesL, placesL]
theorem upTo_next (r c s t m : Nat) (z : Nat × Nat × Nat × Nat) (hz : (sizesL r c s t)[m]? = some z) : upTo r c s t m (z.2.2.1 * z.2.2.2) = upTo r c s t (m + 1) 0 := by
  have h1 : (ofSize z).take (z.2.2.1 * z.2.2.2) = ofSize z := List.take_of_length_le (by simp [ofSize])
  have h2 : (sizesL r c s t).take (m + 1) = (sizesL r c s t).take m ++ [z] := by rw [List.take_add_one, hz]; rfl
  simp only [upTo, hz, h1, h2, List.flatMap_append, List.flatMap_cons, List.flatMap_nil, List.append_nil]
  cases (sizesL r c s t)[m + 1]? <;> simp
theorem upTo_step (r c s t m q : Nat) (z : Nat × Nat × Nat × Nat) (hz : (sizesL r c s t)[m]? = some z) (hq : q < z.2.2.1 * z.2.2.2) : upTo r c s t m (q + 1) = upTo r c s t m q ++ [((z.1 : Int), ((z.2.1 + q / z.2.2.2 : Nat) : Int), ((q % z.2.2.2 : Nat) : Int))] := by
  simp only [upTo, hz]
  rw [List.append_assoc]
  congr 1
  rw [List.take_add_one]
  congr 1
  simp [ofSize, hq]
theorem upTo_prefix (r c s t m q : Nat) (hm : m < 8) : upTo r c s t m q <+: placesL r c s t := by
  obtain ⟨z, hz⟩ : ∃ z, (sizesL r c s t)[m]? = some z := ⟨_, List.getElem?_eq_getElem (by simpa [sizesL] using hm)⟩
  have h2 : sizesL r c s t = (sizesL r c s t).take m ++ z :: (sizesL r c s t).drop (m + 1) := by
    obtain ⟨h3, h4⟩ := List.getElem?_eq_some_iff.1 hz
    rw [← h4, ← List.drop_eq_getElem_cons h3, List.take_append_drop]
  simp only [upTo, hz]
  unfold placesL
  rw [h2]
  simp only [List.flatMap_append, List.flatMap_cons]
  rw [← h2]
  exact List.prefix_append_right_inj _ |>.2 ((List.take_prefix q _).trans (List.prefix_append _ _))

theorem wpListIn_of_run {F : Fence} {n : Nat} {P : Program} {ops : Array Oper} {rest : List Oper} {o : Oper} {a : Act} {w w' : World} {Q : Exit → Act → World → Prop} (hgd : o.guard = none) (hnc : ∀ c, o.op ≠ .call c) (hnd : ∀ c, o.op ≠ .defer c) (v : Value)
    (hr : (execOp a.eval o).run P w = .ok (.value v) w') (h : wpListIn F n P ops Q rest (a.put o.dst v) w') : wpListIn F n P ops Q (o :: rest) a w := by
  refine wpListIn_plain hgd fun K hK => ⟨fun f hf => ?_, ?_⟩
  · unfold Oper.about at hf
    split at hf
    · rename_i c hc; exact (hnc _ hc).elim
    · cases hf
  · rw [Oper.semAt_eq _ _ _ hnd, hr]
    exact hK _ _ h
theorem wpListIn_load_row {F : Fence} {n : Nat} {P : Program} {ops : Array Oper} {rest : List Oper} {o : Oper} {a : Act} {w : World} {Q : Exit → Act → World → Prop} (hgd : o.guard = none) (ty : TypeId) (x : Operand) (ho : o.op = .load ty x)
    (g : Nat) (hx : a.eval x = .pointer (some ⟨g, 0, none⟩)) (t : TypeId) (cs : Array Value) (fr : Nat × Nat) (d : TypeDesc) (hg : w.heap[g]? = some (.cells cs t fr))
    (hu : P.underlying ty = some d) (hd : (match d with | .struct _ | .array _ _ => true | _ => false) = true) (hi : (P.info? ty).map (·.size) = some cs.size)
    (h : wpListIn F n P ops Q rest (a.put o.dst (.agg cs)) w) : wpListIn F n P ops Q (o :: rest) a w := by
  refine wpListIn_of_run hgd (fun c hc => by rw [ho] at hc; cases hc) (fun c hc => by rw [ho] at hc; cases hc) (.agg cs) ?_ h
  unfold execOp
  simp only [ho, hx, Instr.loadAt, Instr.sureAddr, Sem.run_bind, Sem.run_pure, Result.andThen_ok, run_loadVar_row w g t ty cs fr d hg hu hd hi]

theorem idxs0 (r c s t : Nat) (w : World) : (Instr.index 51 (.agg (sizeCells r c s t).toArray) (.int .i64 0)).run Tryd.prog w = .ok (.agg #[.int .i64 ((1 : Nat) : Int), .int .i64 ((0 : Nat) : Int), .int .i64 (r : Int), .int .i64 ((1 : Nat) : Int)]) w := by kernel_rfl
theorem idxs1 (r c s t : Nat) (w : World) : (Instr.index 51 (.agg (sizeCells r c s t).toArray) (.int .i64 1)).run Tryd.prog w = .ok (.agg #[.int .i64 ((2 : Nat) : Int), .int .i64 ((1 : Nat) : Int), .int .i64 (c : Int), .int .i64 ((1 : Nat) : Int)]) w := by kernel_rfl
theorem idxs2 (r c s t : Nat) (w : World) : (Instr.index 51 (.agg (sizeCells r c s t).toArray) (.int .i64 2)).run Tryd.prog w = .ok (.agg #[.int .i64 ((3 : Nat) : Int), .int .i64 ((1 : Nat) : Int), .int .i64 (c : Int), .int .i64 ((2 : Nat) : Int)]) w := by kernel_rfl
theorem idxs3 (r c s t : Nat) (w : World) : (Instr.index 51 (.agg (sizeCells r c s t).toArray) (.int .i64 3)).run Tryd.prog w = .ok (.agg #[.int .i64 ((4 : Nat) : Int), .int .i64 ((0 : Nat) : Int), .int .i64 ((1 : Nat) : Int), .int .i64 ((1 : Nat) : Int)]) w := by kernel_rfl
theorem idxs4 (r c s t : Nat) (w : World) : (Instr.index 51 (.agg (sizeCells r c s t).toArray) (.int .i64 4)).run Tryd.prog w = .ok (.agg #[.int .i64 ((5 : Nat) : Int), .int .i64 ((0 : Nat) : Int), .int .i64 (t : Int), .int .i64 (s : Int)]) w := by kernel_rfl
theorem idxs5 (r c s t : Nat) (w : World) : (Instr.index 51 (.agg (sizeCells r c s t).toArray) (.int .i64 5)).run Tryd.prog w = .ok (.agg #[.int .i64 ((6 : Nat) : Int), .int .i64 ((0 : Nat) : Int), .int .i64 ((1 : Nat) : Int), .int .i64 ((1 : Nat) : Int)]) w := by kernel_rfl
theorem idxs6 (r c s t : Nat) (w : World) : (Instr.index 51 (.agg (sizeCells r c s t).toArray) (.int .i64 6)).run Tryd.prog w = .ok (.agg #[.int .i64 ((7 : Nat) : Int), .int .i64 ((0 : Nat) : Int), .int .i64 (t : Int), .int .i64 ((1 : Nat) : Int)]) w := by kernel_rfl
theorem idxs7 (r c s t : Nat) (w : World) : (Instr.index 51 (.agg (sizeCells r c s t).toArray) (.int .i64 7)).run Tryd.prog w = .ok (.agg #[.int .i64 ((8 : Nat) : Int), .int .i64 ((0 : Nat) : Int), .int .i64 (t : Int), .int .i64 ((1 : Nat) : Int)]) w := by kernel_rfl
theorem idx_size (r c s t k : Nat) (z : Nat × Nat × Nat × Nat) (hz : (sizesL r c s t)[k]? = some z) (w : World) :
    (Instr.index 51 (.agg (sizeCells r c s t).toArray) (.int .i64 (k : Int))).run Tryd.prog w = .ok (.agg #[.int .i64 z.1, .int .i64 z.2.1, .int .i64 z.2.2.1, .int .i64 z.2.2.2]) w := by
  have hk : k < 8 := by simpa [sizesL] using (List.getElem?_eq_some_iff.1 hz).1
  have h8 : k = 0 ∨ k = 1 ∨ k = 2 ∨ k = 3 ∨ k = 4 ∨ k = 5 ∨ k = 6 ∨ k = 7 := by omega
  rcases h8 with rfl | rfl | rfl | rfl | rfl | rfl | rfl | rfl
  · obtain rfl := Option.some.inj hz; exact idxs0 r c s t w
  · obtain rfl := Option.some.inj hz; exact idxs1 r c s t w
  · obtain rfl := Option.some.inj hz; exact idxs2 r c s t w
  · obtain rfl := Option.some.inj hz; exact idxs3 r c s t w
  · obtain rfl := Option.some.inj hz; exact idxs4 r c s t w
  · obtain rfl := Option.some.inj hz; exact idxs5 r c s t w
  · obtain rfl := Option.some.inj hz; exact idxs6 r c s t w
  · obtain rfl := Option.some.inj hz; exact idxs7 r c s t w

theorem grown_drewN (w : World) (k : Nat) : w.grownBy (w.drewN k) none := ⟨rfl, rfl, rfl, Nat.le_refl _, fun _ _ _ => rfl⟩
theorem sizes_bd (r c s t k : Nat) (hr : r ≤ 4) (hc : c ≤ 6) (hs : s ≤ 2) (ht : t ≤ 4) (z : Nat × Nat × Nat × Nat) (hz : (sizesL r c s t)[k]? = some z) : z.1 ≤ 8 ∧ z.2.1 ≤ 1 ∧ z.2.2.1 ≤ 6 ∧ z.2.2.2 ≤ 2 := by
  have hm := List.mem_of_getElem? hz
  simp only [sizesL, List.mem_cons, List.not_mem_nil, or_false] at hm
  rcases hm with rfl | rfl | rfl | rfl | rfl | rfl | rfl | rfl <;> refine ⟨?_, ?_, ?_, ?_⟩ <;> simp only <;> omega

set_option maxRecDepth 100000 in
set_option maxHeartbeats 8000000 in
theorem place_each (n l Bx : Nat) (hn : 1 ≤ n) (r c s t : Nat) (hr : r ≤ 4) (hc : c ≤ 6) (hs : s ≤ 2) (ht : t ≤ 4) (J Jx : List Pl → World → Prop) (D : World → Nat → Prop)
    (hJ : ∀ u A B, J u A → A.grownBy B none → J u B) (hD1 : ∀ u A B k, J u A → A.grownBy B none → D A k → D B k) (hD2 : ∀ u A k, J u A → A.heap.size ≤ k → D A k)
    (hY : ∀ pre x W, J pre W → (pre ++ [x]) <+: placesL r c s t → YieldAt Fence.wide (n - 1) Tryd.prog l #[enP x] W fun e W' =>
      (e = .returned (.bool true) ∧ J (pre ++ [x]) W' ∧ (∀ k, D W k → k < W.heap.size → W'.heap[k]? = W.heap[k]? ∧ D W' k)) ∨ (e = .returned (.bool false) ∧ Jx (pre ++ [x]) W'))
    (W : World) (hB : Box W Bx (sizeCells r c s t).toArray 51) (h0 : J [] W) :
    CallsIn Fence.wide n Tryd.prog 29 #[.func (.yield l) #[] #[], .pointer (some ⟨Bx, 0, none⟩)] W fun e W' => (∃ v, e = .returned v) ∧ (J (placesL r c s t) W' ∨ ∃ pre, pre <+: placesL r c s t ∧ Jx pre W') := by
  have hidx := idx_size r c s t
  obtain ⟨cs, hcs⟩ : ∃ cs, (sizeCells r c s t).toArray = cs := ⟨_, rfl⟩
  have hsz : cs.size = 32 := by rw [← hcs]; rfl
  rw [hcs] at hB hidx
  have HI := Lib.hid hidx
  have HZ := Lib.hid hsz
  clear hcs hidx hsz
  refine callsIn_of_wp Tryd.func29 rfl trivial ?_ rfl
  simp only [Tryd.ntmps29, List.size_toArray, List.length_cons, List.length_nil, Nat.reduceAdd, Nat.reduceSub, Array.replicate_succ, Array.replicate_zero, List.push_toArray, List.append_toArray, List.nil_append, List.cons_append]
  gi_wp2_with (first | (refine wpListIn_load_row rfl 51 _ rfl Bx rfl 51 cs (0, 0) _ hB Tryd.underlying51 rfl (by rw [HZ.out]; kernel_rfl) ?_))
  gi_loopw [7] (fun i wr => ∃ m : Nat, m ≤ 8 ∧ i = .int .i64 m ∧ J (upTo r c s t m 0) wr) (fun i _ => 8 - (intOf i).toNat)
  case atStart => exact ⟨0, by omega, rfl, by rw [upTo_zero]; exact h0⟩
  case round =>
    obtain ⟨m, hm, rfl, hj⟩ := hrel
    by_cases hlt : m < 8
    · obtain ⟨z, hz⟩ : ∃ z, (sizesL r c s t)[m]? = some z := ⟨_, List.getElem?_eq_getElem (by simpa [sizesL] using hlt)⟩
      have hbd := sizes_bd r c s t m hr hc hs ht z hz
      have hx := HI.out m z hz
      have HX := Lib.hid hx
      clear hx
      gi_wp2
      rw [HX.out]
      gi_wp2
      have hbx : Box (wr.alloc (.cells #[.int .i64 z.1, .int .i64 z.2.1, .int .i64 z.2.2.1, .int .i64 z.2.2.2] 50)) wr.heap.size #[.int .i64 z.1, .int .i64 z.2.1, .int .i64 z.2.2.1, .int .i64 z.2.2.2] 50 := Box.new _ _ _
      have hj1 : J (upTo r c s t m 0) (wr.alloc (.cells #[.int .i64 z.1, .int .i64 z.2.1, .int .i64 z.2.2.1, .int .i64 z.2.2.2] 50)) := hJ _ _ _ hj (World.grownBy_alloc _ _ none)
      have hd1 : D (wr.alloc (.cells #[.int .i64 z.1, .int .i64 z.2.1, .int .i64 z.2.2.1, .int .i64 z.2.2.2] 50)) wr.heap.size := hD1 _ _ _ _ hj (World.grownBy_alloc _ _ none) (hD2 _ _ _ hj (Nat.le_refl _))
      obtain ⟨b4, hb4⟩ : ∃ b, wr.heap.size = b := ⟨_, rfl⟩
      rw [hb4] at hbx hd1 ⊢
      generalize (wr.alloc (.cells #[.int .i64 z.1, .int .i64 z.2.1, .int .i64 z.2.2.1, .int .i64 z.2.2.2] 50)) = w1 at *
      obtain ⟨zk, zf, zi, zj⟩ := z
      simp only at hbd hbx HX ⊢
      obtain ⟨g1, g2, g3, g4⟩ := hbd
      obtain ⟨N, hN⟩ : ∃ N : Nat, zi * zj = N := ⟨_, rfl⟩
      have hN1 : N ≤ 12 := by
        have := Nat.mul_le_mul g3 g4
        omega
      have eN : (zi : Int) * (zj : Int) = (N : Int) := by rw [← hN]; simp
      have ew : wrap64 (N : Int) = N := by unfold wrap64; omega
      rw [eN, ew]
      have HN := Lib.hid hN
      have Hz := Lib.hid hz
      clear hN hz hj hb4 HX eN ew
      gi_loopw [15] (fun q w2 => ∃ q' : Nat, q' ≤ N ∧ q = .int .i64 q' ∧ J (upTo r c s t m q') w2 ∧ Box w2 b4 #[.int .i64 zk, .int .i64 zf, .int .i64 zi, .int .i64 zj] 50 ∧ D w2 b4) (fun q _ => N - (intOf q).toNat)
      case atStart => exact ⟨0, by omega, rfl, hj1, hbx, hd1⟩
      case round =>
        obtain ⟨q, hq, rfl, hj2, hb2, hd2⟩ := hrel
        by_cases hlt2 : q < N
        · have hzj : 0 < zj := by
            rcases Nat.eq_zero_or_pos zj with h | h
            · have := HN.out; rw [h] at this; omega
            · exact h
          have hst := upTo_step r c s t m q _ Hz.out (by rw [HN.out]; exact hlt2)
          have hpx := upTo_prefix r c s t m (q + 1) hlt
          rw [hst] at hpx
          have e0 : wr.cell? ⟨b4, 0, none⟩ = some (.int .i64 zk) := hb2.cell 0
          have e1 : wr.cell? ⟨b4, 1, none⟩ = some (.int .i64 zf) := hb2.cell 1
          have e2 : wr.cell? ⟨b4, 2, none⟩ = some (.int .i64 zi) := hb2.cell 2
          have e3 : wr.cell? ⟨b4, 3, none⟩ = some (.int .i64 zj) := hb2.cell 3
          simp only at hst hpx
          have b1 : q / zj ≤ 12 := Nat.le_trans (Nat.div_le_self _ _) (by omega)
          have b2 : q % zj ≤ 12 := Nat.le_trans (Nat.mod_le _ _) (by omega)
          have w1 : (q : Int) / (zj : Int) = ((q / zj : Nat) : Int) := by simp
          have w2 : (q : Int).tmod (zj : Int) = ((q % zj : Nat) : Int) := rfl
          have hz0 : ¬ zj = 0 := by omega
          generalize q / zj = dq at *
          generalize q % zj = dm at *
          have w3 : IntKind.i64.wrap (dq : Int) = (dq : Int) := by rw [IntKind.wrap_i64]; omega
          have w4 : IntKind.i64.wrap ((zf : Int) + (dq : Int)) = ((zf + dq : Nat) : Int) := by rw [IntKind.wrap_i64]; omega
          have w5 : IntKind.i64.wrap (dm : Int) = (dm : Int) := by rw [IntKind.wrap_i64]; omega
          have Hst := Lib.hid hst
          have Hpx := Lib.hid hpx
          clear hst hpx
          have hdc : decide (q < N) = true := by simpa using hlt2
          gi_wp2
          refine wpIn_region_draws_tail 15 (Lets.wide _ _) (by kernel_rfl) (by kernel_rfl) (by kernel_rfl) ?_
          simp only [List.take_succ_cons, List.take_zero, List.drop_succ_cons, List.drop_zero]
          repeat (quiet_step (fail))
          refine wpQuiet_nil ?_
          rintro _ ⟨kq, rfl⟩
          have hj3 := hJ _ _ _ hj2 (grown_drewN wr kq)
          have hd3 := hD1 _ _ _ _ hj2 (grown_drewN wr kq) hd2
          have hb3 : Box (wr.drewN kq) b4 #[.int .i64 zk, .int .i64 zf, .int .i64 zi, .int .i64 zj] 50 := hb2
          obtain ⟨fn, tmps, assign, body, hy, hR⟩ := hY (upTo r c s t m q) _ (wr.drewN kq) hj3 Hpx.out
          simp only [enP, Int.natCast_add] at hy
          gi_wp2
          refine hR.mono ?_
          rintro e W3 (⟨rfl, hJ4, hk4⟩ | ⟨rfl, hJx4⟩)
          · have hs4 := hk4 b4 hd3 hb3.lt
            have hb4 : Box W3 b4 #[.int .i64 zk, .int .i64 zf, .int .i64 zi, .int .i64 zj] 50 := hs4.1.trans hb3
            have hd4 := hs4.2
            gi_wp2
            go_roundw
            case rel => exact ⟨q + 1, by omega, by go_num, by rw [Hst.out]; exact hJ4, hb4, hd4⟩
            case measure => simp [intOf]; omega
          · gi_wp2
            refine bodyPost_ret (results_none rfl _ _ _) rfl ?_
            exact ⟨⟨_, rfl⟩, .inr ⟨_, Hpx.out, hJx4⟩⟩
        · obtain rfl : q = N := by omega
          have hnx := upTo_next r c s t m _ Hz.out
          simp only [HN.out] at hnx
          have Hnx := Lib.hid hnx
          clear hnx
          gi_wp2
          go_roundw
          case rel => exact ⟨m + 1, by omega, by go_num, by rw [← Hnx.out]; exact hj2⟩
          case measure => simp [intOf]; omega
    · obtain rfl : m = 8 := by omega
      gi_wp2
      go_end0
      exact ⟨⟨_, rfl⟩, .inl (by rw [← upTo_all]; exact hj)⟩
end Go.Proofs.YtkjhopnhphiiaaaDoor.Line
