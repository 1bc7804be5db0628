/-
  A config and an ask, out of their own words; the statements' first look.
-/
import Derived.Test.YtknpjhmgkogmaaaDoorConf7
import Derived.Test.YtknpjhmgkogmaaaDoorRefJoin
import Derived.BigQuiet
set_option linter.unusedVariables false
namespace Go.Proofs.YtknpjhmgkogmaaaDoor.Line
open Go.RowKit Go.Sort Go.Proofs.YtknpjhmgkogmaaaDoor.Own Go.Proofs.YtknpjhmgkogmaaaDoor.Conv Go.Proofs.YtknpjhmgkogmaaaDoor.Calm Go.Proofs.YtknpjhmgkogmaaaDoor.Oct

theorem itoa_word (v : Int) (h : 0 ≤ v) : isWord (Lib.itoa v) := by
  obtain ⟨u, rfl⟩ : ∃ u : Nat, v = (u : Int) := ⟨v.toNat, by omega⟩
  rw [Lib.itoa_nonneg]
  refine isWord_of (dec_ne u) fun b hb e => ?_
  have := dec_digits u b hb
  rw [e] at this
  exact absurd this.1 (by decide)
theorem sch_word (z : Int) (h : 0 ≤ z ∧ z ≤ 3) : isWord (schL.getD z.toNat []) ∧ fieldL 0 (schL.getD z.toNat []) = some z := by
  have : z = 0 ∨ z = 1 ∨ z = 2 ∨ z = 3 := by omega
  rcases this with rfl | rfl | rfl | rfl <;> exact ⟨by unfold isWord; decide +kernel, by decide +kernel⟩
theorem ord_word (z : Int) (h : 0 ≤ z ∧ z ≤ 1) : isWord (ordL.getD z.toNat []) ∧ fieldL 1 (ordL.getD z.toNat []) = some z := by
  have : z = 0 ∨ z = 1 := by omega
  rcases this with rfl | rfl <;> exact ⟨by unfold isWord; decide +kernel, by decide +kernel⟩
theorem mod_word (z : Int) (h : 1 ≤ z ∧ z ≤ 3) : isWord (modL.getD (z - 1).toNat []) ∧ fieldL 5 (modL.getD (z - 1).toNat []) = some (z - 1) := by
  have : z = 1 ∨ z = 2 ∨ z = 3 := by omega
  rcases this with rfl | rfl | rfl <;> exact ⟨by unfold isWord; decide +kernel, by decide +kernel⟩
theorem end_word (st : Bool) : isWord (endL.getD (if st then 1 else 0) []) ∧ fieldL 7 (endL.getD (if st then 1 else 0) []) = some (if st then 1 else 0) := by
  cases st <;> exact ⟨by unfold isWord; decide +kernel, by decide +kernel⟩
theorem num_field (k : Nat) (hk : namesAt k = []) (z : Int) (h : 0 ≤ z ∧ z ≤ 1048576) : fieldL k (Lib.itoa z) = some z := by
  have : numberL (Lib.itoa z) = some z := numberL_some.2 ⟨rfl, by omega, by omega⟩
  rw [fieldL, if_pos hk, this, Option.map_some, clampN]
  congr 1
  omega
theorem conf_bd {sc od th fu de mo bu : Int} (h1 : isCfg sc od th fu de = true) (h2 : isAsk mo bu = true) : (0 ≤ sc ∧ sc ≤ 3) ∧ (0 ≤ od ∧ od ≤ 1) ∧ (1 ≤ th ∧ th ≤ 8) ∧ (0 ≤ fu ∧ fu ≤ 16) ∧ (1 ≤ de ∧ de ≤ 4) ∧ (1 ≤ mo ∧ mo ≤ 3) ∧ (0 ≤ bu ∧ bu ≤ 1048576) := by
  unfold isCfg at h1
  unfold isAsk at h2
  simp only [decide_eq_true_eq] at h1 h2
  omega
theorem confW_words {sc od th fu de mo bu : Int} (h1 : isCfg sc od th fu de = true) (h2 : isAsk mo bu = true) (st : Bool) : (∀ t ∈ confW sc od th fu de mo bu st, isWord t) := by
  obtain ⟨q0, q1, q2, q3, q4, q5, q6⟩ := conf_bd h1 h2
  intro t ht
  simp only [confW, List.mem_cons, List.not_mem_nil, or_false] at ht
  rcases ht with rfl | rfl | rfl | rfl | rfl | rfl | rfl | rfl
  · exact (sch_word sc q0).1
  · exact (ord_word od q1).1
  · exact itoa_word _ (by omega)
  · exact itoa_word _ (by omega)
  · exact itoa_word _ (by omega)
  · exact (mod_word mo q5).1
  · exact itoa_word _ (by omega)
  · exact (end_word st).1
theorem conf_words {sc od th fu de mo bu : Int} (h1 : isCfg sc od th fu de = true) (h2 : isAsk mo bu = true) (st : Bool) : wordsL (Lib.join (confW sc od th fu de mo bu st) [32]) = confW sc od th fu de mo bu st := words_join _ (confW_words h1 h2 st)

theorem parse_conf {sc od th fu de mo bu : Int} (h1 : isCfg sc od th fu de = true) (h2 : isAsk mo bu = true) (st : Bool) {w w' : World} {e : Ending} (h : ParsePost w (confW sc od th fu de mo bu st) e w') :
    e = .returned (.tuple #[.agg #[.int .i64 sc, .int .i64 od, .int .i64 th, .int .i64 fu, .int .i64 de], .agg #[.int .i64 mo, .int .i64 bu, .bool st], .int .i64 0]) ∧ Kept No w w' := by
  obtain ⟨q0, q1, q2, q3, q4, q5, q6⟩ := conf_bd h1 h2
  have F0 := (sch_word sc q0).2
  have F1 := (ord_word od q1).2
  have F2 := num_field 2 rfl th (by omega)
  have F3 := num_field 3 rfl fu (by omega)
  have F4 := num_field 4 rfl de (by omega)
  have F5 := (mod_word mo q5).2
  have F6 := num_field 6 rfl bu (by omega)
  have F7 := (end_word st).2
  obtain ⟨hk, ⟨hbad, _⟩ | ⟨_, f0, f1, f2, f3, f4, f5, f6, f7, hf, hr⟩⟩ := h
  · exfalso
    rcases hbad with h | ⟨k, hk8, h⟩
    · exact h rfl
    · rcases eight hk8 with rfl | rfl | rfl | rfl | rfl | rfl | rfl | rfl
      · exact absurd (F0.symm.trans h) (by simp)
      · exact absurd (F1.symm.trans h) (by simp)
      · exact absurd (F2.symm.trans h) (by simp)
      · exact absurd (F3.symm.trans h) (by simp)
      · exact absurd (F4.symm.trans h) (by simp)
      · exact absurd (F5.symm.trans h) (by simp)
      · exact absurd (F6.symm.trans h) (by simp)
      · exact absurd (F7.symm.trans h) (by simp)
  · obtain rfl := Option.some.inj (F0.symm.trans (hf 0 (by omega)))
    obtain rfl := Option.some.inj (F1.symm.trans (hf 1 (by omega)))
    obtain rfl := Option.some.inj (F2.symm.trans (hf 2 (by omega)))
    obtain rfl := Option.some.inj (F3.symm.trans (hf 3 (by omega)))
    obtain rfl := Option.some.inj (F4.symm.trans (hf 4 (by omega)))
    have e5 : mo - 1 = f5 := Option.some.inj (F5.symm.trans (hf 5 (by omega)))
    obtain rfl := Option.some.inj (F6.symm.trans (hf 6 (by omega)))
    have e7 : (if st then 1 else 0) = f7 := Option.some.inj (F7.symm.trans (hf 7 (by omega)))
    have e5' : f5 + 1 = mo := by omega
    rw [e5'] at hr
    rw [h1, h2] at hr
    rcases hr with ⟨h, _⟩ | ⟨_, rfl⟩
    · cases h
    · refine ⟨?_, hk⟩
      rw [← e7]
      cases st <;> rfl

theorem results_cc {P : Program} {fn : Func} {p q : Tmp} {ty1 ty2 : TypeId} (h : fn.results = #[.cell p ty1, .cell q ty2]) (tmps : Array Value) (w : World) (g1 g2 : Nat) (t1 t2 : TypeId) (cs1 cs2 : Array Value) (d1 d2 : TypeDesc)
    (hp : tmps.getD p undef = .pointer (some ⟨g1, 0, none⟩)) (hq : tmps.getD q undef = .pointer (some ⟨g2, 0, none⟩)) (hg1 : Box w g1 cs1 t1) (hg2 : Box w g2 cs2 t2)
    (hu1 : P.underlying ty1 = some d1) (hd1 : (match d1 with | .struct _ | .array _ _ => true | _ => false) = true) (hi1 : (P.info? ty1).map (·.size) = some cs1.size)
    (hu2 : P.underlying ty2 = some d2) (hd2 : (match d2 with | .struct _ | .array _ _ => true | _ => false) = true) (hi2 : (P.info? ty2).map (·.size) = some cs2.size) :
    (results fn tmps).run P w = .ok (.tuple #[.agg cs1, .agg cs2]) w := by
  have hp' : tmps[p]?.getD undef = .pointer (some ⟨g1, 0, none⟩) := by simpa using hp
  have hq' : tmps[q]?.getD undef = .pointer (some ⟨g2, 0, none⟩) := by simpa using hq
  simp [results, h, hp', hq', asAddr, Sem.run_bind, Result.andThen, run_loadVar_row w g1 t1 ty1 cs1 (0, 0) d1 hg1 hu1 hd1 hi1, run_loadVar_row w g2 t2 ty2 cs2 (0, 0) d2 hg2 hu2 hd2 hi2]

theorem some_is (w : World) : Calls Tryd.prog 21 #[] w fun e w' => e = .returned (.tuple #[.agg #[.int .i64 1, .int .i64 1, .int .i64 2, .int .i64 8, .int .i64 1], .agg #[.int .i64 2, .int .i64 1000, .bool false]]) ∧ Kept No w w' := by
  have hx0 := (Box.new w cfg0 23).alloc (.cells ask0 25)
  have hy0 := Box.new (w.alloc (.cells cfg0 23)) ask0 25
  have hk0 : Kept No w ((w.alloc (.cells cfg0 23)).alloc (.cells ask0 25)) := ((Kept.refl _ _).alloc _).alloc _
  simp only [World.size_alloc] at hy0
  obtain ⟨w0, hw0⟩ : ∃ w0, (w.alloc (.cells cfg0 23)).alloc (.cells ask0 25) = w0 := ⟨_, rfl⟩
  rw [hw0] at hx0 hy0 hk0
  unfold cfg0 ask0 at hw0
  obtain ⟨p1, p2, p3, p4⟩ := rows_two hx0 hy0 hk0 (Nat.le_refl _) #[.int .i64 1, .int .i64 1, .int .i64 2, .int .i64 8, .int .i64 1] #[.int .i64 2, .int .i64 1000, .bool false]
  have HW0 := Lib.hid hw0
  clear hw0
  go_enter Tryd.func21, Tryd.ntmps21
  go_upto_region 1 with fail
  rw [HW0.out]
  clear HW0
  go_wp2_with (first
    | refine wpList_store_rowTo rfl 23 _ _ rfl rfl w.heap.size #[.int .i64 1, .int .i64 1, .int .i64 2, .int .i64 8, .int .i64 1] (by kernel_rfl) (by kernel_rfl) 23 _ hx0 (by kernel_rfl) (by kernel_rfl) (by kernel_rfl) ?_
    | refine wpList_store_rowTo rfl 25 _ _ rfl rfl (w.heap.size + 1) #[.int .i64 2, .int .i64 1000, .bool false] (by kernel_rfl) (by kernel_rfl) 25 _ p1 (by kernel_rfl) (by kernel_rfl) (by kernel_rfl) ?_)
  refine bodyPost_ret (results_cc rfl _ _ w.heap.size (w.heap.size + 1) 23 25 _ _ _ _ rfl rfl p2 p3 Tryd.underlying23 rfl (by kernel_rfl) Tryd.underlying25 rfl (by kernel_rfl)) rfl ?_
  exact ⟨rfl, p4⟩

set_option maxRecDepth 100000 in
set_option maxHeartbeats 4000000 in
theorem alive_is (w : World) (hT : Door.Tabs w) : Calls Tryd.prog 7 #[] w fun e w' => e = .returned (.bool true) ∧ Kept No w w' := by
  have h1 : isCfg 1 1 2 8 1 = true := by decide
  have h2 : isAsk 2 1000 = true := by decide
  have n1 : Lib.join (confW 1 1 2 8 1 2 1000 false) [32] = [104, 97, 122, 97, 114, 100, 32, 116, 115, 111, 32, 50, 32, 56, 32, 49, 32, 100, 112, 111, 114, 32, 49, 48, 48, 48, 32, 97, 108, 108] := by decide +kernel
  have hL := fun w hT => line_yes 1 1 2 8 1 2 1000 false h1 h2 w hT
  have hP := fun w hT => parse_is (Lib.join (confW 1 1 2 8 1 2 1000 false) [32]) (by rw [n1]; decide) w hT
  have hPut := fun w => confput_yes 1 1 2 8 1 2 1000 false h1 h2 w
  have hC := fun w => check_is 1 1 2 8 1 w
  have HPC := Lib.hid (fun w w' e h => parse_conf (w := w) (w' := w') (e := e) h1 h2 false h)
  simp only [conf_words h1 h2 false] at hP
  have hl10 : (putL 1 1 2 8 1 2 1000 false).length = 10 := by decide +kernel
  have HL10 := Lib.hid hl10
  simp only [h1, if_true] at hC
  simp only [n1] at hL hP
  have HL := Lib.hid hL
  have HP := Lib.hid hP
  have HPut := Lib.hid hPut
  have HC := Lib.hid hC
  have HT := Lib.hid hT
  clear hL hP hPut hC hT h1 h2 n1 hl10
  go_enter Tryd.func7, Tryd.ntmps7
  go_wp2_with fail
  refine (some_is w).mono ?_
  rintro e w1 ⟨rfl, k1⟩
  go_upto_region 2 with fail
  have hc2 := (Box.new w1 #[.int .i64 1, .int .i64 1, .int .i64 2, .int .i64 8, .int .i64 1] 23).alloc (.cells #[.int .i64 2, .int .i64 1000, .bool false] 25)
  have ha2 := Box.new (w1.alloc (.cells #[.int .i64 1, .int .i64 1, .int .i64 2, .int .i64 8, .int .i64 1] 23)) #[.int .i64 2, .int .i64 1000, .bool false] 25
  have hk2 : Kept No w ((w1.alloc (.cells #[.int .i64 1, .int .i64 1, .int .i64 2, .int .i64 8, .int .i64 1] 23)).alloc (.cells #[.int .i64 2, .int .i64 1000, .bool false] 25)) := (k1.alloc _).alloc _
  simp only [World.size_alloc] at ha2
  generalize (w1.alloc _).alloc _ = w2 at *
  generalize w1.heap.size = bc at *
  clear k1
  have c0 : w2.cell? ⟨bc, 0, none⟩ = some (.int .i64 1) := hc2.cell 0
  have c1 : w2.cell? ⟨bc, 1, none⟩ = some (.int .i64 1) := hc2.cell 1
  have c2 : w2.cell? ⟨bc, 2, none⟩ = some (.int .i64 2) := hc2.cell 2
  have c3 : w2.cell? ⟨bc, 3, none⟩ = some (.int .i64 8) := hc2.cell 3
  have c4 : w2.cell? ⟨bc, 4, none⟩ = some (.int .i64 1) := hc2.cell 4
  have d0 : w2.cell? ⟨bc + 1, 0, none⟩ = some (.int .i64 2) := ha2.cell 0
  have d1 : w2.cell? ⟨bc + 1, 1, none⟩ = some (.int .i64 1000) := ha2.cell 1
  have d2 : w2.cell? ⟨bc + 1, 2, none⟩ = some (.bool false) := ha2.cell 2
  go_wp2_with fail
  refine (HL.out w2 (HT.out.kept hk2)).mono ?_
  rintro e w3 ⟨rfl, k3⟩
  have hc3 := hc2.kept k3 id
  have ha3 := ha2.kept k3 id
  have hk3 := hk2.trans k3 (fun _ _ f => f)
  clear c0 c1 c2 c3 c4 d0 d1 d2 hc2 ha2 hk2 k3
  go_wp2_with fail
  refine (HP.out w3 (HT.out.kept hk3)).mono ?_
  rintro e w4 hpp
  obtain ⟨rfl, k4⟩ := HPC.out _ _ _ hpp
  have hc4 := hc3.kept k4 id
  have ha4 := ha3.kept k4 id
  have hk4 := hk3.trans k4 (fun _ _ f => f)
  clear hc3 ha3 hk3 k4 hpp
  go_upto_region 4 with fail
  have hd5 := (Box.new w4 #[.int .i64 1, .int .i64 1, .int .i64 2, .int .i64 8, .int .i64 1] 23).alloc (.cells #[.int .i64 2, .int .i64 1000, .bool false] 25)
  have hx5 := Box.new (w4.alloc (.cells #[.int .i64 1, .int .i64 1, .int .i64 2, .int .i64 8, .int .i64 1] 23)) #[.int .i64 2, .int .i64 1000, .bool false] 25
  have hc5 := (hc4.alloc (.cells #[.int .i64 1, .int .i64 1, .int .i64 2, .int .i64 8, .int .i64 1] 23)).alloc (.cells #[.int .i64 2, .int .i64 1000, .bool false] 25)
  have ha5 := (ha4.alloc (.cells #[.int .i64 1, .int .i64 1, .int .i64 2, .int .i64 8, .int .i64 1] 23)).alloc (.cells #[.int .i64 2, .int .i64 1000, .bool false] 25)
  have hk5 := (hk4.alloc (.cells #[.int .i64 1, .int .i64 1, .int .i64 2, .int .i64 8, .int .i64 1] 23)).alloc (.cells #[.int .i64 2, .int .i64 1000, .bool false] 25)
  simp only [World.size_alloc] at hx5
  generalize (w4.alloc _).alloc _ = w5 at *
  generalize w4.heap.size = bd at *
  clear hc4 ha4 hk4
  have c0 : w5.cell? ⟨bc, 0, none⟩ = some (.int .i64 1) := hc5.cell 0
  have c1 : w5.cell? ⟨bc, 1, none⟩ = some (.int .i64 1) := hc5.cell 1
  have c2 : w5.cell? ⟨bc, 2, none⟩ = some (.int .i64 2) := hc5.cell 2
  have c3 : w5.cell? ⟨bc, 3, none⟩ = some (.int .i64 8) := hc5.cell 3
  have c4 : w5.cell? ⟨bc, 4, none⟩ = some (.int .i64 1) := hc5.cell 4
  have d0 : w5.cell? ⟨bc + 1, 0, none⟩ = some (.int .i64 2) := ha5.cell 0
  have d1 : w5.cell? ⟨bc + 1, 1, none⟩ = some (.int .i64 1000) := ha5.cell 1
  have d2 : w5.cell? ⟨bc + 1, 2, none⟩ = some (.bool false) := ha5.cell 2
  go_wp2_with fail
  refine (HPut.out w5).mono ?_
  rintro e w6 ⟨v, n, rfl, hs6, k6⟩
  have hc6 := hc5.kept k6 id
  have ha6 := ha5.kept k6 id
  have hd6 := hd5.kept k6 id
  have hx6 := hx5.kept k6 id
  have hk6 := hk5.trans k6 (fun _ _ f => f)
  obtain rfl : n = 10 := by
    have := hs6.len
    rw [bv_len, HL10.out] at this
    omega
  obtain ⟨_, av, cv, rfl, _, _, _, _⟩ := hs6.rd
  clear c0 c1 c2 c3 c4 d0 d1 d2 hc5 ha5 hd5 hx5 hk5 k6 hs6
  have c0 : w6.cell? ⟨bc, 0, none⟩ = some (.int .i64 1) := hc6.cell 0
  have c1 : w6.cell? ⟨bc, 1, none⟩ = some (.int .i64 1) := hc6.cell 1
  have c2 : w6.cell? ⟨bc, 2, none⟩ = some (.int .i64 2) := hc6.cell 2
  have c3 : w6.cell? ⟨bc, 3, none⟩ = some (.int .i64 8) := hc6.cell 3
  have c4 : w6.cell? ⟨bc, 4, none⟩ = some (.int .i64 1) := hc6.cell 4
  have d0 : w6.cell? ⟨bc + 1, 0, none⟩ = some (.int .i64 2) := ha6.cell 0
  have d1 : w6.cell? ⟨bc + 1, 1, none⟩ = some (.int .i64 1000) := ha6.cell 1
  have d2 : w6.cell? ⟨bc + 1, 2, none⟩ = some (.bool false) := ha6.cell 2
  have e0 : w6.cell? ⟨bd, 0, none⟩ = some (.int .i64 1) := hd6.cell 0
  have e1 : w6.cell? ⟨bd, 1, none⟩ = some (.int .i64 1) := hd6.cell 1
  have e2 : w6.cell? ⟨bd, 2, none⟩ = some (.int .i64 2) := hd6.cell 2
  have e3 : w6.cell? ⟨bd, 3, none⟩ = some (.int .i64 8) := hd6.cell 3
  have e4 : w6.cell? ⟨bd, 4, none⟩ = some (.int .i64 1) := hd6.cell 4
  have g0 : w6.cell? ⟨bd + 1, 0, none⟩ = some (.int .i64 2) := hx6.cell 0
  have g1 : w6.cell? ⟨bd + 1, 1, none⟩ = some (.int .i64 1000) := hx6.cell 1
  have g2 : w6.cell? ⟨bd + 1, 2, none⟩ = some (.bool false) := hx6.cell 2
  go_wp2_with fail
  refine (HC.out w6).mono ?_
  rintro e w7 ⟨rfl, k7⟩
  have hk7 := hk6.trans k7 (fun _ _ f => f)
  go_wp2_with fail
  go_ret
  exact ⟨rfl, hk7⟩
end Go.Proofs.YtknpjhmgkogmaaaDoor.Line
