/-
  asm.Parse, of a text that is a program.
-/
import Derived.Test.YtjpddfnkamahfaaDoorLine13
import Derived.Test.YtjpddfnkamahfaaDoorParLaw13
import Derived.Test.YtjpddfnkamahfaaDoorPc12
set_option linter.unusedVariables false
set_option linter.unusedSimpArgs false
namespace Go.Proofs.YtjpddfnkamahfaaDoor.Line
open Go.RowKit Go.Sort Go.Proofs.YtjpddfnkamahfaaDoor.Own Go.Proofs.YtjpddfnkamahfaaDoor.Conv Go.Proofs.YtjpddfnkamahfaaDoor.Calm Go.Proofs.YtjpddfnkamahfaaDoor.Open

/-- The threads, as rows. -/
def rowsOf (hds : List Value) (rws : List (List Int)) : List RowI := List.zipWith (fun hd xs => ⟨hd, xs.length / 5, xs⟩) hds rws
theorem rowsOf_len {hds : List Value} {rws : List (List Int)} (h : hds.length = rws.length) : (rowsOf hds rws).length = rws.length := by
  rw [rowsOf, List.length_zipWith, h, Nat.min_self]
theorem rowsOf_v : ∀ (hds : List Value) (rws : List (List Int)), hds.length = rws.length → (rowsOf hds rws).map (·.v) = hds
  | [], [], _ => rfl
  | [], _ :: _, h => by simp at h
  | _ :: _, [], h => by simp at h
  | hd :: hds, xs :: rws, h => by
    have := rowsOf_v hds rws (by simpa using h)
    simp only [rowsOf, List.zipWith_cons_cons, List.map_cons] at this ⊢
    rw [this]
theorem rowsOf_mem {q : RowI} : ∀ (hds : List Value) (rws : List (List Int)), q ∈ rowsOf hds rws → ∃ (i : Nat) (hd : Value) (xs : List Int), hds[i]? = some hd ∧ rws[i]? = some xs ∧ q = ⟨hd, xs.length / 5, xs⟩
  | [], _, h => by simp [rowsOf] at h
  | _ :: _, [], h => by simp [rowsOf] at h
  | hd :: hds, xs :: rws, h => by
    simp only [rowsOf, List.zipWith_cons_cons, List.mem_cons] at h
    rcases h with rfl | h
    · exact ⟨0, hd, xs, rfl, rfl, rfl⟩
    · obtain ⟨i, hd', xs', h1, h2, h3⟩ := rowsOf_mem hds rws h
      exact ⟨i + 1, hd', xs', h1, h2, h3⟩
theorem RdrMem.pr {w : World} {B b : Nat} {st : PS} {v : Value} {hds : List Value} (h : RdrMem w B b st v hds) (h64 : ∀ xs ∈ st.rows, ∀ z ∈ xs, int64 z) : PR w v (rowsOf hds st.rows) := by
  refine pr_of ?_ ?_
  · rw [rowsOf_len h.len, rowsOf_v _ _ h.len, ← h.len]
    exact h.code.rd
  · intro q hq
    obtain ⟨i, hd, xs, h1, h2, rfl⟩ := rowsOf_mem _ _ hq
    obtain ⟨n, hs⟩ := h.row i hd xs h1 h2
    have hl := hs.len
    rw [vals_len] at hl
    have hn : xs.length / 5 = n := by omega
    refine ⟨?_, h64 xs (List.mem_of_getElem? h2)⟩
    rw [hn]
    exact hs.rd
theorem RdrMem.keptS {S : Nat → Prop} {w w' : World} {B b : Nat} {st : PS} {v : Value} {hds : List Value} (h : RdrMem w B b st v hds) (hk : Kept S w w') (hS : ∀ q, RdrB b v hds q → ¬ S q) : RdrMem w' B b st v hds :=
  ⟨h.base, h.box.kept hk (hS b (.inl rfl)), h.code.kept hk (fun g hg => hS g (.inr (.inl hg))), h.len,
   fun i hd xs h1 h2 => (h.row i hd xs h1 h2).imp fun n hs => hs.kept hk (fun g hg => hS g (.inr (.inr ⟨hd, List.mem_of_getElem? h1, hg⟩))), h.vb, h.hb, h.apart⟩
theorem RdrMem.new (w : World) : RdrMem (w.alloc (.cells #[.int .i64 0, .int .i64 0, .int .i64 0, .slice none 0 0, .bool false] 58)) w.heap.size w.heap.size ps0 (.slice none 0 0) [] :=
  ⟨Nat.le_refl _, Box.new w _ _, Seg.nil _ _ _ _, rfl, (by simp), (by simp [Value.ownBlock]), (by simp), (by simp)⟩
theorem kept_row (w : World) (g : Nat) (cs : Array Value) : Kept (Only g) w (w.setRow g cs) :=
  ⟨rfl, rfl, rfl, by rw [setRow_size]; exact Nat.le_refl _, fun k h1 h2 => setRow_other w g k cs h2⟩
theorem results_row_tmp2 {P : Program} {fn : Func} {p u u2 : Tmp} {ty : TypeId} (h : fn.results = #[.cell p ty, .tmp u, .tmp u2]) (tmps : Array Value) (w : World) (g : Nat) (t : TypeId) (cs : Array Value) (fr : Nat × Nat) (d : TypeDesc)
    (hp : tmps.getD p undef = .pointer (some ⟨g, 0, none⟩)) (hg : w.heap[g]? = some (.cells cs t fr))
    (hu : P.underlying ty = some d) (hd : (match d with | .struct _ | .array _ _ => true | _ => false) = true) (hi : (P.info? ty).map (·.size) = some cs.size) :
    (results fn tmps).run P w = .ok (.tuple #[.agg cs, tmps.getD u undef, tmps.getD u2 undef]) w := by
  have hp' : tmps[p]?.getD undef = .pointer (some ⟨g, 0, none⟩) := by simpa using hp
  simp [results, h, hp', asAddr, run_loadVar_row w g t ty cs fr d hg hu hd hi]
theorem lines_le : ∀ (l : List UInt8), ∀ p ∈ linesL l, p.length ≤ l.length
  | [], p, h => by simp [linesL] at h
  | b :: r, p, h => by
    have ih := lines_le r
    unfold linesL at h
    split at h
    · rcases List.mem_cons.1 h with rfl | h
      · simp
      · have := ih p h; simp; omega
    · split at h
      · rw [List.mem_singleton.1 h]; simp
      · rename_i q ps e
        rw [e] at ih
        rcases List.mem_cons.1 h with rfl | h
        · have := ih q (by simp); simp; omega
        · have := ih p (by simp [h]); simp; omega

set_option maxRecDepth 100000 in
set_option maxHeartbeats 8000000 in
theorem asmparse_is (l : List UInt8) (hl : l.length ≤ 100000) (st : PS) (hrun : runS ps0 (linesL l) = (st, 0)) (hbg : st.bg = true) (h64 : ∀ xs ∈ st.rows, ∀ z ∈ xs, int64 z) (hr : int64 st.r) (hs : int64 st.s)
    (hE : ∀ hds : List Value, hds.length = st.rows.length → progE st.r st.c st.s (rowsOf hds st.rows) = 0) (w : World) (hT : Door.Tabs w) :
    Calls Tryd.prog 13 #[.string ⟨l.toArray⟩] w fun e w' => Kept No w w' ∧ ∃ v hds, hds.length = st.rows.length ∧ e = .returned (.tuple #[.agg #[.int .i64 st.r, .int .i64 st.c, .int .i64 st.s, v], .int .i64 (linesL l).length, .int .i64 0]) ∧ PR w' v (rowsOf hds st.rows) := by
  have hsp := fun w => split_is l hl w
  have hll := lines_le l
  obtain ⟨sl, hsl⟩ : ∃ x : ByteArray, (⟨l.toArray⟩ : ByteArray) = x := ⟨_, rfl⟩
  rw [hsl] at hsp ⊢
  have HSP := Lib.hid hsp
  have HLL := Lib.hid hll
  have HRUN := Lib.hid hrun
  have HBG := Lib.hid hbg
  have H64 := Lib.hid h64
  have HR := Lib.hid hr
  have HS := Lib.hid hs
  have HE := Lib.hid hE
  have HT := Lib.hid hT
  clear hsp hll hrun hbg h64 hr hs hE hT hsl
  generalize hall : linesL l = all at *
  clear hall
  go_enter Tryd.func13, Tryd.ntmps13
  go_wp2_with fail
  have hm0 := RdrMem.new (w.alloc (.cells #[.int .i64 0, .int .i64 0, .int .i64 0, .slice none 0 0] 32))
  rw [World.size_alloc] at hm0
  have hres := (Box.new w #[.int .i64 0, .int .i64 0, .int .i64 0, .slice none 0 0] 32).alloc (.cells #[.int .i64 0, .int .i64 0, .int .i64 0, .slice none 0 0, .bool false] 58)
  have hk1 := ((Kept.refl No w).alloc (.cells #[.int .i64 0, .int .i64 0, .int .i64 0, .slice none 0 0] 32)).alloc (.cells #[.int .i64 0, .int .i64 0, .int .i64 0, .slice none 0 0, .bool false] 58)
  have hsz1 : ((w.alloc (.cells #[.int .i64 0, .int .i64 0, .int .i64 0, .slice none 0 0] 32)).alloc (.cells #[.int .i64 0, .int .i64 0, .int .i64 0, .slice none 0 0, .bool false] 58)).heap.size = w.heap.size + 2 := by rw [World.size_alloc, World.size_alloc]
  have hsz1a := Nat.le_of_eq hsz1.symm
  clear hsz1
  generalize (w.alloc (.cells #[.int .i64 0, .int .i64 0, .int .i64 0, .slice none 0 0] 32)).alloc (.cells #[.int .i64 0, .int .i64 0, .int .i64 0, .slice none 0 0, .bool false] 58) = w1 at *
  refine (HSP.out w1).mono ?_
  rintro e w2 ⟨k2, v2, rfl, s2⟩
  have hsz2 := k2.size
  have hm2 := Lib.hid (hm0.kept k2)
  have hres2 := Lib.hid (hres.kept k2 id)
  have hk2 := Lib.hid (hk1.trans k2 (fun _ _ f => f))
  have hv2 := fun g (hg : v2.ownBlock = some g) => (s2.lt g hg).1
  obtain ⟨-, ao, cap, hv, hc1, hc2, -, hR⟩ := s2.rd
  subst hv
  unfold maxLen at hc2
  have HR2 := Lib.hid hR
  have HV2 := Lib.hid hv2
  clear hR hv2 s2 k2 hk1 hres hm0 HSP
  go_wp2_with fail
  go_loopw [15] (fun i wr => ∃ (k : Nat) (v : Value) (hds : List Value), k ≤ all.length ∧ i = .int .i64 k ∧ Hid (RdrMem wr (w.heap.size + 1) (w.heap.size + 1) (runS ps0 (all.take k)).1 v hds) ∧ Hid (Kept (Only (w.heap.size + 1)) w2 wr) ∧ Hid (∀ q, q < w2.heap.size → RdrB (w.heap.size + 1) v hds q → q = w.heap.size + 1)) (fun i _ => all.length - (intOf i).toNat)
  case atStart =>
    exact ⟨0, _, _, by omega, rfl, hm2, Lib.hid (Kept.refl _ _), Lib.hid (fun q _ hq => by
      rcases hq with h | h | ⟨hd, hm, _⟩
      · exact h
      · cases h
      · cases hm)⟩
  case round =>
    obtain ⟨k, v, hds, hk, rfl, hm, hK, hQ⟩ := hrel
    have hszr := hK.out.size
    have hkw : Hid (Kept No w wr) := Lib.hid (hk2.out.trans hK.out (fun q hq h => by have : q = w.heap.size + 1 := h; omega))
    by_cases hlt : k < all.length
    · obtain ⟨x, hx⟩ : ∃ x, all[k]? = some x := ⟨_, List.getElem?_eq_getElem hlt⟩
      obtain ⟨g, o, rfl, hg, hcell⟩ := HR2.out (by omega)
      obtain ⟨sx, hsx⟩ : ∃ y : ByteArray, (⟨x.toArray⟩ : ByteArray) = y := ⟨_, rfl⟩
      have hgb : ¬ Only (w.heap.size + 1) g := fun e => by have h1 : g = w.heap.size + 1 := e; have h2 := HV2.out g rfl; omega
      have c1 : wr.cell? ⟨g, o + k, none⟩ = some (.string sx) := by
        rw [← hsx]
        exact (hK.out.cell (p := ⟨g, o + k, none⟩) hg hgb).trans (hcell k _ (by rw [sv, List.getElem?_map, hx]; rfl))
      obtain ⟨h0, hst⟩ := runS_step (st := ps0) hx (by rw [HRUN.out])
      have hln := line_is (w.heap.size + 1) (w.heap.size + 1) (runS ps0 (all.take k)).1 x (Nat.le_trans (HLL.out x (List.mem_of_getElem? hx)) hl) wr w (by omega) HT.out (hkw.out.mono (fun _ _ f => f.elim)) (by omega) (runS_rows _ _ (by simp [ps0])) v hds hm.out
      unfold LinePost at hln
      rw [h0, ← hst, hsx] at hln
      have HLN := Lib.hid hln
      clear hln hst h0 hx hcell hsx
      go_wp2_with fail
      refine HLN.out.mono ?_
      rintro e w3 ⟨rfl, k3, hex⟩
      obtain ⟨v', hds', hm3, hq3⟩ := hex trivial
      have hK3 : Hid (Kept (Only (w.heap.size + 1)) w2 w3) := Lib.hid (hK.out.trans k3 (fun q hq h => hQ.out q hq h))
      have hQ3 : Hid (∀ q, q < w2.heap.size → RdrB (w.heap.size + 1) v' hds' q → q = w.heap.size + 1) := Lib.hid (fun q hq h => hQ.out q hq (hq3 q (by omega) h))
      have HM3 := Lib.hid hm3
      clear c1 k3 hex hm3 hq3
      go_wp2_with fail
      go_roundw
      case rel => exact ⟨k + 1, v', hds', by omega, by go_num, HM3, hK3, hQ3⟩
      case measure => simp [intOf]; omega
    · obtain rfl : k = all.length := by omega
      have hmf := hm.out
      rw [List.take_length, HRUN.out] at hmf
      have HMF := Lib.hid hmf
      have hvr := hmf.code.rd
      obtain ⟨-, ao3, cap3, hv, hc3, hc4, -, -⟩ := hvr
      subst hv
      have c0 : wr.cell? ⟨w.heap.size + 1, 0, none⟩ = some (.int .i64 st.r) := hmf.box.cell 0
      have c1 : wr.cell? ⟨w.heap.size + 1, 1, none⟩ = some (.int .i64 st.c) := hmf.box.cell 1
      have c2 : wr.cell? ⟨w.heap.size + 1, 2, none⟩ = some (.int .i64 st.s) := hmf.box.cell 2
      have c3 : wr.cell? ⟨w.heap.size + 1, 3, none⟩ = some (.slice ao3 hds.length cap3) := hmf.box.cell 3
      have hck := progcheck_is st.r st.c st.s HR.out HS.out ao3 hds.length cap3 _ wr (hmf.pr H64.out)
      rw [HE.out hds hmf.len] at hck
      have HCK := Lib.hid hck
      clear hck hmf hc3 hc4 hm
      go_wp2_with fail
      refine HCK.out.mono ?_
      rintro e w5 ⟨rfl, k5⟩
      have hm5 := HMF.out.kept k5
      have d0 : w5.cell? ⟨w.heap.size + 1, 0, none⟩ = some (.int .i64 st.r) := hm5.box.cell 0
      have d1 : w5.cell? ⟨w.heap.size + 1, 1, none⟩ = some (.int .i64 st.c) := hm5.box.cell 1
      have d2 : w5.cell? ⟨w.heap.size + 1, 2, none⟩ = some (.int .i64 st.s) := hm5.box.cell 2
      have d3 : w5.cell? ⟨w.heap.size + 1, 3, none⟩ = some (.slice ao3 hds.length cap3) := hm5.box.cell 3
      have d4 : w5.cell? ⟨w.heap.size + 1, 4, none⟩ = some (.bool true) := by rw [← HBG.out]; exact hm5.box.cell 4
      have hr5 : Box w5 w.heap.size #[.int .i64 0, .int .i64 0, .int .i64 0, .slice none 0 0] 32 := (hres2.out.kept hK.out (fun e => by have : w.heap.size = w.heap.size + 1 := e; omega)).kept k5 id
      have hk5 := hkw.out.trans k5 (fun _ _ f => f)
      have HR5 := Lib.hid hr5
      have HK5 := Lib.hid hk5
      have HM5 := Lib.hid hm5
      have HQ5 : Hid (∀ q, RdrB (w.heap.size + 1) (.slice ao3 hds.length cap3) hds q → ¬ Only w.heap.size q) := Lib.hid (fun q h e => by
        have h1 : q = w.heap.size := e
        have := hQ.out q (by omega) h
        omega)
      clear c0 c1 c2 c3 k5 hr5 hk5 hm5
      go_wp2_with (refine wpList_store_rowTo rfl 32 _ _ rfl rfl w.heap.size #[.int .i64 st.r, .int .i64 st.c, .int .i64 st.s, .slice ao3 hds.length cap3] (by kernel_rfl) (by kernel_rfl) 32 _ HR5.out (by kernel_rfl) (by kernel_rfl) (by kernel_rfl) ?_)
      refine bodyPost_ret (results_row_tmp2 rfl _ _ w.heap.size 32 #[.int .i64 st.r, .int .i64 st.c, .int .i64 st.s, .slice ao3 hds.length cap3] (0, 0) _ rfl HR5.out.row Tryd.underlying32 rfl (by kernel_rfl)) rfl ?_
      exact ⟨row_kept HK5.out (Nat.le_refl _) _, _, hds, HM5.out.len, rfl, (HM5.out.keptS (kept_row _ _ _) HQ5.out).pr H64.out⟩
end Go.Proofs.YtjpddfnkamahfaaDoor.Line
