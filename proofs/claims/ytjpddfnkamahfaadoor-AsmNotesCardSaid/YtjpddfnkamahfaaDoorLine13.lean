/-
  reader.line: a line more.
-/
import Derived.Test.YtjpddfnkamahfaaDoorPut13
import Derived.Test.YtjpddfnkamahfaaDoorDynST
import Derived.Test.YtjpddfnkamahfaaDoorFew12
set_option linter.unusedVariables false
set_option linter.unusedSimpArgs false
namespace Go.Proofs.YtjpddfnkamahfaaDoor.Line
open Go.RowKit Go.Sort Go.Proofs.YtjpddfnkamahfaaDoor.Own Go.Proofs.YtjpddfnkamahfaaDoor.Conv Go.Proofs.YtjpddfnkamahfaaDoor.Calm

/-- The reader's blocks. -/
def RdrB (b : Nat) (v : Value) (hds : List Value) (q : Nat) : Prop := q = b ∨ v.ownBlock = some q ∨ ∃ hd ∈ hds, hd.ownBlock = some q
theorem RdrMem.from {w : World} {B b : Nat} {st : PS} {v : Value} {hds : List Value} (h : RdrMem w B b st v hds) {q : Nat} (hq : RdrB b v hds q) : B ≤ q := by
  rcases hq with rfl | h1 | ⟨hd, hm, h1⟩
  · exact h.base
  · exact (h.code.lt q h1).1
  · obtain ⟨i, hi⟩ := List.getElem?_of_mem hm
    obtain ⟨n, xs, hs⟩ := h.seg_of hi
    exact (hs.lt q h1).1
/-- What a line more answers, and leaves. -/
def LinePost (B b : Nat) (v : Value) (hds : List Value) (w : World) (p : PS × Int) (e : Ending) (w' : World) : Prop :=
  e = .returned (.int .i64 p.2) ∧ Kept (RdrB b v hds) w w' ∧ (p.2 = 0 → ∃ v' hds', RdrMem w' B b p.1 v' hds' ∧ ∀ q, q < w.heap.size → RdrB b v' hds' q → RdrB b v hds q)

theorem line_no {st : PS} {l : List UInt8} (h : ¬ (wordsL l = [] ∨ ((wordsL l).getD 0 []).head? = some 35)) (hb : st.bg = false) (hh : headOk (wordsL l) = false) : lineS st l = (st, 1) := by
  unfold lineS
  simp only [hb, if_true]
  rw [if_neg h, if_neg (by rw [hh]; exact Bool.false_ne_true)]
theorem line_head {st : PS} {l : List UInt8} (h : ¬ (wordsL l = [] ∨ ((wordsL l).getD 0 []).head? = some 35)) (hb : st.bg = false) (hh : headOk (wordsL l) = true) : lineS st l = (⟨hdV (wordsL l) 0, hdV (wordsL l) 1, hdV (wordsL l) 2, true, st.rows⟩, 0) := by
  unfold lineS
  simp only [hb, if_true]
  rw [if_neg h, if_pos hh]
theorem line_many {st : PS} {l : List UInt8} (h : ¬ (wordsL l = [] ∨ ((wordsL l).getD 0 []).head? = some 35)) (hb : st.bg = true) (hw : wordsL l = [threadW]) (hm : 4 ≤ st.rows.length) : lineS st l = (st, 4) := by
  unfold lineS
  simp only [hb, Bool.true_eq_false, if_false]
  rw [if_neg h, if_pos hw, if_pos hm]
theorem line_thread {st : PS} {l : List UInt8} (h : ¬ (wordsL l = [] ∨ ((wordsL l).getD 0 []).head? = some 35)) (hb : st.bg = true) (hw : wordsL l = [threadW]) (hm : ¬ 4 ≤ st.rows.length) : lineS st l = (⟨st.r, st.c, st.s, st.bg, st.rows ++ [[]]⟩, 0) := by
  unfold lineS
  simp only [hb, Bool.true_eq_false, if_false]
  rw [if_neg h, if_pos hw, if_neg hm]
theorem line_bad {st : PS} {l : List UInt8} (h : ¬ (wordsL l = [] ∨ ((wordsL l).getD 0 []).head? = some 35)) (hb : st.bg = true) (hw : wordsL l ≠ [threadW]) (hm : st.rows ≠ []) (he : (instrL l).e ≠ 0) : lineS st l = (st, (instrL l).e) := by
  unfold lineS
  simp only [hb, Bool.true_eq_false, if_false]
  rw [if_neg h, if_neg hw, if_neg hm, if_pos he]
theorem line_full {st : PS} {l : List UInt8} (h : ¬ (wordsL l = [] ∨ ((wordsL l).getD 0 []).head? = some 35)) (hb : st.bg = true) (hw : wordsL l ≠ [threadW]) (hm : st.rows ≠ []) (he : (instrL l).e = 0) (hf : 80 ≤ (lastL st.rows).length) : lineS st l = (st, 4) := by
  unfold lineS
  simp only [hb, Bool.true_eq_false, if_false]
  rw [if_neg h, if_neg hw, if_neg hm, if_neg (fun e => e he), if_pos hf]
theorem line_put {st : PS} {l : List UInt8} (h : ¬ (wordsL l = [] ∨ ((wordsL l).getD 0 []).head? = some 35)) (hb : st.bg = true) (hw : wordsL l ≠ [threadW]) (hm : st.rows ≠ []) (he : (instrL l).e = 0) (hf : ¬ 80 ≤ (lastL st.rows).length) : lineS st l = (⟨st.r, st.c, st.s, st.bg, putLast st.rows [(instrL l).z, (instrL l).a, (instrL l).b, (instrL l).c, (instrL l).n]⟩, 0) := by
  unfold lineS
  simp only [hb, Bool.true_eq_false, if_false]
  rw [if_neg h, if_neg hw, if_neg hm, if_neg (fun e => e he), if_neg hf]
theorem seg_frozen_at {w : World} {B g o n cap size : Nat} {e : TypeId} {xs : List Value} (h : Seg w B e size (.slice (some ⟨g, o, none⟩) n cap) n xs) {i : Nat} (hi : i < n * size) : w.frozen? ⟨g, o + i, none⟩ = false := by
  rcases h.2 with ⟨h1, _⟩ | ⟨g', o', cap', cur, h1, hB, hg, hn, hm, hs, hx⟩
  · cases h1
  · cases h1
    have hle : n * size ≤ cap * size := Nat.mul_le_mul_right _ hn
    exact hg.frozen _ (by omega)
theorem info_instr : (Tryd.prog.info? 25).map (fun i => (i.zero, i.size, i.bytes)) = some (some (.agg #[.int .i64 0, .int .i64 0, .int .i64 0, .int .i64 0, .int .i64 0]), 5, 40) := by kernel_rfl
theorem callW_append_seg {P : Program} {w : World} {o : Oper} {a : Act} {K : Value → World → Prop} (s x : Operand) (t : TypeId)
    (ho : o.op = .call { callee := .builtin .append, args := #[s, x], argTypes := #[t, t] })
    (B : Nat) (e : TypeId) (i : TypeInfo) (z : Value) (size bytes : Nat) (ht : P.underlying t = some (.slice e)) (hi : P.info? e = some i) (hz : i.zero = some z)
    (hsize : i.size = size) (hby : i.bytes = bytes) (hzs : z.cells.size = size) (hsz : 0 < size)
    (v : Value) (n : Nat) (xs : List Value) (hs : a.eval s = v) (hown : Seg w B e size v n xs)
    (ad : Addr) (m c : Nat) (news : List Value) (hx : a.eval x = .slice (some ad) m c) (hl : news.length = m * size) (hnews : ∀ j u, news[j]? = some u → w.cell? (ad.add j) = some u) (h1 : ∀ u ∈ news, u.oneCell' = true)
    (h63 : n + m ≤ maxLen) (hbytes : (n + m) * bytes ≤ 140737488355328) (hbase : B ≤ w.heap.size)
    (h : ∀ v' w', Seg w' B e size v' (n + m) (xs ++ news) → w.grownBy w' v.ownBlock → (∀ g, v'.ownBlock = some g → v.ownBlock = some g ∨ w.heap.size ≤ g) → K v' w') : callW P o a w K := by
  obtain ⟨v', w', hr, h2, h3, h4⟩ := run_append_seg (P := P) B t o.type e i z size bytes ht hi hz hsize hby hzs hsz v n xs hown ad m c news hl hnews h1 h63 hbytes hbase
  unfold callW execOp
  simp only [ho, resolve, invoke, builtin, Sem.run_bind, Sem.run_pure, Result.andThen_ok, List.map_toArray, List.map_cons, List.map_nil, hs, hx, hr]
  exact h _ _ h2 h3 h4
theorem line_state {st : PS} {l : List UInt8} (h : ¬ (wordsL l = [] ∨ ((wordsL l).getD 0 []).head? = some 35)) (hb : st.bg = true) (hw : wordsL l ≠ [threadW]) (hm : st.rows = []) : lineS st l = (st, 5) := by
  unfold lineS
  simp only [hb, Bool.true_eq_false, if_false]
  rw [if_neg h, if_neg hw, if_pos hm]

set_option maxRecDepth 100000 in
set_option maxHeartbeats 8000000 in
theorem line_is (B b : Nat) (st : PS) (l : List UInt8) (hl : l.length ≤ 100000) (w wt : World) (hB : B ≤ w.heap.size) (hT : Door.Tabs wt) (hkt : Kept (From B) wt w) (hbt : wt.heap.size ≤ B) (hm4 : st.rows.length ≤ 4) (v : Value) (hds : List Value) (h : RdrMem w B b st v hds) :
    Calls Tryd.prog 31 #[.pointer (some ⟨b, 0, none⟩), .string ⟨l.toArray⟩] w (LinePost B b v hds w (lineS st l)) := by
  have hw := words_is l hl w
  obtain ⟨sl, hsl⟩ : ∃ x : ByteArray, (⟨l.toArray⟩ : ByteArray) = x := ⟨_, rfl⟩
  have hins := fun w hT => asminstr_is l hl w hT
  rw [hsl] at hw hins ⊢
  have HW := Lib.hid hw
  have HI := Lib.hid hins
  have HR := Lib.hid h
  have hblt : b < w.heap.size := h.box.lt
  have hk0 : Kept No wt w := hkt.mono (fun k hk h => by have : B ≤ k := h; omega)
  have HT := Lib.hid (fun w' (hk : Kept No w w') => hT.kept (hk0.trans hk (fun _ _ f => f)))
  have HTT := Lib.hid hT
  clear hw hins hsl h hT
  go_enter Tryd.func31, Tryd.ntmps31
  go_wp2_with fail
  refine HW.out.mono ?_
  rintro e w1 ⟨k1, v1, rfl, s1⟩
  have h1 := HR.out.kept k1
  have hsz1 := k1.size
  obtain ⟨n, ao, cap, hv, hnc, hcm⟩ : ∃ n ao cap, v = .slice ao n cap ∧ n ≤ cap ∧ cap ≤ maxLen := by
    obtain ⟨_, ao, cap, hv, h1, h2, _⟩ := h1.code.rd
    exact ⟨_, ao, cap, hv, h1, h2⟩
  subst hv
  have hnl : n = st.rows.length := by
    have h2 := h1.code.rd
    obtain ⟨_, ao', cap', hv, _⟩ := h2
    cases hv
    rw [h1.len]
  unfold maxLen at hcm
  have hn1 : n ≤ 4 := by omega
  have d3 : w1.cell? ⟨b, 3, none⟩ = some (.slice ao n cap) := h1.box.cell 3
  have d4 : w1.cell? ⟨b, 4, none⟩ = some (.bool st.bg) := h1.box.cell 4
  have H1 := Lib.hid h1
  have HNL := Lib.hid hnl
  have HK1 := Lib.hid k1
  have HS1 := Lib.hid s1
  clear h1 hnl k1 s1 HW HR
  have hrd := HS1.out.rd
  have hvo := fun g (hg : v1.ownBlock = some g) => (HS1.out.lt g hg).1
  cases hws : wordsL l with
  | nil =>
    have HE : Hid (lineS st l = (st, 0)) := Lib.hid (by simp [lineS, hws])
    obtain ⟨_, ao2, cap2, rfl, _, _, _, _⟩ := hrd
    rw [hws] at *
    clear hws hvo
    simp only [List.length_nil]
    go_wp2_with fail
    go_ret
    exact ⟨by rw [HE.out]; rfl, HK1.out.mono (fun _ _ f => f.elim), fun _ => by rw [HE.out]; exact ⟨_, _, H1.out, fun q _ hq => hq⟩⟩
  | cons wd ws =>
    have hrd2 := hrd
    obtain ⟨_, ao2, cap2, rfl, hc2, hm2, _, hR2⟩ := hrd2
    unfold maxLen at hm2
    rw [hws] at hc2 hR2 hrd ⊢
    obtain ⟨g, o, rfl, hg, hcell⟩ := hR2 (by simp)
    have c0 : w1.cell? ⟨g, o, none⟩ = some (.string ⟨wd.toArray⟩) := hcell 0 _ rfl
    have hwne : wd ≠ [] := words_ne (l := l) (by rw [hws]; exact List.mem_cons_self ..)
    obtain ⟨sd, hsd⟩ : ∃ x : ByteArray, (⟨wd.toArray⟩ : ByteArray) = x := ⟨_, rfl⟩
    have hsz : 0 < sd.size := by rw [← hsd]; simpa [ByteArray.size] using List.length_pos_iff.2 hwne
    have hch : wd.head? = some (sd[0]'hsz) := by
      subst hsd
      cases wd with
      | nil => exact absurd rfl hwne
      | cons x r => rfl
    rw [hsd] at c0
    have hgB : w.heap.size ≤ g := hvo g rfl
    have HRD := Lib.hid hrd
    have HWS := Lib.hid hws
    have HSD := Lib.hid (toList_mk3 hsd)
    clear hcell hR2 hrd hvo hws hsd
    have hln : (wd :: ws).length = ws.length + 1 := rfl
    rw [hln] at hc2 HRD ⊢
    by_cases h35 : sd[0]'hsz = 35
    · have HE : Hid (lineS st l = (st, 0)) := Lib.hid (by simp [lineS, HWS.out, hch, h35])
      have hq : (((sd[0]'hsz).toNat : Int) == 35) = true := by rw [h35]; rfl
      clear hch h35
      go_wp2_with fail
      go_ret
      exact ⟨by rw [HE.out]; rfl, HK1.out.mono (fun _ _ f => f.elim), fun _ => by rw [HE.out]; exact ⟨_, _, H1.out, fun q _ hq => hq⟩⟩
    · have hq : (((sd[0]'hsz).toNat : Int) == 35) = false := by
        rw [beq_eq_false_iff_ne]; intro e; exact h35 (UInt8.toNat_inj.1 (Int.ofNat.inj e))
      have hfst : Hid (¬ (wordsL l = [] ∨ ((wordsL l).getD 0 []).head? = some 35)) := Lib.hid (by
        rw [HWS.out]
        intro e
        rcases e with e | e
        · cases e
        · rw [show (wd :: ws).getD 0 [] = wd from rfl, hch] at e
          exact h35 (Option.some.inj e))
      clear hch h35
      obtain ⟨bg, hbg⟩ : ∃ x, st.bg = x := ⟨_, rfl⟩
      rw [hbg] at d4
      have HBG := Lib.hid hbg
      clear hbg
      cases bg with
      | false =>
        have hsm : ∀ x ∈ wd :: ws, x.length ≤ 1000000 := fun x hx => by
          have := words_le (l := l) (p := x) (by rw [HWS.out]; exact hx)
          omega
        have hhd := head_is b st.r st.c st.s (.slice ao n cap) st.bg (.slice (some ⟨g, o, none⟩) (ws.length + 1) cap2) (wd :: ws) w1 H1.out.box HRD.out (fun g' hg' e => by
          have h2 : g = g' := Option.some.inj hg'
          have := H1.out.base
          omega) hsm wt HTT.out (hk0.trans HK1.out (fun _ _ f => f)) (Nat.le_trans hbt H1.out.base)
        have HHD := Lib.hid hhd
        clear hhd hsm
        go_wp2_with fail
        refine HHD.out.mono ?_
        rintro e w2 ⟨kb, hor⟩
        have hkf : Kept (RdrB b (.slice ao n cap) hds) w w2 := (HK1.out.mono (fun _ _ f => f.elim)).trans kb (fun q _ e => .inl e)
        rcases hor with ⟨hno, rfl⟩ | ⟨hyes, rfl, hb2⟩
        · have HE : Hid (lineS st l = (st, 1)) := Lib.hid (line_no hfst.out HBG.out (by rw [HWS.out]; exact hno))
          clear hno kb d3 d4 c0
          go_wp2_with fail
          go_ret
          exact ⟨by rw [HE.out]; rfl, hkf, fun h => by rw [HE.out] at h; cases h⟩
        · have HE : Hid (lineS st l = (⟨hdV (wd :: ws) 0, hdV (wd :: ws) 1, hdV (wd :: ws) 2, true, st.rows⟩, 0)) := Lib.hid (by have := line_head hfst.out HBG.out (by rw [HWS.out]; exact hyes); rw [HWS.out] at this; exact this)
          have HM := Lib.hid (H1.out.head kb hb2)
          clear hyes kb hb2 d3 d4 c0
          go_wp2_with fail
          go_ret
          exact ⟨by rw [HE.out]; rfl, hkf, fun _ => by rw [HE.out]; exact ⟨_, _, HM.out, fun q _ hq => hq⟩⟩
      | true =>
        by_cases hth : wd :: ws = [threadW]
        · obtain ⟨rfl, rfl⟩ := List.cons.inj hth
          simp only [List.length_nil, Nat.zero_add] at *
          have hq2 : (sd.toList == [116, 104, 114, 101, 97, 100]) = true := by rw [HSD.out]; rfl
          by_cases hm : 4 ≤ n
          · have HE : Hid (lineS st l = (st, 4)) := Lib.hid (line_many hfst.out HBG.out HWS.out (by rw [← HNL.out]; exact hm))
            clear hth
            go_wp2_with fail
            go_ret
            exact ⟨by rw [HE.out]; rfl, HK1.out.mono (fun _ _ f => f.elim), fun h => by rw [HE.out] at h; cases h⟩
          · have HE : Hid (lineS st l = (⟨st.r, st.c, st.s, st.bg, st.rows ++ [[]]⟩, 0)) := Lib.hid (line_thread hfst.out HBG.out HWS.out (by rw [← HNL.out]; exact hm))
            obtain ⟨i0, hi, hz0, hz1, hz2⟩ := info_parts info_thread
            have hB1 : B ≤ w1.heap.size := Nat.le_trans hB hsz1
            have hcode := H1.out.code
            have hl1 : hds.length ≤ 4 := by rw [H1.out.len]; exact hm4
            have f3 : w1.frozen? ⟨b, 3, none⟩ = false := H1.out.box.frozen 3
            have hseg2 := (hcode.kept (((Kept.refl No w1).alloc (.cells #[] 25)).alloc (.cells #[.slice (some ⟨w1.heap.size, 0, none⟩) 0 0] 52)) (fun _ _ f => f.elim))
            have HSG := Lib.hid hseg2
            have hone := cell_one (w1.alloc (.cells #[] 25)) (.slice (some ⟨w1.heap.size, 0, none⟩) 0 0) 52
            rw [World.size_alloc] at hone
            have HONE := Lib.hid hone
            clear hone
            clear hth hcode hseg2
            go_upto_region 10 with fail
            go_wp2_with (at_builtin; refine wpList_append_seg rfl _ _ 30 rfl B 52 i0 (.slice none 0 0) 1 24 Tryd.underlying30 hi hz0 hz1 hz2 rfl (by decide) _ _ _ rfl HSG.out ⟨w1.heap.size + 1, 0, none⟩ 1 1 [.slice (some ⟨w1.heap.size, 0, none⟩) 0 0] rfl rfl HONE.out (fun u hu => by simp at hu; subst hu; rfl) (by unfold maxLen; omega) (by omega) (by simp; omega) ?_)
            intro v3 w3 hs3 hg3 hb3
            have HM := Lib.hid (H1.out.thread hB1 hs3 hg3 (fun g hg => (hb3 g hg).imp id (fun h => by rw [World.size_alloc, World.size_alloc]; exact h)))
            have k3 : Kept (fun q => (Value.slice ao n cap).ownBlock = some q) w1 w3 := (((Kept.refl _ w1).alloc (.cells #[] 25)).alloc (.cells #[.slice (some ⟨w1.heap.size, 0, none⟩) 0 0] 52)).grown hg3 (fun q hq hr => hr)
            have hb3x := H1.out.box.kept k3 H1.out.vb
            have e3 : w3.cell? ⟨b, 3, none⟩ = some (.slice ao n cap) := hb3x.cell 3
            have g3 : w3.frozen? ⟨b, 3, none⟩ = false := hb3x.frozen 3
            have hkf : Hid (Kept (RdrB b (.slice ao n cap) hds) w (w3.setCell ⟨b, 3, none⟩ v3)) := Lib.hid (((HK1.out.mono (fun _ _ f => f.elim)).trans k3 (fun q _ e => .inr (.inl e))).setCell (p := ⟨b, 3, none⟩) (fun _ => .inl rfl) v3)
            have HOLD : Hid (∀ q, q < w.heap.size → RdrB b v3 (hds ++ [.slice (some ⟨w1.heap.size, 0, none⟩) 0 0]) q → RdrB b (.slice ao n cap) hds q) := Lib.hid (fun q hq h => by
              rcases h with h | h | ⟨hd, hm, h⟩
              · exact .inl h
              · rcases hb3 q h with h2 | h2
                · exact .inr (.inl h2)
                · omega
              · rcases List.mem_append.1 hm with hm | hm
                · exact .inr (.inr ⟨hd, hm, h⟩)
                · rw [List.mem_singleton] at hm
                  subst hm
                  have h3 : w1.heap.size = q := Option.some.inj h
                  omega)
            obtain ⟨A3, C3, hv3⟩ : ∃ A3 C3, v3 = .slice A3 (hds.length + 1) C3 := by
              obtain ⟨_, h2 | ⟨g, o, c, cur, h2, _⟩⟩ := hs3
              · omega
              · exact ⟨_, _, h2⟩
            subst hv3
            clear hs3 hg3 hb3 k3 hb3x d3 d4 f3
            go_wp2_with fail
            go_ret
            exact ⟨by rw [HE.out]; rfl, hkf.out, fun _ => by rw [HE.out]; exact ⟨_, _, HM.out, HOLD.out⟩⟩
        · have hcase : (ws = [] ∧ (sd.toList == [116, 104, 114, 101, 97, 100]) = false) ∨ (((ws.length : Int) + 1) == 1) = false := by
            cases ws with
            | nil =>
              left
              refine ⟨rfl, ?_⟩
              rw [HSD.out]
              rw [beq_eq_false_iff_ne]
              intro e
              exact hth (by rw [e]; rfl)
            | cons a r => right; rw [beq_eq_false_iff_ne]; simp; omega
          have HTH : Hid (wordsL l ≠ [threadW]) := Lib.hid (by rw [HWS.out]; exact hth)
          clear hth
          by_cases hn0 : n = 0
          · have HE : Hid (lineS st l = (st, 5)) := Lib.hid (line_state hfst.out HBG.out HTH.out (List.eq_nil_of_length_eq_zero (by rw [← HNL.out]; exact hn0)))
            subst hn0
            rcases hcase with ⟨rfl, hq2⟩ | hq2
            all_goals
              try simp only [List.length_nil, Nat.zero_add] at *
              go_wp2_with fail
              go_ret
              exact ⟨by rw [HE.out]; rfl, HK1.out.mono (fun _ _ f => f.elim), fun h => by rw [HE.out] at h; cases h⟩
          · have hn01 : 1 ≤ n := by omega
            have hrne : st.rows ≠ [] := fun e => by have := HNL.out; rw [e] at this; exact hn0 this
            have HRN := Lib.hid hrne
            clear hn0 hrne
            obtain ⟨p, rfl⟩ : ∃ p, n = p + 1 := ⟨n - 1, by omega⟩
            rcases hcase with ⟨rfl, hq2⟩ | hq2
            all_goals
              try simp only [List.length_nil, Nat.zero_add] at *
              go_wp2_with fail
              refine (HI.out w1 (HT.out _ HK1.out)).mono ?_
              rintro e w2 ⟨rfl, k2⟩
              have H2 := Lib.hid (H1.out.kept k2)
              have hk2 := HK1.out.trans k2 (fun _ _ f => f)
              clear d3 d4 c0 k2
              unfold insV insC
              by_cases he : (instrL l).e = 0
              · have hpl : p + 1 = hds.length := by rw [H2.out.len]; exact HNL.out
                obtain ⟨-, ao9, cap9, hv9, -, -, -, hc9⟩ := H2.out.code.rd
                rw [Value.slice.injEq] at hv9
                obtain ⟨rfl, -, rfl⟩ := hv9
                obtain ⟨gc, oc, rfl, hgc, hcc⟩ := hc9 (by omega)
                obtain ⟨hd, hhd⟩ : ∃ hd, hds[p]? = some hd := ⟨_, List.getElem?_eq_getElem (by omega)⟩
                obtain ⟨xs, hxs⟩ : ∃ xs, st.rows[p]? = some xs := ⟨_, List.getElem?_eq_getElem (by have := HNL.out; omega)⟩
                obtain ⟨m, hsg⟩ := H2.out.row p hd xs hhd hxs
                have hlast : lastL st.rows = xs := by
                  rw [lastL, List.getLastD_eq_getLast?, List.getLast?_eq_getElem?, show st.rows.length - 1 = p by have := HNL.out; omega, hxs]; rfl
                have hxl := hsg.len
                rw [vals_len] at hxl
                obtain ⟨-, A, C, rfl, hmC, hCm, -, -⟩ := hsg.rd
                unfold maxLen at hCm
                have hch := hcc p _ hhd
                have heb : ((instrL l).e != 0) = false := by rw [he]; rfl
                have e3 : (w2.alloc (.cells (insC (instrL l).z (instrL l).a (instrL l).b (instrL l).c (instrL l).n) 25)).cell? ⟨b, 3, none⟩ = some (.slice (some ⟨gc, oc, none⟩) (p + 1) cap) := (H2.out.box.alloc _).cell 3
                have ec : (w2.alloc (.cells (insC (instrL l).z (instrL l).a (instrL l).b (instrL l).c (instrL l).n) 25)).cell? ⟨gc, oc + p, none⟩ = some (.slice A m C) := (((Kept.refl No w2).alloc _).cell (p := ⟨gc, oc + p, none⟩) hgc id).trans hch
                by_cases hfull : 16 ≤ m
                · have HE : Hid (lineS st l = (st, 4)) := Lib.hid (line_full hfst.out HBG.out HTH.out HRN.out he (by rw [hlast]; omega))
                  clear he hlast hhd hxs hcc hch hsg hxl hpl
                  unfold insC at e3 ec
                  have hkf := hk2.alloc (.cells (insC (instrL l).z (instrL l).a (instrL l).b (instrL l).c (instrL l).n) 25)
                  unfold insC at hkf
                  have HKF := Lib.hid hkf
                  have hm16 : decide ((16 : Int) ≤ m) = true := decide_eq_true (by omega)
                  clear hkf hmC hCm hfull hnc hcm
                  generalize instrL l = x at *
                  go_wp2_with fail
                  go_ret
                  exact ⟨by rw [HE.out]; rfl, HKF.out.mono (fun _ _ f => f.elim), fun h => by rw [HE.out] at h; cases h⟩
                · have HE : Hid (lineS st l = (⟨st.r, st.c, st.s, st.bg, putLast st.rows [(instrL l).z, (instrL l).a, (instrL l).b, (instrL l).c, (instrL l).n]⟩, 0)) := Lib.hid (line_put hfst.out HBG.out HTH.out HRN.out he (by rw [hlast]; omega))
                  have hm16 : decide ((16 : Int) ≤ m) = false := decide_eq_false (by omega)
                  have HSG := Lib.hid hsg
                  have HHD := Lib.hid hhd
                  have HXS := Lib.hid hxs
                  have HPL := Lib.hid hpl
                  have HM15 : Hid (m < 16) := Lib.hid (by omega)
                  have HK2 := Lib.hid hk2
                  clear he hlast hhd hxs hcc hch hsg hxl hpl hmC hCm hfull hnc hcm hk2
                  generalize instrL l = x at *
                  obtain ⟨z0, z1, z2, z3, z4, xe⟩ := x
                  unfold insC at e3 ec
                  simp only at e3 ec HE heb
                  go_upto_region 19 with fail
                  have hrow5 : Hid (insC z0 z1 z2 z3 z4 = #[.int .i64 z0, .int .i64 z1, .int .i64 z2, .int .i64 z3, .int .i64 z4]) := Lib.hid rfl
                  have KA : Kept No w2 (w2.alloc (.cells #[.int .i64 z0, .int .i64 z1, .int .i64 z2, .int .i64 z3, .int .i64 z4] 25)) := (Kept.refl _ _).alloc _
                  have BX : Box (w2.alloc (.cells #[.int .i64 z0, .int .i64 z1, .int .i64 z2, .int .i64 z3, .int .i64 z4] 25)) w2.heap.size #[.int .i64 z0, .int .i64 z1, .int .i64 z2, .int .i64 z3, .int .i64 z4] 25 := Box.new _ _ _
                  have hsz3 : (w2.alloc (.cells #[.int .i64 z0, .int .i64 z1, .int .i64 z2, .int .i64 z3, .int .i64 z4] 25)).heap.size = w2.heap.size + 1 := World.size_alloc _ _
                  generalize w2.alloc (.cells #[.int .i64 z0, .int .i64 z1, .int .i64 z2, .int .i64 z3, .int .i64 z4] 25) = w3 at *
                  have hbl2 : b < w2.heap.size := H2.out.box.lt
                  have hAb := H2.out.hb _ (List.mem_of_getElem? HHD.out)
                  have hAl := fun q (hq : (Value.slice A m C).ownBlock = some q) => (HSG.out.lt q hq).2
                  have f3 : w3.frozen? ⟨gc, oc + p, none⟩ = false := seg_frozen_at (n := p + 1) (size := 1) (by have h9 := H2.out.code.kept KA (fun _ _ f => f); rw [← HPL.out] at h9; exact h9) (by omega)
                  have N1 : ¬ (Value.slice A m C).ownBlock = some b := hAb.1
                  have N2 : ¬ (Value.slice A m C).ownBlock = some gc := fun e => hAb.2 gc e rfl
                  have N3 : ¬ (Value.slice A m C).ownBlock = some w2.heap.size := fun e => by have := hAl _ e; omega
                  have A0 : ∀ q : KS (fun q => (Value.slice A m C).ownBlock = some q) w3.drew, q.w.cell? ⟨b, 3, none⟩ = some (.slice (some ⟨gc, oc, none⟩) (p + 1) cap) := KS.old (w := w3.drew) e3 (show b < w3.heap.size by omega) N1
                  have A1 : ∀ q : KS (fun q => (Value.slice A m C).ownBlock = some q) w3.drew, q.w.cell? ⟨gc, oc + p, none⟩ = some (.slice A m C) := KS.old (w := w3.drew) ec (show gc < w3.heap.size by omega) N2
                  have X0 : ∀ q : KS (fun q => (Value.slice A m C).ownBlock = some q) w3.drew, q.w.cell? ⟨w2.heap.size, 0, none⟩ = some (.int .i64 z0) := KS.old (w := w3.drew) (BX.cell 0) BX.lt N3
                  have X1 : ∀ q : KS (fun q => (Value.slice A m C).ownBlock = some q) w3.drew, q.w.cell? ⟨w2.heap.size, 1, none⟩ = some (.int .i64 z1) := KS.old (w := w3.drew) (BX.cell 1) BX.lt N3
                  have X2 : ∀ q : KS (fun q => (Value.slice A m C).ownBlock = some q) w3.drew, q.w.cell? ⟨w2.heap.size, 2, none⟩ = some (.int .i64 z2) := KS.old (w := w3.drew) (BX.cell 2) BX.lt N3
                  have X3 : ∀ q : KS (fun q => (Value.slice A m C).ownBlock = some q) w3.drew, q.w.cell? ⟨w2.heap.size, 3, none⟩ = some (.int .i64 z3) := KS.old (w := w3.drew) (BX.cell 3) BX.lt N3
                  have X4 : ∀ q : KS (fun q => (Value.slice A m C).ownBlock = some q) w3.drew, q.w.cell? ⟨w2.heap.size, 4, none⟩ = some (.int .i64 z4) := KS.old (w := w3.drew) (BX.cell 4) BX.lt N3
                  refine wp_region_dynS_tail (fun q => (Value.slice A m C).ownBlock = some q) ([0] ++ 1 :: ([2, 3, 4, 5, 6] ++ 7 :: ([8, 9, 10, 11, 12, 13, 14] ++ 15 :: 16 :: ([17] ++ [])))) 18 (by kernel_rfl) (by kernel_rfl) (by kernel_rfl) ?_
                  refine dynS_reads _ _ (by kernel_rfl) ?_
                  simp only [sel, List.filterMap_cons, List.filterMap_nil, List.getElem?_cons_succ, List.getElem?_cons_zero]
                  repeat (show wpQuiet _ _ _ _ (_ :: _) _; go_big_quiet_step (fail))
                  refine wpQuiet_nil ?_
                  refine dynS_ptr _ ⟨b, 0, none⟩ rfl rfl rfl rfl ?_
                  simp only [Act.put, List.setIfInBounds_toArray, List.set]
                  refine dynS_reads _ _ (by kernel_rfl) ?_
                  simp only [sel, List.filterMap_cons, List.filterMap_nil, List.getElem?_cons_succ, List.getElem?_cons_zero]
                  repeat (show wpQuiet _ _ _ _ (_ :: _) _; go_big_quiet_step (fail))
                  refine wpQuiet_nil ?_
                  refine dynS_ptr _ ⟨b, 0, none⟩ rfl rfl rfl rfl ?_
                  simp only [Act.put, List.setIfInBounds_toArray, List.set]
                  refine dynS_reads _ _ (by kernel_rfl) ?_
                  simp only [sel, List.filterMap_cons, List.filterMap_nil, List.getElem?_cons_succ, List.getElem?_cons_zero]
                  repeat (show wpQuiet _ _ _ _ (_ :: _) _; go_big_quiet_step (fail))
                  refine wpQuiet_nil ?_
                  refine dynS_act rfl rfl rfl ?_
                  unfold callW
                  go_simp
                  have HS2 : Seg (w3.alloc (.cells #[.int .i64 z0, .int .i64 z1, .int .i64 z2, .int .i64 z3, .int .i64 z4] 25)).drew B 25 5 (.slice A m C) m (vals xs) := HSG.out.kept (KA.drew.alloc (.cells #[.int .i64 z0, .int .i64 z1, .int .i64 z2, .int .i64 z3, .int .i64 z4] 25)) (fun _ _ f => f)
                  have HN : ∀ (j : Nat) (u : Value), [Value.int .i64 z0, .int .i64 z1, .int .i64 z2, .int .i64 z3, .int .i64 z4][j]? = some u → (w3.alloc (.cells #[.int .i64 z0, .int .i64 z1, .int .i64 z2, .int .i64 z3, .int .i64 z4] 25)).drew.cell? ((⟨w3.heap.size, 0, none⟩ : Addr).add j) = some u := cells_new w3.drew #[.int .i64 z0, .int .i64 z1, .int .i64 z2, .int .i64 z3, .int .i64 z4] 25
                  rw [hsz3] at HN
                  have KB : Kept (fun q => (Value.slice A m C).ownBlock = some q) w2 (w3.alloc (.cells #[.int .i64 z0, .int .i64 z1, .int .i64 z2, .int .i64 z3, .int .i64 z4] 25)).drew := (KA.alloc _).drew.mono (fun _ _ f => f.elim)
                  have hszB : w2.heap.size ≤ (w3.alloc (.cells #[.int .i64 z0, .int .i64 z1, .int .i64 z2, .int .i64 z3, .int .i64 z4] 25)).drew.heap.size := KB.size
                  have hBs : B ≤ (w3.alloc (.cells #[.int .i64 z0, .int .i64 z1, .int .i64 z2, .int .i64 z3, .int .i64 z4] 25)).drew.heap.size := by have := H2.out.base; omega
                  refine ⟨(Kept.refl _ _).alloc _, ?_⟩
                  clear A0 A1 X0 X1 X2 X3 X4
                  obtain ⟨i0, hi, hz0, hz1, hz2⟩ := info_parts info_instr
                  refine dynS_act rfl rfl rfl ?_
                  refine callW_append_seg _ _ _ rfl B 25 i0 _ 5 40 Tryd.underlying52 hi hz0 hz1 hz2 rfl (by decide) _ _ _ rfl HS2 _ _ _ [.int .i64 z0, .int .i64 z1, .int .i64 z2, .int .i64 z3, .int .i64 z4] rfl rfl HN (by intro u hu; simp only [List.mem_cons, List.not_mem_nil, or_false] at hu; rcases hu with rfl | rfl | rfl | rfl | rfl <;> rfl) (by have := HM15.out; unfold maxLen; omega) (by have := HM15.out; omega) hBs ?_
                  intro v' w4 hs4 hg4 hb4
                  have K4 : Kept (fun q => (Value.slice A m C).ownBlock = some q) w2 w4 := KB.grown hg4 (fun q _ h => h)
                  have hb4' : ∀ q, v'.ownBlock = some q → (Value.slice A m C).ownBlock = some q ∨ w2.heap.size ≤ q := fun q hq => (hb4 q hq).imp id (fun h => Nat.le_trans hszB h)
                  refine ⟨(Kept.refl _ _).grown hg4 (fun q _ h => h), ?_⟩
                  simp only [Act.put, List.setIfInBounds_toArray, List.set]
                  have HM := Lib.hid (H2.out.put HPL.out (by have := HPL.out; omega) HHD.out HXS.out K4 (m := m + 1) (v' := v') (five := [z0, z1, z2, z3, z4]) (by rw [vals_app]; exact hs4) hb4')
                  have HKF : Hid (Kept (RdrB b (.slice (some ⟨gc, oc, none⟩) (p + 1) cap) hds) w (w4.setCell ⟨gc, oc + p, none⟩ v')) := Lib.hid (((HK2.out.mono (fun _ _ f => f.elim)).trans K4 (fun q _ e => .inr (.inr ⟨_, List.mem_of_getElem? HHD.out, e⟩))).setCell (p := ⟨gc, oc + p, none⟩) (fun _ => .inr (.inl rfl)) v')
                  have HOLD : Hid (∀ q, q < w.heap.size → RdrB b (.slice (some ⟨gc, oc, none⟩) (p + 1) cap) (hds.set p v') q → RdrB b (.slice (some ⟨gc, oc, none⟩) (p + 1) cap) hds q) := Lib.hid (fun q hq h => by
                    rcases h with h | h | ⟨hd, hm, h⟩
                    · exact .inl h
                    · exact .inr (.inl h)
                    · rcases List.mem_or_eq_of_mem_set hm with hm | rfl
                      · exact .inr (.inr ⟨hd, hm, h⟩)
                      · rcases hb4' q h with h2 | h2
                        · exact .inr (.inr ⟨_, List.mem_of_getElem? HHD.out, h2⟩)
                        · have := HK2.out.size
                          omega)
                  have e5 : w4.cell? ⟨gc, oc + p, none⟩ = some (.slice A m C) := (K4.cell (p := ⟨gc, oc + p, none⟩) hgc N2).trans ((KA.cell (p := ⟨gc, oc + p, none⟩) hgc id).symm.trans ec)
                  have f5 : w4.frozen? ⟨gc, oc + p, none⟩ = false := (K4.frozen (p := ⟨gc, oc + p, none⟩) hgc N2).trans ((KA.frozen (p := ⟨gc, oc + p, none⟩) hgc id).symm.trans f3)
                  obtain ⟨A4, C4, hv4⟩ : ∃ A4 C4, v' = .slice A4 (m + 1) C4 := by
                    obtain ⟨_, h2 | ⟨g, o, c, cur, h2, _⟩⟩ := hs4
                    · omega
                    · exact ⟨_, _, h2⟩
                  subst hv4
                  clear hs4 hg4 hb4 K4 hb4' KB KA BX HS2 HN e3 ec f3 hi hz0 hz1 hz2 hBs hszB
                  refine dynS_reads (rest := []) [17] _ (by kernel_rfl) ?_
                  simp only [sel, List.filterMap_cons, List.filterMap_nil, List.getElem?_cons_succ, List.getElem?_cons_zero]
                  repeat (show wpQuiet _ _ _ _ (_ :: _) _; go_big_quiet_step (fail))
                  refine wpQuiet_nil ?_
                  refine dynS_nil ?_
                  go_wp2_with fail
                  go_ret
                  exact ⟨by rw [HE.out]; rfl, HKF.out, fun _ => by rw [HE.out]; exact ⟨_, _, HM.out, HOLD.out⟩⟩
              · have HE : Hid (lineS st l = (st, (instrL l).e)) := Lib.hid (line_bad hfst.out HBG.out HTH.out HRN.out he)
                have hne : Hid ((instrL l).e ≠ 0) := Lib.hid he
                have heb : ((instrL l).e != 0) = true := by simp [he]
                clear he
                generalize instrL l = x at *
                go_wp2_with fail
                go_ret
                exact ⟨by rw [HE.out]; rfl, (hk2.alloc _).mono (fun _ _ f => f.elim), fun h => by rw [HE.out] at h; exact absurd h hne.out⟩
end Go.Proofs.YtjpddfnkamahfaaDoor.Line
