/-
  AsmNotes answers true, whatever the program and the notes are. Condition: the seven variables that the row lists lie as their initialisers lay them.
-/
import Derived.Test.YtjpddfnkamahfaaDoorAsmB13
import Derived.Test.YtjpddfnkamahfaaDoorFew12
import Derived.Test.YtjpddfnkamahfaaDoorRc12
import Derived.Test.YtjpddfnkamahfaaDoorOpenRows
import Derived.Test.YtjpddfnkamahfaaDoorOpen
import Derived.BigQuiet
import Derived.Lay
import Derived.MakeChecks
import Derived.Test.YtjpddfnkamahfaaDoorDoor
import Derived.Test.YtjpddfnkamahfaaDoorOpen
import Derived.Test.YtjpddfnkamahfaaDoorCards
import Derived.Test.YtjpddfnkamahfaaDoorTie
set_option linter.unusedVariables false
namespace Go.Proofs.YtjpddfnkamahfaaDoor.asmNotes
open Go.RowKit Go.Sort Go.Proofs.YtjpddfnkamahfaaDoor.Own Go.Proofs.YtjpddfnkamahfaaDoor.Conv Go.Proofs.YtjpddfnkamahfaaDoor.Line Go.Proofs.YtjpddfnkamahfaaDoor.Calm Go.Proofs.YtjpddfnkamahfaaDoor.Open

/-! ### the text with notes, in plain terms -/
def pre1 (k : Nat) : List UInt8 := if k % 4 = 1 then [35, 32, 104, 97, 108, 116, 10] else []
def pre2 (k : Nat) : List UInt8 := if k % 4 = 2 then [32, 32, 32, 10] else []
def pre3 (k : Nat) : List UInt8 := if k % 3 = 1 then [32, 32] else []
def noteT (f : Nat → Nat) (ls : List (List UInt8)) : Nat → List UInt8
  | 0 => []
  | i + 1 => noteT f ls i ++ (pre1 (f i) ++ (pre2 (f i) ++ (pre3 (f i) ++ (ls.getD i [] ++ [32, 10]))))
def noteL (f : Nat → Nat) (ls : List (List UInt8)) : Nat → List (List UInt8)
  | 0 => []
  | i + 1 => noteL f ls i ++ ((if f i % 4 = 1 then [[35, 32, 104, 97, 108, 116]] else []) ++ ((if f i % 4 = 2 then [[32, 32, 32]] else []) ++ [pre3 (f i) ++ (ls.getD i [] ++ [32])]))
theorem note_len {f : Nat → Nat} {ls : List (List UInt8)} (h : ∀ i, (ls.getD i []).length ≤ 94) : ∀ i, (noteT f ls i).length ≤ 109 * i
  | 0 => by simp [noteT]
  | i + 1 => by
    have ih := note_len (f := f) h i
    have := h i
    have h1 : (pre1 (f i)).length ≤ 7 := by unfold pre1; split <;> simp
    have h2 : (pre2 (f i)).length ≤ 4 := by unfold pre2; split <;> simp
    have h3 : (pre3 (f i)).length ≤ 2 := by unfold pre3; split <;> simp
    rw [noteT]
    simp only [List.length_append, List.length_cons, List.length_nil]
    omega
theorem nolf_pre3 (k : Nat) : NoLf (pre3 k) := by
  unfold pre3
  split
  · intro b hb; simp at hb; subst hb; decide
  · intro b hb; simp at hb
theorem note_lines {f : Nat → Nat} {ls : List (List UInt8)} (h : ∀ i, NoLf (ls.getD i [])) : ∀ (i : Nat) (rest : List UInt8), linesL (noteT f ls i ++ rest) = noteL f ls i ++ linesL rest
  | 0, rest => rfl
  | i + 1, rest => by
    have hl : ∀ r, linesL (pre3 (f i) ++ (ls.getD i [] ++ ([32, 10] ++ r))) = (pre3 (f i) ++ (ls.getD i [] ++ [32])) :: linesL r := fun r => by
      have := lines_one (nolf_app (nolf_pre3 (f i)) (nolf_app (h i) nolf_sp)) r
      simpa using this
    have h2 : ∀ r, linesL (pre2 (f i) ++ r) = (if f i % 4 = 2 then [[32, 32, 32]] else []) ++ linesL r := fun r => by
      unfold pre2
      split
      · exact lines_one (l := [32, 32, 32]) (by intro b hb; simp at hb; subst hb; decide) r
      · rfl
    have h1 : ∀ r, linesL (pre1 (f i) ++ r) = (if f i % 4 = 1 then [[35, 32, 104, 97, 108, 116]] else []) ++ linesL r := fun r => by
      unfold pre1
      split
      · exact lines_one (l := [35, 32, 104, 97, 108, 116]) (by intro b hb; simp at hb; rcases hb with rfl | rfl | rfl | rfl | rfl | rfl <;> decide) r
      · rfl
    rw [noteT, noteL]
    simp only [List.append_assoc]
    rw [note_lines h i, h1, h2, hl]
    simp only [List.cons_append, List.nil_append]
theorem pieces_ne (c : UInt8) : ∀ l : List UInt8, pieces c l ≠ []
  | [] => by simp [pieces]
  | b :: r => by
    unfold pieces
    split
    · simp
    · split <;> simp
theorem pieces_tail (c : UInt8) : ∀ l : List UInt8, pieces c (l ++ [c]) = pieces c l ++ [[]]
  | [] => by simp [pieces]
  | b :: r => by
    have ih := pieces_tail c r
    rw [List.cons_append, pieces, pieces]
    split
    · rw [ih]; rfl
    · rw [ih]
      cases hp : pieces c r with
      | nil => exact absurd hp (pieces_ne c r)
      | cons p ps => rfl
theorem words_tail (l : List UInt8) : wordsL (l ++ [32]) = wordsL l := by
  unfold wordsL
  rw [pieces_tail, List.filter_append]
  simp
theorem words_pre (k : Nat) (l : List UInt8) : wordsL (pre3 k ++ l) = wordsL l := by
  unfold pre3
  split
  · have e : [32, 32] ++ l = ([] : List UInt8) ++ 32 :: (([] : List UInt8) ++ 32 :: l) := rfl
    rw [e, words_hit _ _ (by simp), words_hit _ _ (by simp)]
    simp
  · rfl
theorem line_hash (st : PS) : lineS st [35, 32, 104, 97, 108, 116] = (st, 0) := by
  have h : wordsL [35, 32, 104, 97, 108, 116] = [[35], [104, 97, 108, 116]] := by decide
  unfold lineS
  simp [h]
theorem line_blank (st : PS) : lineS st [32, 32, 32] = (st, 0) := by
  have h : wordsL [32, 32, 32] = [] := by decide
  unfold lineS
  simp [h]
theorem note_run {f : Nat → Nat} {ls : List (List UInt8)} {st : PS} (h : (runS st ls).2 = 0) : ∀ i, i ≤ ls.length → runS st (noteL f ls i) = runS st (ls.take i)
  | 0, _ => rfl
  | i + 1, hi => by
    have ih := note_run (f := f) h i (by omega)
    obtain ⟨x, hx⟩ : ∃ x, ls[i]? = some x := ⟨_, List.getElem?_eq_getElem (by omega)⟩
    obtain ⟨h0, hst⟩ := runS_step hx h
    have hz : (runS st (ls.take i)).2 = 0 := runS_pre _ (ls.drop i) st (by rw [List.take_append_drop]; exact h)
    have hg : ls.getD i [] = x := by rw [List.getD_eq_getElem?_getD, hx]; rfl
    have hl : ∀ st', lineS st' (pre3 (f i) ++ (ls.getD i [] ++ [32])) = lineS st' x := fun st' => lineS_words (by rw [words_pre, words_tail, hg]) st'
    rw [noteL, runS_app _ _ _ (by rw [ih]; exact hz), ih, hst]
    have one : ∀ st', (lineS st' x).2 = 0 → runS st' [pre3 (f i) ++ (ls.getD i [] ++ [32])] = lineS st' x := fun st' _ => by rw [runS_one, hl]
    have two : ∀ st', (lineS st' x).2 = 0 → runS st' ((if f i % 4 = 2 then [[32, 32, 32]] else []) ++ [pre3 (f i) ++ (ls.getD i [] ++ [32])]) = lineS st' x := fun st' h' => by
      split
      · rw [List.cons_append, List.nil_append, runS, line_blank, if_pos rfl, one _ h']
      · exact one _ h'
    split
    · rw [List.cons_append, List.nil_append, runS, line_hash, if_pos rfl, two _ h0]
    · exact two _ h0
theorem progL_le {r c s : Int} {rows : List RowI} (hr : int64 r) (hc : int64 c) (hs : int64 s) (h64 : ∀ t k, int64 (numAt rows t k)) : ∀ x ∈ progL r c s rows, x.length ≤ 94 ∧ NoLf x := by
  intro x hx
  rcases List.mem_cons.1 hx with rfl | hx
  · have := head_len hr hc hs
    exact ⟨by omega, nolf_head r c s⟩
  · rw [bodyL, List.mem_flatMap] at hx
    obtain ⟨t, _, hx⟩ := hx
    rcases List.mem_cons.1 hx with rfl | hx
    · exact ⟨by decide, nolf_thread⟩
    · obtain ⟨i, _, rfl⟩ := List.mem_map.1 hx
      exact ⟨ins_len h64 t i, nolf_ins rows t i⟩
theorem progL_len {r c s : Int} {rs : List RowI} (g : Fine r c s rs) : (progL r c s rs).length ≤ 69 := by
  rw [progL, List.length_cons]
  have : ∀ T, (bodyL rs T).length ≤ 17 * T := by
    intro T
    induction T with
    | zero => simp [bodyL]
    | succ T ih =>
      have := g.short T
      rw [bodyL_step, List.length_append, threadL, List.length_cons, List.length_map, List.length_range]
      omega
  have := this rs.length
  have := g.few
  omega

theorem seg_slice {w : World} {B n size : Nat} {e : TypeId} {v : Value} {xs : List Value} (h : Seg w B e size v n xs) : ∃ ao cap, v = .slice ao n cap := by
  rcases h.2 with ⟨h1, h2⟩ | ⟨g, o, cap, cur, h1, _⟩
  · exact ⟨none, 0, by rw [h1, h2]⟩
  · exact ⟨_, _, h1⟩

set_option maxRecDepth 100000 in
set_option maxHeartbeats 8000000 in
theorem walkP (w : World) (hT : Door.Tabs w) (r c s : Int) (hr : int64 r) (hc : int64 c) (hs : int64 s) (ao : Option Addr) (n cap : Nat) (rows : List RowI) (h : Rd w 1 (.slice ao n cap) rows.length (rows.map (·.v))) (hrw : ∀ q ∈ rows, Rd w 5 q.v q.n (vals q.zs) ∧ ∀ z ∈ q.zs, int64 z) (nao : Option Addr) (nn ncap : Nat) (bs : List Int) (hob : ∀ x ∈ bs, 0 ≤ x ∧ x < 256) (hnb : Rd w 1 (.slice nao nn ncap) nn (bs.map (Value.int .u8))) :
    Calls Tryd.prog 5 #[.agg #[.int .i64 r, .int .i64 c, .int .i64 s, .slice ao n cap], .slice nao nn ncap] w fun e w' => e = .returned (.bool true) ∧ Below w.heap.size w w' := by
  have hbx := Box.new w #[.int .i64 r, .int .i64 c, .int .i64 s, .slice ao n cap] 32
  have hk : Kept No w (w.alloc (.cells #[.int .i64 r, .int .i64 c, .int .i64 s, .slice ao n cap] 32)) := (Kept.refl _ _).alloc _
  obtain ⟨hnl, nao', ncap', hnv, hnc, hnm, -, hnR⟩ := hnb
  rw [Value.slice.injEq] at hnv
  obtain ⟨rfl, -, rfl⟩ := hnv
  rw [List.length_map, Nat.mul_one] at hnl
  unfold maxLen at hnm
  have HNL := Lib.hid hnl
  have HNR := Lib.hid hnR
  have HOB := Lib.hid hob
  clear hnl hnR hob
  have HX := Lib.hid hbx
  have HK := Lib.hid hk
  have HT := Lib.hid hT
  have H := Lib.hid h
  have HRW := Lib.hid hrw
  have HR := Lib.hid hr
  have HC := Lib.hid hc
  have HS := Lib.hid hs
  clear hbx hk hT h hrw hr hc hs
  go_enter Tryd.func5, Tryd.ntmps5
  go_upto_region 1 with fail
  generalize w.alloc (.cells #[.int .i64 r, .int .i64 c, .int .i64 s, .slice ao n cap] 32) = w0 at *
  go_wp2_with fail
  refine (alive_is _ (HT.out.kept HK.out)).mono ?_
  rintro e w1 ⟨rfl, k1⟩
  have hk1 := HK.out.trans k1 (fun _ _ f => f)
  have hx1 := HX.out.kept k1 id
  have c0 : w1.cell? ⟨w.heap.size, 0, none⟩ = some (.int .i64 r) := hx1.cell 0
  have c1 : w1.cell? ⟨w.heap.size, 1, none⟩ = some (.int .i64 c) := hx1.cell 1
  have c2 : w1.cell? ⟨w.heap.size, 2, none⟩ = some (.int .i64 s) := hx1.cell 2
  have c3 : w1.cell? ⟨w.heap.size, 3, none⟩ = some (.slice ao n cap) := hx1.cell 3
  clear k1 HX HK
  go_wp2_with fail
  refine (few_is r c s ao n cap rows w w1 hk1 H.out HRW.out).mono ?_
  rintro e w2 ⟨A, m, cp, rs, rfl, hpr, -, -, k2⟩
  have hx2 := hx1.kept k2 id
  have hk2 := hk1.trans k2 (fun _ _ f => f)
  have hlt : w.heap.size < w1.heap.size := hx1.lt
  clear c0 c1 c2 c3 hx1 k2
  go_upto_region 4 with (refine wpList_store_rowTo rfl 32 _ _ rfl rfl w.heap.size #[.int .i64 r, .int .i64 c, .int .i64 s, .slice A m cp] (by kernel_rfl) (by kernel_rfl) 32 _ hx2 (by kernel_rfl) (by kernel_rfl) (by kernel_rfl) ?_)
  have hx3 := hx2.row (cs := #[.int .i64 r, .int .i64 c, .int .i64 s, .slice A m cp])
  have hk3 := row_kept hk2 (Nat.le_refl w.heap.size) #[.int .i64 r, .int .i64 c, .int .i64 s, .slice A m cp]
  have hp3 : PR (w2.setRow w.heap.size #[.int .i64 r, .int .i64 c, .int .i64 s, .slice A m cp]) (.slice A m cp) rs := hpr _ (by
    refine ⟨rfl, rfl, rfl, by simp [World.setRow], fun q hq hm => setRow_other w2 w.heap.size q _ (fun e => hm ⟨by omega, by omega⟩)⟩)
  have hms := hp3.len.1
  clear hpr hx2 hk1 hk2
  generalize w2.setRow w.heap.size #[.int .i64 r, .int .i64 c, .int .i64 s, .slice A m cp] = w3 at *
  subst hms
  have c0 : w3.cell? ⟨w.heap.size, 0, none⟩ = some (.int .i64 r) := hx3.cell 0
  have c1 : w3.cell? ⟨w.heap.size, 1, none⟩ = some (.int .i64 c) := hx3.cell 1
  have c2 : w3.cell? ⟨w.heap.size, 2, none⟩ = some (.int .i64 s) := hx3.cell 2
  have c3 : w3.cell? ⟨w.heap.size, 3, none⟩ = some (.slice A rs.length cp) := hx3.cell 3
  have hrc := refprog_is r c s HR.out HS.out A rs.length cp rs w3 hp3
  obtain ⟨ev, hev⟩ : ∃ ev, progE r c s rs = ev := ⟨_, rfl⟩
  rw [hev] at hrc
  have HRC := Lib.hid hrc
  clear hrc
  by_cases h0 : ev = 0
  · subst h0
    have HG := Lib.hid (good_of hev)
    have HF := Lib.hid (fine_of hev)
    have HEV := Lib.hid hev
    have hpl := prog_len HR.out HC.out HS.out hp3.int HG.out
    have hlp := lines_of_prog r c s rs
    have hrun := run_prog hp3.int HF.out
    have hle := progL_le HR.out HC.out HS.out hp3.int
    have hll := progL_len HF.out
    rw [← hlp] at hrun hle hll
    obtain ⟨ll, hllq⟩ : ∃ ll, linesL (progT r c s rs) = ll := ⟨_, rfl⟩
    have hRP := fun w hp => refprogt_is r c s HR.out HC.out HS.out A rs.length cp rs w hp HG.out
    have hSP := fun w => refsplit_is (progT r c s rs) (by omega) w
    rw [hllq] at hrun hle hll hSP
    obtain ⟨f, hf⟩ : ∃ f : Nat → Nat, (fun i => (bs.getD (i % nn) 0).toNat) = f := ⟨_, rfl⟩
    have hgl : ∀ i, (ll.getD i []).length ≤ 94 ∧ NoLf (ll.getD i []) := fun i => by
      rw [List.getD_eq_getElem?_getD]
      rcases hx : ll[i]? with _ | x
      · exact ⟨by simp, by intro b hb; simp at hb⟩
      · exact hle x (List.mem_of_getElem? hx)
    have hle94 := fun i => (hgl i).1
    have hnlen := note_len (f := f) (fun i => (hgl i).1)
    have hnlin := note_lines (f := f) (fun i => (hgl i).2)
    have hnrun := note_run (f := f) (by rw [hrun]) ll.length (Nat.le_refl _)
    rw [List.take_length, hrun] at hnrun
    have hPB := fun w hT hp => parse_back (noteT f ll ll.length) (by have := hnlen ll.length; omega) r c s HR.out HS.out (.slice A rs.length cp) rs w hT hp HEV.out (by have h9 := hnlin ll.length []; rw [List.append_nil] at h9; rw [h9]; simpa [linesL] using hnrun)
    obtain ⟨st, hst⟩ : ∃ x : ByteArray, (⟨(progT r c s rs).toArray⟩ : ByteArray) = x := ⟨_, rfl⟩
    rw [hst] at hRP hSP
    generalize (linesL (noteT f ll ll.length)).length = nl at *
    have HPB := Lib.hid hPB
    have HRP := Lib.hid hRP
    have HSP := Lib.hid hSP
    have HX := Lib.hid hx3
    have HK := Lib.hid hk3
    have HP := Lib.hid hp3
    have HLEN := Lib.hid hnlen
    have H94 := Lib.hid hle94
    have HFF := Lib.hid hf
    have e0 : ((0 : Int) != 0) = false := rfl
    clear hle94 hev hpl hlp hrun hle hllq hPB hRP hSP hst hx3 hk3 hp3 HG HF HEV hgl hnlen hnlin hnrun hf
    go_wp2_with fail
    refine HRC.out.mono ?_
    rintro e w5 ⟨rfl, k5⟩
    have hx5 := HX.out.kept k5 id
    have hp5 := HP.out.kept k5
    have hk5 := HK.out.trans k5 (fun _ _ f => f)
    clear c0 c1 c2 c3 k5 HX HP HK
    have c0 : w5.cell? ⟨w.heap.size, 0, none⟩ = some (.int .i64 r) := hx5.cell 0
    have c1 : w5.cell? ⟨w.heap.size, 1, none⟩ = some (.int .i64 c) := hx5.cell 1
    have c2 : w5.cell? ⟨w.heap.size, 2, none⟩ = some (.int .i64 s) := hx5.cell 2
    have c3 : w5.cell? ⟨w.heap.size, 3, none⟩ = some (.slice A rs.length cp) := hx5.cell 3
    have HP := Lib.hid hp5
    have HX := Lib.hid hx5
    have HK := Lib.hid hk5
    clear hx5 hp5 hk5
    by_cases hn0 : nn = 0
    · subst hn0
      go_wp2_with fail
      go_ret
      exact ⟨rfl, HK.out.below (Nat.le_refl _) (fun _ _ => id)⟩
    · have hn1 : ((nn : Int) == 0) = false := by rw [beq_eq_false_iff_ne]; omega
      have HN0 := Lib.hid hn0
      clear hn0
      go_wp2_with fail
      refine (HRP.out w5 HP.out).mono ?_
      rintro e w6 ⟨rfl, k6⟩
      have HX6 := Lib.hid (HX.out.kept k6 id)
      have HP6 := Lib.hid (HP.out.kept k6)
      have HK6 := Lib.hid (HK.out.trans k6 (fun _ _ f => f))
      clear c0 c1 c2 c3 k6 HX HP HK
      go_wp2_with fail
      refine (HSP.out w6).mono ?_
      rintro e w7 ⟨k7, v7, rfl, hseg⟩
      obtain ⟨-, ao7, cap7, hv7, hc7, hm7, -, hR7⟩ := hseg.rd
      subst hv7
      unfold maxLen at hm7
      have HR7 := Lib.hid hR7
      have HX7 := Lib.hid (HX6.out.kept k7 id)
      have HP7 := Lib.hid (HP6.out.kept k7)
      have HK7 := Lib.hid (HK6.out.trans k7 (fun _ _ f => f))
      clear k7 hR7 hseg HX6 HP6 HK6 HRP HSP
      go_wp2_with fail
      go_loopw [6, 7] (fun m i wr => ∃ (k : Nat) (sx : ByteArray), k ≤ ll.length ∧ i = .int .i64 k ∧ m = .string sx ∧ Hid ((⟨(noteT f ll k).toArray⟩ : ByteArray) = sx) ∧ Hid (Kept No w7 wr)) (fun _ i _ => ll.length - (intOf i).toNat)
      case atStart => exact ⟨0, _, by omega, rfl, rfl, Lib.hid rfl, Lib.hid (Kept.refl _ _)⟩
      case round =>
        obtain ⟨k, sx, hk, rfl, rfl, hsx, hK⟩ := hrel
        by_cases hlt : k < ll.length
        · obtain ⟨y, hy⟩ : ∃ y, ll[k]? = some y := ⟨_, List.getElem?_eq_getElem hlt⟩
          obtain ⟨sy, hsy⟩ : ∃ z : ByteArray, (⟨y.toArray⟩ : ByteArray) = z := ⟨_, rfl⟩
          obtain ⟨g, o, rfl, hg, hcell⟩ := HR7.out (by omega)
          have c1 : wr.cell? ⟨g, o + k, none⟩ = some (.string sy) := by
            rw [← hsy]
            exact (hK.out.cell (p := ⟨g, o + k, none⟩) hg id).trans (hcell k _ (by rw [sv, List.getElem?_map, hy]; rfl))
          obtain ⟨j, hj⟩ : ∃ j, k % nn = j := ⟨_, rfl⟩
          have hjn : j < nn := by rw [← hj]; exact Nat.mod_lt _ (Nat.pos_of_ne_zero HN0.out)
          obtain ⟨g2, o2, rfl, hg2, hcell2⟩ := HNR.out (by omega)
          obtain ⟨x, hx⟩ : ∃ x, bs[j]? = some x := ⟨_, List.getElem?_eq_getElem (by have := HNL.out; omega)⟩
          obtain ⟨q, rfl⟩ : ∃ q : Nat, x = q := ⟨x.toNat, by have := HOB.out x (List.mem_of_getElem? hx); omega⟩
          have hq256 : q < 256 := by have := HOB.out q (List.mem_of_getElem? hx); omega
          have hlw : g2 < wr.heap.size ∧ wr.cell? ⟨g2, o2 + j, none⟩ = some (.int .u8 q) := by
            have hkw := HK7.out.trans hK.out (fun _ _ f => f)
            exact ⟨Nat.lt_of_lt_of_le hg2 hkw.size, (hkw.cell (p := ⟨g2, o2 + j, none⟩) hg2 id).trans (hcell2 j _ (by rw [List.getElem?_map, hx]; rfl))⟩
          have c2 := hlw.2
          have hfk : Hid (f k = q) := Lib.hid (by rw [← HFF.out]; simp only [hj, List.getD_eq_getElem?_getD, hx]; rfl)
          have hyk : Hid (ll.getD k [] = y) := Lib.hid (by rw [List.getD_eq_getElem?_getD, hy]; rfl)
          have hmod : ((k : Int)).tmod (nn : Int) = (j : Int) := by rw [← hj]; rfl
          have zx : sx.size ≤ 10000 := by rw [← hsx.out]; have := HLEN.out k; simp [ByteArray.size]; omega
          have zy : sy.size ≤ 94 := by rw [← hsy]; have := H94.out k; rw [hyk.out] at this; simpa [ByteArray.size] using this
          have HSY := Lib.hid hsy
          obtain ⟨t1, ht1⟩ : ∃ b, ((q : Int) % 4 == 1) = b := ⟨_, rfl⟩
          obtain ⟨t2, ht2⟩ : ∃ b, ((q : Int) % 4 == 2) = b := ⟨_, rfl⟩
          obtain ⟨t3, ht3⟩ : ∃ b, ((q : Int) % 3 == 1) = b := ⟨_, rfl⟩
          have HNX : Hid (noteT f ll (k + 1) = noteT f ll k ++ ((if t1 = true then [35, 32, 104, 97, 108, 116, 10] else []) ++ ((if t2 = true then [32, 32, 32, 10] else []) ++ ((if t3 = true then [32, 32] else []) ++ (y ++ [32, 10]))))) := Lib.hid (by
            have e1 : (q % 4 = 1) ↔ t1 = true := by rw [← ht1, beq_iff_eq]; omega
            have e2 : (q % 4 = 2) ↔ t2 = true := by rw [← ht2, beq_iff_eq]; omega
            have e3 : (q % 3 = 1) ↔ t3 = true := by rw [← ht3, beq_iff_eq]; omega
            rw [noteT, hfk.out, hyk.out]
            unfold pre1 pre2 pre3
            simp only [e1, e2, e3])
          clear hcell hcell2 hlw hx hy hj hsy
          cases t1 <;> cases t2 <;> cases t3
          all_goals
            go_wp2_with fail
            go_roundw
            case rel => exact ⟨k + 1, _, by omega, by go_num, rfl, Lib.hid (by rw [HNX.out, ← hsx.out, ← HSY.out]; simp [app_mk]), hK⟩
            case measure => simp [intOf]; omega
        · obtain rfl : k = ll.length := by omega
          have HPB2 := Lib.hid (fun w hT hp => by have := HPB.out w hT hp; rw [hsx.out] at this; exact this)
          have HXR := Lib.hid (HX7.out.kept hK.out id)
          have HPR := Lib.hid (HP7.out.kept hK.out)
          have HKR := Lib.hid (HK7.out.trans hK.out (fun _ _ f => f))
          clear HX7 HP7 HK7 hK HPB
          go_wp2_with fail
          refine (HPB2.out wr (HT.out.kept HKR.out) HPR.out).mono ?_
          rintro e w7 ⟨k7, a, cp', rows', rfl, hp', hlr, hsame⟩
          have HX7 := Lib.hid ((HXR.out.kept k7 id).alloc (.cells #[.int .i64 r, .int .i64 c, .int .i64 s, .slice a rs.length cp'] 32))
          have hkA := (Kept.refl No w7).alloc (.cells #[.int .i64 r, .int .i64 c, .int .i64 s, .slice a rs.length cp'] 32)
          have HP7 := Lib.hid ((HPR.out.kept k7).kept hkA)
          have HQ7 := Lib.hid (hp'.kept hkA)
          have HK7 := Lib.hid ((HKR.out.trans k7 (fun _ _ f => f)).trans hkA (fun _ _ f => f))
          have HY7 := Lib.hid (Box.new w7 #[.int .i64 r, .int .i64 c, .int .i64 s, .slice a rs.length cp'] 32)
          have HS7 := Lib.hid hsame
          have HL7 := Lib.hid hlr
          clear k7 hp' hlr hsame HXR HPR HKR hkA
          go_upto_region 20 with fail
          generalize w7.alloc (.cells #[.int .i64 r, .int .i64 c, .int .i64 s, .slice a rs.length cp'] 32) = w8 at *
          have c0 : w8.cell? ⟨w.heap.size, 0, none⟩ = some (.int .i64 r) := HX7.out.cell 0
          have c1 : w8.cell? ⟨w.heap.size, 1, none⟩ = some (.int .i64 c) := HX7.out.cell 1
          have c2 : w8.cell? ⟨w.heap.size, 2, none⟩ = some (.int .i64 s) := HX7.out.cell 2
          have c3 : w8.cell? ⟨w.heap.size, 3, none⟩ = some (.slice A rs.length cp) := HX7.out.cell 3
          have d0 : w8.cell? ⟨w7.heap.size, 0, none⟩ = some (.int .i64 r) := HY7.out.cell 0
          have d1 : w8.cell? ⟨w7.heap.size, 1, none⟩ = some (.int .i64 c) := HY7.out.cell 1
          have d2 : w8.cell? ⟨w7.heap.size, 2, none⟩ = some (.int .i64 s) := HY7.out.cell 2
          have d3 : w8.cell? ⟨w7.heap.size, 3, none⟩ = some (.slice a rs.length cp') := HY7.out.cell 3
          go_wp2_with fail
          refine (plainprog_is w8 r c s _ _ rs rows' HP7.out HQ7.out HL7.out HS7.out).mono ?_
          rintro e w9 ⟨rfl, k9⟩
          have HK9 := Lib.hid (HK7.out.trans k9 (fun _ _ f => f))
          clear k9 c0 c1 c2 c3 d0 d1 d2 d3 HX7 HP7 HQ7 HK7 HY7 HS7 HL7

          go_wp2_with fail
          go_ret
          exact ⟨by simp, HK9.out.below (Nat.le_refl _) (fun _ _ => id)⟩
  · have e0 : (ev != 0) = true := by simp [h0]
    have HK := Lib.hid hk3
    clear hev h0 hk3 hx3 hp3
    go_wp2_with fail
    refine HRC.out.mono ?_
    rintro e w5 ⟨rfl, k5⟩
    have HK5 := Lib.hid (HK.out.trans k5 (fun _ _ f => f))
    clear c0 c1 c2 c3 k5
    go_wp2_with fail
    go_ret
    exact ⟨by simp, HK5.out.below (Nat.le_refl _) (fun _ _ => id)⟩


theorem walk (w : World) (hT : Door.Tabs w) (r c s : Int) (u : Value) (rows : List Open.RowI) (wr : (Lit.int .i64 r).wf = true) (wc : (Lit.int .i64 c).wf = true) (ws : (Lit.int .i64 s).wf = true) (rd : Rd w 1 u rows.length (rows.map (·.v))) (rr : ∀ q ∈ rows, Rd w 5 q.v q.n (vals q.zs) ∧ ∀ z ∈ q.zs, (Lit.int .i64 z).wf = true)
    (v : Value) (n : Nat) (xs : List Int) (h : Rd w 1 v n (xs.map (Value.int .u8))) (wf : ∀ z ∈ xs, (Lit.int .u8 z).wf = true) :
    Calls Tryd.prog 5 #[.agg #[.int .i64 r, .int .i64 c, .int .i64 s, u], v] w fun e w' => e = .returned (.bool true) ∧ Below w.heap.size w w' := by
  obtain ⟨_, ao, cap, rfl, _⟩ := id rd
  obtain ⟨_, ao2, cap2, rfl, _⟩ := id h
  exact walkP w hT r c s (Open.wf_bd wr) (Open.wf_bd wc) (Open.wf_bd ws) ao _ cap rows rd (fun q hq => ⟨(rr q hq).1, fun z hz => Open.wf_bd ((rr q hq).2 z hz)⟩) ao2 n cap2 xs (fun c hc => Open.wf_u8_bd (wf c hc)) h

section
open Go.ChangeShapes Go.WideShapes Go.ChangeAt Go.ChangeMaps Go.RowKit Go.Proofs.YtjpddfnkamahfaaDoor.Own Go.Proofs.YtjpddfnkamahfaaDoor.Open Go.Proofs.YtjpddfnkamahfaaDoor.Door

theorem own : ownKnob Tryd.prog.godebug = none := by kernel_rfl
theorem laidOut : laidOutB Tryd.prog = true := by kernel_rfl

theorem door_met (os : Os) (args : Array Value) : laidMetH Tryd.prog Rows.asmNotesRow.laid ((World.laidAll Tryd.prog os Rows.asmNotesRow.laid).forCall (fun _ _ => 0) ⟨#[], args, []⟩).memory := by
  rw [MakeChecks.laidMetH_plain _ _ _ (by kernel_rfl)]
  exact laidMet_laidAll _ (by kernel_rfl) (by kernel_rfl)

set_option maxRecDepth 100000 in
theorem lifted (os : Os) (started : os.Started) (H : Type) (enc : TypeId × Value → H) :
    ReturnsInHanded {} Tryd.checked os 5 .any (fun w args => (Rows.asmNotesSpec.pre enc Tryd.prog Tryd.f5 [] false w args ∧ laidMetH Tryd.prog Rows.asmNotesRow.laid w) ∧ sizedMet enc Tryd.prog Tryd.f5 (OpenSpec.ofChange Rows.asmNotesSpec) false w args) (Rows.asmNotesSpec.post enc Tryd.prog Tryd.f5 false true false false) := by
  refine returnsInHanded_of_change_and (C := Tryd.checked) (X := fun w _ => laidMetH Tryd.prog Rows.asmNotesRow.laid w) (fun _ _ _ hh h => h.of_heap hh) own started (by kernel_rfl) Tryd.func5
    (ChangeSpec.witness_shaped (enc := enc) (C := Tryd.checked) (os := os) (X := fun w _ => laidMetH Tryd.prog Rows.asmNotesRow.laid w) false (World.laidAll Tryd.prog os Rows.asmNotesRow.laid) #[.agg #[.int .i64 0, .int .i64 0, .int .i64 0, .slice none 0 0], .slice none 0 0] 8 (World.laidAll_os _ _ _) (World.shaped_of_ZipB (by kernel_rfl) (by kernel_rfl)) (by kernel_rfl) (by kernel_rfl) (by kernel_rfl) (door_met os _)) ?_
  intro W base args ds gs before hval0 hW _ _ hL _
  have hval : ∀ (j : Nat) t v, Tryd.f5.params[j]? = some t → args[j]? = some v → Value.okWide Tryd.prog W .any base t v := hval0
  have hW' := hW
  obtain ⟨p, q, hA0, hV, rfl, hfz, hnd⟩ := hW
  have hA : DataW.TrodAll enc Tryd.prog W 0 (fun _ => true) true Tryd.f5.params.toList args.toList ds p := hA0
  rw [Tryd.params5] at hA hval
  have hA1 := hA
  obtain ⟨v0, vs0, d0, ds0, p0, q0, hargs, rfl, rfl, h0, r0⟩ := trodAll_cons hA
  obtain ⟨v1, vs1, d1, ds1, p1, q1, rfl, rfl, rfl, h1, r1⟩ := trodAll_cons r0
  obtain ⟨rfl, rfl, rfl⟩ := trodAll_nil r1
  obtain rfl : args = #[v0, v1] := by cases args; simp_all
  obtain ⟨rfl, rfl⟩ := trodVars_none hV
  obtain ⟨ga0, gb0, gc0, gu0, rows0, rfl, wga0, wgb0, wgc0, rdg0, rrg0⟩ := open_prog 5 Tryd.underlying32 (by kernel_rfl) (by kernel_rfl) (by kernel_rfl) (by kernel_rfl) (by kernel_rfl) Tryd.underlying3 Tryd.underlying3 Tryd.underlying3 Tryd.underlying30 Tryd.underlying52 (by kernel_rfl) (by kernel_rfl) (by decide) (by kernel_rfl) (hval 0 32 v0 rfl rfl) h0
  obtain ⟨n1, z1, rd1, wf1⟩ := open_kinds Tryd.underlying42 Tryd.underlying5 (by kernel_rfl) (hval 1 42 v1 rfl rfl) h1
  clear hA0 hval0
  simp only [List.append_nil] at hW' hA1
  refine (walk W (tabs_of hL) ga0 gb0 gc0 gu0 rows0 wga0 wgb0 wgc0 rdg0 rrg0 v1 n1 z1 rd1 wf1).mono fun e W' ⟨he, hb⟩ => ?_
  subst he
  exact ⟨_, rfl, ⟨_, _, _, [], _, [], hW', trodAll_mk1 (shut_bool Tryd.underlying4 _), below_args laidOut hb (by kernel_rfl) hA1 (fun x hx => by simpa using hW'.lt x hx), rfl, hb.frame _, fun h => by cases h⟩⟩

theorem said : Rows.AsmNotesSaid :=
  OpenClaim.holds_of_wide 5 Tryd.f5 rfl rfl rfl rfl rfl rfl rfl ⟨rfl, rfl, rfl, rfl, rfl⟩ rfl rfl rfl rfl rfl (by kernel_rfl) Tryd.func5 (by kernel_rfl)
    (of_decide_eq_true (by kernel_rfl)) (by unfold Func.isWrapper; first | (rw [if_pos (by decide +kernel)]; kernel_rfl) | (rw [if_neg (by decide +kernel)]; exact ⟨rfl, rfl⟩))
    (fun os started H enc _ => lifted os started H enc)

theorem proved : Rows.AsmNotesCardSaid :=
  Claim7.holds_tied_plain_at .later [] [.data, .data, .data, .data, .sentinel, .sentinel, .pinned] true Rows.asmNotesCard.stood.harness true
    said (fun _ h => by cases h) (by kernel_rfl) (fun _ h => by cases h) asmNotes_row_tie rfl ⟨rfl, rfl⟩ (by kernel_rfl) rfl
    (fun f fn hf hfn => by
      obtain rfl : f = 5 := Option.some.inj ((show Tryd.prog.funcNamed "warrener/warrenerlaw13.AsmNotes" = some 5 by kernel_rfl).symm.trans hf) |>.symm
      obtain rfl : fn = Tryd.f5 := (Option.some.inj (Tryd.func5.symm.trans hfn)).symm
      exact ⟨by kernel_rfl, fun j t ht => by
        have hm : t ∈ Tryd.f5.params := Array.mem_of_getElem? ht
        have hall : (Tryd.f5.params.all fun u => !Tryd.prog.wantsStandIn u) = true := by kernel_rfl
        have := Array.all_eq_true_iff_forall_mem.1 hall t hm
        exact (show Tryd.prog.wantsStandIn t = false by simpa using this)⟩)
    (by kernel_rfl)
end
end Go.Proofs.YtjpddfnkamahfaaDoor.asmNotes
