/-
  paper.Put.
-/
import Derived.Test.YtaffaliplmfagaaGreatDoorPap2
import Derived.Test.YtaffaliplmfagaaGreatDoorPutB
set_option linter.unusedVariables false
set_option linter.unusedSimpArgs false
namespace Go.Proofs.YtaffaliplmfagaaGreatDoor.Line
open Go.RowKit Go.Sort Go.Proofs.YtaffaliplmfagaaGreatDoor.Own Go.Proofs.YtaffaliplmfagaaGreatDoor.Conv Go.Proofs.YtaffaliplmfagaaGreatDoor.Calm Go.Proofs.YtaffaliplmfagaaGreatDoor.Oct

def pre3 (k i j : Int) (q : Nat) : List Int := ([k, i, j].take q).flatMap fun x => beB x.toNat 1
def octF (f : FoundI) : List Int := pre3 f.k f.i f.j 3 ++ (beB f.zs.length 2 ++ f.zs)
def octsF (fs : List FoundI) : List Int := fs.flatMap octF
def octH (vd ed : Int) (n : Nat) : List Int := [82] ++ beB vd.toNat 1 ++ beB ed.toNat 6 ++ beB n 1
def octR (vd ed : Int) (fs : List FoundI) : List Int := octH vd ed fs.length ++ octsF fs
def n3 (k i j : Int) (q : Nat) : Int := if q = 0 then k else if q = 1 then i else j
theorem pre3_step (k i j : Int) {q : Nat} (h : q < 3) : pre3 k i j (q + 1) = pre3 k i j q ++ beB (n3 k i j q).toNat 1 := by
  have : q = 0 ∨ q = 1 ∨ q = 2 := by omega
  rcases this with rfl | rfl | rfl <;> simp [pre3, n3]
theorem octsF_snoc (fs : List FoundI) (f : FoundI) : octsF (fs ++ [f]) = octsF fs ++ octF f := by simp [octsF]
theorem beB_len (x n : Nat) : (beB x n).length = n := by simp [beB]
theorem okK_mono {fs : List FoundI} {b : Bool} : ∀ (n : Nat), okK fs b n = true → b = true ∧ ∀ t, t < n → fineF (fnd fs t) = true ∧ (t = 0 ∨ lessF (fnd fs (t - 1)) (fnd fs t) = true)
  | 0, h => ⟨h, fun t ht => by omega⟩
  | n + 1, h => by
    rw [okK, Bool.and_eq_true, Bool.and_eq_true, Bool.or_eq_true, beq_iff_eq] at h
    obtain ⟨h1, h2⟩ := okK_mono n h.1
    refine ⟨h1, fun t ht => ?_⟩
    rcases Nat.lt_succ_iff_lt_or_eq.1 ht with h3 | rfl
    · exact h2 t h3
    · exact ⟨h.2.1, h.2.2⟩
structure OkR (vd ed : Int) (fs : List FoundI) : Prop where
  v : 1 ≤ vd ∧ vd ≤ 4
  e : 0 ≤ ed ∧ ed ≤ 1099511627776
  n : fs.length ≤ 255
  fine : ∀ (t : Nat) (f : FoundI), fs[t]? = some f → isKey f.k f.i f.j = true ∧ 1 ≤ f.zs.length ∧ f.zs.length ≤ 4096 ∧ ∀ z ∈ f.zs, 0 ≤ z ∧ z ≤ 7
  sw : swB vd ed fs.length = true
  less : ∀ (t : Nat) (f g : FoundI), fs[t]? = some f → fs[t + 1]? = some g → lessF f g = true
theorem fineB_parts {k i j : Int} {zs : List Int} (h : fineB k i j zs = true) : isKey k i j = true ∧ 1 ≤ zs.length ∧ zs.length ≤ 4096 ∧ ∀ z ∈ zs, 0 ≤ z ∧ z ≤ 7 := by
  rw [fineB, Bool.and_eq_true, Bool.and_eq_true, decide_eq_true_eq] at h
  exact ⟨h.1, h.2.1.1, h.2.1.2, fun z hz => of_decide_eq_true (List.all_eq_true.1 h.2.2 z hz)⟩
theorem okR_of {vd ed : Int} {fs : List FoundI} (h : okR vd ed fs = true) : OkR vd ed fs := by
  obtain ⟨h1, h2⟩ := okK_mono _ h
  rw [topB, Bool.and_eq_true, Bool.and_eq_true, Bool.and_eq_true, decide_eq_true_eq, decide_eq_true_eq, decide_eq_true_eq] at h1
  refine ⟨h1.1.1, h1.1.2.1, by omega, fun t f hf => ?_, h1.2, fun t f g hf hg => ?_⟩
  · have := (h2 t (List.getElem?_eq_some_iff.1 hf).1).1
    rw [fnd_at hf] at this
    exact fineB_parts this
  · have := (h2 (t + 1) (List.getElem?_eq_some_iff.1 hg).1).2.resolve_left (by omega)
    rw [Nat.add_sub_cancel, fnd_at hf, fnd_at hg] at this
    exact this
theorem key_parts {k i j : Int} (h : isKey k i j = true) : (1 ≤ k ∧ k ≤ 6) ∧ (0 ≤ i ∧ i ≤ 3) ∧ 0 ≤ j ∧ j ≤ 15 := of_decide_eq_true h
theorem pidx3 (a b c : Int) (q : Nat) (h : q < 3) (w : World) : (Instr.index 82 (.agg #[.int .i64 a, .int .i64 b, .int .i64 c]) (.int .i64 q)).run Tryz.prog w = .ok (.int .i64 (n3 a b c q)) w := match q, h with
  | 0, _ => by kernel_rfl
  | 1, _ => by kernel_rfl
  | 2, _ => by kernel_rfl
  | n + 3, h => by omega
theorem octsF_take_le (fs : List FoundI) (t : Nat) : (octsF (fs.take t)).length ≤ (octsF fs).length := by
  have : octsF fs = octsF (fs.take t) ++ octsF (fs.drop t) := by
    rw [octsF, octsF, octsF, ← List.flatMap_append, List.take_append_drop]
  rw [this, List.length_append]
  omega

/-- What Put answers. -/
def PapPut (vd ed : Int) (fs : List FoundI) (w : World) (e : Ending) (w' : World) : Prop :=
  Kept No w w' ∧ ((okR vd ed fs = false ∧ e = .returned (.tuple #[.slice none 0 0, .int .i64 3])) ∨
    (okR vd ed fs = true ∧ ∃ v, e = .returned (.tuple #[v, .int .i64 0]) ∧ Seg w' w.heap.size 5 1 v (octR vd ed fs).length (bv (octR vd ed fs))))

set_option maxRecDepth 100000 in
set_option maxHeartbeats 8000000 in
theorem paperput_is (vd ed : Int) (ao : Option Addr) (n cap : Nat) (fs : List FoundI) (w : World) (h : FR w (.slice ao n cap) fs) (htot : (octR vd ed fs).length ≤ 100000) :
    Calls Tryz.prog 16 #[.agg #[.int .i64 vd, .int .i64 ed, .slice ao n cap]] w (PapPut vd ed fs w) := by
  obtain ⟨hn, hcap, hm⟩ := h.len
  unfold maxLen at hm
  have hbx := Box.new w #[.int .i64 vd, .int .i64 ed, .slice ao n cap] 24
  have hk := (Kept.refl No w).alloc (.cells #[.int .i64 vd, .int .i64 ed, .slice ao n cap] 24)
  have HX := Lib.hid hbx
  have HK := Lib.hid hk
  have H := Lib.hid (h.kept hk)
  have HN := Lib.hid hn
  have HTOT := Lib.hid htot
  clear hn h hbx hk htot
  go_enter Tryz.func16, Tryz.ntmps16
  go_upto_region 1 with fail
  generalize w.alloc (.cells #[.int .i64 vd, .int .i64 ed, .slice ao n cap] 24) = w0 at *
  have c0 : w0.cell? ⟨w.heap.size, 0, none⟩ = some (.int .i64 vd) := HX.out.cell 0
  have c1 : w0.cell? ⟨w.heap.size, 1, none⟩ = some (.int .i64 ed) := HX.out.cell 1
  have c2 : w0.cell? ⟨w.heap.size, 2, none⟩ = some (.slice ao n cap) := HX.out.cell 2
  go_wp2_with fail
  refine (papercheck_is vd ed ao n cap fs w0 H.out).mono ?_
  rintro e w1 ⟨rfl, k1⟩
  have HX1 := Lib.hid (HX.out.kept k1 id)
  have HK1 := Lib.hid (HK.out.trans k1 (fun _ _ f => f))
  have H1 := Lib.hid (H.out.kept k1)
  clear c0 c1 c2 k1 HX HK H
  unfold chkR
  cases hok : okR vd ed fs with
  | false =>
    have HOK := Lib.hid hok
    clear hok
    simp only [Bool.false_eq_true, if_false]
    go_wp2_with fail
    go_ret2
    exact ⟨HK1.out, .inl ⟨HOK.out, rfl⟩⟩
  | true =>
    have HO := Lib.hid (okR_of hok)
    have HOK := Lib.hid hok
    clear hok
    simp only [if_true]
    have c0 : w1.cell? ⟨w.heap.size, 0, none⟩ = some (.int .i64 vd) := HX1.out.cell 0
    have c1 : w1.cell? ⟨w.heap.size, 1, none⟩ = some (.int .i64 ed) := HX1.out.cell 1
    have c2 : w1.cell? ⟨w.heap.size, 2, none⟩ = some (.slice ao n cap) := HX1.out.cell 2
    have hv := HO.out.v
    have hed := HO.out.e
    have hnn := HO.out.n
    have hlen0 : (octH vd ed fs.length).length ≤ 100000 := by have := HTOT.out; rw [octR, List.length_append] at this; omega
    have hzw := HK1.out.size
    have c0' : (w1.alloc (.cells #[.int .u8 82] 5)).cell? ⟨w.heap.size, 0, none⟩ = some (.int .i64 vd) := (HX1.out.alloc _).cell 0
    go_wp2_with fail
    have hs0 : Seg (w1.alloc (.cells #[.int .u8 82] 5)) w1.heap.size 5 1 (.slice (some ⟨w1.heap.size, 0, none⟩) 1 1) 1 (bv [82]) := ⟨rfl, .inr ⟨w1.heap.size, 0, 1, #[.int .u8 82], rfl, Nat.le_refl _, (Box.new w1 #[.int .u8 82] 5).blk, Nat.le_refl _, by unfold maxLen; omega, by simp, fun j hj => by
      obtain rfl : j = 0 := by omega
      rfl⟩⟩
    have hkA := (Kept.refl No w1).alloc (.cells #[.int .u8 82] 5)
    have hsA : (w1.alloc (.cells #[.int .u8 82] 5)).heap.size = w1.heap.size + 1 := World.size_alloc _ _
    have hsA1 := Nat.le_of_eq hsA.symm
    clear hsA
    generalize w1.alloc (.cells #[.int .u8 82] 5) = w2 at *
    refine (putb_is w2 w1.heap.size _ 1 [82] hs0 (by omega) (by omega) vd 1 (by omega) (by omega) (by omega)).mono ?_
    rintro e w3 ⟨v3, rfl, s3, k3, -⟩
    have hk3 : Kept No w1 w3 := hkA.trans k3 (fun q hq h => by have := (hs0.lt q h).1; omega)
    clear c0 c0' c1 c2 hkA k3 hs0 hsA1
    have hx3 := HX1.out.kept hk3 id
    have c1 : w3.cell? ⟨w.heap.size, 1, none⟩ = some (.int .i64 ed) := hx3.cell 1
    have S3 := Lib.hid s3
    have hz3 := hk3.size
    clear s3 hx3
    go_wp2_with fail
    refine (putb_is w3 w1.heap.size v3 _ _ S3.out (by omega) (by omega) ed 6 (by omega) (by omega) (by omega)).mono ?_
    rintro e w4 ⟨v4, rfl, s4, k4, -⟩
    have hk4 : Kept No w1 w4 := hk3.trans k4 (fun q hq h => by have := (S3.out.lt q h).1; omega)
    clear c1 k4 hk3 hz3 S3
    have hx4 := HX1.out.kept hk4 id
    have c2 : w4.cell? ⟨w.heap.size, 2, none⟩ = some (.slice ao n cap) := hx4.cell 2
    have S4 := Lib.hid s4
    have hz4 := hk4.size
    clear s4 hx4
    go_wp2_with fail
    refine (putb_is w4 w1.heap.size v4 _ _ S4.out (by omega) (by omega) n 1 (by omega) (by omega) (by omega)).mono ?_
    rintro e w5 ⟨v5, rfl, s5, k5, -⟩
    have hk5 : Kept No w1 w5 := hk4.trans k5 (fun q hq h => by have := (S4.out.lt q h).1; omega)
    clear c2 k5 hk4 hz4 S4
    have hx5 := HX1.out.kept hk5 id
    have c2 : w5.cell? ⟨w.heap.size, 2, none⟩ = some (.slice ao n cap) := hx5.cell 2
    have hs5 : Seg w5 w1.heap.size 5 1 v5 (octH vd ed fs.length ++ octsF (fs.take 0)).length (bv (octH vd ed fs.length ++ octsF (fs.take 0))) := by
      have e1 : ([82] ++ beB vd.toNat 1 ++ beB ed.toNat 6 ++ beB (n : Int).toNat 1) = octH vd ed fs.length ++ octsF (fs.take 0) := by rw [octH, HN.out]; simp [octsF]
      have e2 : (octH vd ed fs.length ++ octsF (fs.take 0)).length = 1 + 1 + 6 + 1 := by rw [← e1]; simp [beB_len]
      rw [e1] at s5
      rw [e2]
      exact s5
    have S5 := Lib.hid hs5
    have HK5 := Lib.hid hk5
    clear s5 hs5 hx5 hk5
    go_wp2_with fail
    go_loopw [5, 33] (fun b i wr => ∃ t : Nat, t ≤ n ∧ i = .int .i64 t ∧ Hid (Seg wr w1.heap.size 5 1 b (octH vd ed fs.length ++ octsF (fs.take t)).length (bv (octH vd ed fs.length ++ octsF (fs.take t)))) ∧ Hid (Kept No w1 wr)) (fun _ i _ => n - (intOf i).toNat)
    case atStart => exact ⟨0, by omega, rfl, S5, HK5⟩
    case round =>
      clear c2 S5 HK5
      obtain ⟨t, ht, rfl, hS, hK⟩ := hrel
      generalize hwA : wr = wA at *
      clear hwA
      have hle := octsF_take_le fs t
      have hzr := hK.out.size
      by_cases hlt : t < n
      · obtain ⟨f, hf⟩ : ∃ f, fs[t]? = some f := ⟨_, List.getElem?_eq_getElem (by have := HN.out; omega)⟩
        have hpk := (H1.out.kept hK.out).pk hf
        obtain ⟨g, o, rfl, hg, e0, e1, e2, e3⟩ := (H1.out.kept hK.out).at hf
        obtain ⟨hkey, hz1, hz2, hzs⟩ := HO.out.fine t f hf
        have htk : Hid (octsF (fs.take (t + 1)) = octsF (fs.take t) ++ octF f) := Lib.hid (by rw [List.take_add_one, hf]; exact octsF_snoc _ _)
        have hle2 := octsF_take_le fs (t + 1)
        rw [htk.out, List.length_append] at hle2
        obtain ⟨fk, fi, fj, fv, fm, fzs⟩ := f
        have hfl : fzs.length = fm := by have := hpk.len; rw [vals_len] at this; simpa using this
        obtain ⟨-, A, C, hfv, -, -, -, -⟩ := id hpk
        simp only at hfv e0 e1 e2 e3 hpk hkey hz1 hz2 hzs
        subst hfv
        obtain ⟨⟨p1, p2⟩, ⟨p3, p4⟩, p5, p6⟩ := key_parts hkey
        have hofl : (octF ⟨fk, fi, fj, .slice A fm C, fm, fzs⟩).length = 5 + fzs.length := by simp [octF, pre3, beB_len]; omega
        rw [hofl] at hle2
        have hnums : ∀ q, 0 ≤ n3 fk fi fj q ∧ n3 fk fi fj q < 9223372036854775808 := fun q => by
          have : n3 fk fi fj q = fk ∨ n3 fk fi fj q = fi ∨ n3 fk fi fj q = fj := by
            unfold n3
            split
            · exact .inl rfl
            · split
              · exact .inr (.inl rfl)
              · exact .inr (.inr rfl)
          rcases this with h | h | h <;> rw [h] <;> omega
        have hpx := fun q h w => pidx3 fk fi fj q h w
        have HPX := Lib.hid hpx
        have HNM := Lib.hid hnums
        have HPK := Lib.hid hpk
        have HFL := Lib.hid hfl
        have HZS := Lib.hid hzs
        have htot := HTOT.out
        rw [octR, List.length_append] at htot
        have HF := Lib.hid hf
        clear hpk hf hkey hnums hzs hpx hfl
        go_upto_region 10 with fail
        clear e0 e1 e2 e3
        have hy2 := Box.new wA #[.int .i64 fk, .int .i64 fi, .int .i64 fj, .slice A fm C] 48
        have hkA : Kept No wA (wA.alloc (.cells #[.int .i64 fk, .int .i64 fi, .int .i64 fj, .slice A fm C] 48)) := (Kept.refl _ _).alloc _
        have hyl := hy2.lt
        generalize hww : wA.alloc (.cells #[.int .i64 fk, .int .i64 fi, .int .i64 fj, .slice A fm C] 48) = w6 at *
        clear hww
        have y0 : w6.cell? ⟨wA.heap.size, 0, none⟩ = some (.int .i64 fk) := hy2.cell 0
        have y1 : w6.cell? ⟨wA.heap.size, 1, none⟩ = some (.int .i64 fi) := hy2.cell 1
        have y2 : w6.cell? ⟨wA.heap.size, 2, none⟩ = some (.int .i64 fj) := hy2.cell 2
        have HY2 := Lib.hid hy2
        have HK6 := Lib.hid hkA
        have S6 := Lib.hid (hS.out.kept hkA (fun _ _ f => f))
        have hsl := hS.out.lt
        have HSL := Lib.hid hsl
        clear hy2 hkA hsl
        go_wp2_with fail
        clear y0 y1 y2
        go_loopw [5, 47] (fun b i wr => ∃ q : Nat, q ≤ 3 ∧ i = .int .i64 q ∧ Hid (Seg wr w1.heap.size 5 1 b (octH vd ed fs.length ++ octsF (fs.take t) ++ pre3 fk fi fj q).length (bv (octH vd ed fs.length ++ octsF (fs.take t) ++ pre3 fk fi fj q))) ∧ Hid (Kept No w1 wr) ∧ Hid (Box wr wA.heap.size #[.int .i64 fk, .int .i64 fi, .int .i64 fj, .slice A fm C] 48) ∧ Hid (∀ g, b.ownBlock = some g → g ≠ wA.heap.size)) (fun _ i _ => 3 - (intOf i).toNat)
        case atStart => exact ⟨0, by omega, rfl, Lib.hid (by rw [show pre3 fk fi fj 0 = [] from rfl, List.append_nil]; exact S6.out), Lib.hid (hK.out.trans HK6.out (fun _ _ f => f)), HY2, Lib.hid (fun g hg => by have := (HSL.out g hg).2; omega)⟩
        case round =>
          obtain ⟨q, hq, rfl, hSq, hKq, hBq, hNq⟩ := hrel
          have hzq := hKq.out.size
          by_cases hlq : q < 3
          · have hpi := fun w => HPX.out q hlq w
            have hnq := HNM.out q
            have hpst : Hid (pre3 fk fi fj (q + 1) = pre3 fk fi fj q ++ beB (n3 fk fi fj q).toNat 1) := Lib.hid (pre3_step fk fi fj hlq)
            have hpl : (pre3 fk fi fj q).length ≤ 3 := by
              have : q = 0 ∨ q = 1 ∨ q = 2 := by omega
              rcases this with rfl | rfl | rfl <;> simp [pre3, beB_len]
            generalize n3 fk fi fj q = nq at *
            go_wp2_with fail
            refine (putb_is _ w1.heap.size _ _ _ hSq.out (by omega) (by simp only [List.length_append]; omega) nq 1 (by omega) (by omega) (by omega)).mono ?_
            rintro e w7 ⟨v7, rfl, s7, k7, n7⟩
            have S7 : Hid (Seg w7 w1.heap.size 5 1 v7 (octH vd ed fs.length ++ octsF (fs.take t) ++ pre3 fk fi fj (q + 1)).length (bv (octH vd ed fs.length ++ octsF (fs.take t) ++ pre3 fk fi fj (q + 1)))) := Lib.hid (by
              rw [hpst.out, ← List.append_assoc, List.length_append, beB_len]
              exact s7)
            have K7 : Hid (Kept No w1 w7) := Lib.hid (hKq.out.trans k7 (fun g hg h => by have := (hSq.out.lt g h).1; omega))
            have B7 : Hid (Box w7 wA.heap.size #[.int .i64 fk, .int .i64 fi, .int .i64 fj, .slice A fm C] 48) := Lib.hid (hBq.out.kept k7 (fun h => hNq.out _ h rfl))
            have N7 : Hid (∀ g, v7.ownBlock = some g → g ≠ wA.heap.size) := Lib.hid (fun g hg => by
              rcases n7 g hg with h | h
              · exact hNq.out g h
              · have := hBq.out.lt; omega)
            clear s7 k7 n7 hpi
            go_wp2_with fail
            go_roundw
            case rel => exact ⟨q + 1, by omega, by go_num, S7, K7, B7, N7⟩
            case measure => simp [intOf]; omega
          · obtain rfl : q = 3 := by omega
            have b3 : wr.cell? ⟨wA.heap.size, 3, none⟩ = some (.slice A fm C) := hBq.out.cell 3
            have hrd := (H1.out.kept hKq.out).pk HF.out
            have hput := Pick.put_is wr (.slice A fm C) fm fzs hrd
            have HPUT := Lib.hid hput
            have hfm := HFL.out
            clear hrd hput
            go_wp2_with fail
            refine HPUT.out.mono ?_
            rintro e w7 ⟨k7, ⟨hbad, -⟩ | ⟨⟨-, hbad⟩, -⟩ | ⟨-, v8, rfl, s8⟩⟩
            · exact absurd hbad (by omega)
            · exact absurd HZS.out hbad
            · have K7 := Lib.hid (hKq.out.trans k7 (fun _ _ f => f))
              have S7 := Lib.hid (hSq.out.kept k7 (fun _ _ f => f))
              have R8 := Lib.hid s8.rd
              have hz7 := K7.out.size
              have hsl7 := Lib.hid S7.out.lt
              clear k7 s8 b3
              obtain ⟨i0, hi, hz0, hz1', hz2'⟩ := info_parts info_byte
              have hll : (octH vd ed fs.length ++ octsF (fs.take t) ++ pre3 fk fi fj 3).length ≤ 100000 := by
                simp only [List.length_append, pre3, List.flatMap_cons, List.flatMap_nil, List.take, beB_len, List.length_nil]
                omega
              go_wp2_with (at_builtin; refine wpList_append_rd rfl _ _ 28 rfl w1.heap.size 5 i0 (.int .u8 0) 1 1 Tryz.underlying28 hi hz0 hz1' hz2' rfl (by decide) _ _ _ rfl S7.out _ _ _ rfl R8.out (Pick.bv_one _) (by unfold maxLen; omega) (by omega) hz7 ?_)
              intro v9 w9 hs9 hg9 hb9
              have K9 : Hid (Kept No w1 w9) := Lib.hid (K7.out.grown hg9 (fun q hq h => by have := (hsl7.out q h).1; omega))
              have S9 : Hid (Seg w9 w1.heap.size 5 1 v9 (octH vd ed fs.length ++ octsF (fs.take (t + 1))).length (bv (octH vd ed fs.length ++ octsF (fs.take (t + 1))))) := Lib.hid (by
                have e1 : octH vd ed fs.length ++ octsF (fs.take (t + 1)) = octH vd ed fs.length ++ octsF (fs.take t) ++ pre3 fk fi fj 3 ++ (beB fm 2 ++ fzs) := by
                  rw [htk.out, octF]
                  simp only [hfm, List.append_assoc]
                have e2 : (beB fm 2 ++ fzs).length = fm + 2 := by rw [List.length_append, beB_len]; omega
                rw [e1, List.length_append, e2, Oct.bv_app (_ ++ _)]
                simp only [List.append_assoc, List.length_append] at hs9 ⊢
                exact hs9)
              clear hs9 hg9 hb9 hi hz0 hz1' hz2'
              go_wp2_with fail
              go_roundw
              case rel => exact ⟨t + 1, by omega, by go_num, S9, K9⟩
              case measure => simp [intOf]; omega
      · obtain rfl : t = n := by omega
        have hfin : Hid (octH vd ed fs.length ++ octsF (fs.take t) = octR vd ed fs) := Lib.hid (by rw [List.take_of_length_le (by have := HN.out; omega)]; rfl)
        have hSf := hS.out
        rw [hfin.out] at hSf
        have HSF := Lib.hid (hSf.mono (by have := HK1.out.size; exact this))
        have HKF := Lib.hid (HK1.out.trans hK.out (fun _ _ f => f))
        clear hS hSf hK
        go_wp2_with fail
        go_ret2
        exact ⟨HKF.out, .inr ⟨HOK.out, _, rfl, HSF.out⟩⟩
end Go.Proofs.YtaffaliplmfagaaGreatDoor.Line
