/-
  paper.Parse.
-/
import Derived.Test.YtaffaliplmfagaaGreatDoorPap18
import Derived.Test.YtaffaliplmfagaaGreatDoorPap8
import Derived.BigQuiet
set_option linter.unusedVariables false
set_option linter.unusedSimpArgs false
namespace Go.Proofs.YtaffaliplmfagaaGreatDoor.Line
open Go.RowKit Go.Sort Go.Proofs.YtaffaliplmfagaaGreatDoor.Own Go.Proofs.YtaffaliplmfagaaGreatDoor.Conv Go.Proofs.YtaffaliplmfagaaGreatDoor.Calm

theorem results_row_t2 {P : Program} {fn : Func} {p u u2 : Tmp} {ty : TypeId} (h : fn.results = #[.cell p ty, .tmp u, .tmp u2]) (tmps : Array Value) (w : World) (g : Nat) (t : TypeId) (cs : Array Value) (fr : Nat × Nat) (d : TypeDesc)
    (hp : tmps.getD p undef = .pointer (some ⟨g, 0, none⟩)) (hg : w.heap[g]? = some (.cells cs t fr))
    (hu : P.underlying ty = some d) (hd : (match d with | .struct _ | .array _ _ => true | _ => false) = true) (hi : (P.info? ty).map (·.size) = some cs.size) :
    (results fn tmps).run P w = .ok (.tuple #[.agg cs, tmps.getD u undef, tmps.getD u2 undef]) w := by
  have hp' : tmps[p]?.getD undef = .pointer (some ⟨g, 0, none⟩) := by simpa using hp
  simp [results, h, hp', asAddr, run_loadVar_row w g t ty cs fr d hg hu hd hi]
/-- What Parse answers. -/
def ParP (l : List UInt8) (w : World) (e : Ending) (w' : World) : Prop :=
  Kept No w w' ∧ ((∃ (n : Nat) (er : Int), e = .returned (.tuple #[.agg #[.int .i64 0, .int .i64 0, .slice none 0 0], .int .i64 n, .int .i64 er]) ∧ ((er = 1 ∧ n ≤ (linesL l).length) ∨ (er = 3 ∧ n = 0))) ∨
    ∃ (vd ed : Int) (A : Option Addr) (C : Nat) (fs : List FoundI), e = .returned (.tuple #[.agg #[.int .i64 vd, .int .i64 ed, .slice A fs.length C], .int .i64 (linesL l).length, .int .i64 0]) ∧ FR w' (.slice A fs.length C) fs ∧ okR vd ed fs = true ∧ textR vd ed fs = l ∧ SmR fs)
theorem key_ne {l : List UInt8} (h : (parseL l).isSome = true) : l ≠ [] := by
  intro e
  subst e
  exact absurd h (by decide +kernel)
theorem take_two {xs : List (List UInt8)} {t : Nat} {p q : List UInt8} (hp : xs[t]? = some p) (hq : xs[t + 1]? = some q) (h : 2 * t ≤ sumS (xs.take t)) (h1 : p ≠ []) (h2 : q ≠ []) : 2 * (t + 2) ≤ sumS (xs.take (t + 2)) := by
  have e : xs.take (t + 2) = xs.take t ++ [p] ++ [q] := by
    rw [show t + 2 = t + 1 + 1 by omega, List.take_add_one, List.take_add_one, hp, hq]
    rfl
  rw [e, sumS_app, sumS_app]
  have a1 : p.length ≠ 0 := fun e => h1 (List.length_eq_zero_iff.1 e)
  have a2 : q.length ≠ 0 := fun e => h2 (List.length_eq_zero_iff.1 e)
  simp only [sumS, List.map_cons, List.map_nil, List.sum_cons, List.sum_nil] at h ⊢
  omega
theorem take_one' {xs : List (List UInt8)} {p : List UInt8} (hp : xs[0]? = some p) (h1 : p ≠ []) : 2 * 1 ≤ sumS (xs.take 1) := by
  have e : xs.take 1 = [p] := by
    rw [show 1 = 0 + 1 by omega, List.take_add_one, hp]
    rfl
  have a1 : p.length ≠ 0 := fun e => h1 (List.length_eq_zero_iff.1 e)
  rw [e]
  simp only [sumS, List.map_cons, List.map_nil, List.sum_cons, List.sum_nil]
  omega
theorem line_le {l p : List UInt8} (h : p ∈ linesL l) : p.length ≤ l.length := by
  have h1 := mem_sum h
  have h2 := lines_sum l
  omega

set_option maxRecDepth 100000 in
set_option maxHeartbeats 8000000 in
theorem paperparse_is (l : List UInt8) (hl : l.length ≤ 400) (w : World) (hT : Door.Tabs w) :
    Calls Tryz.prog 11 #[.string ⟨l.toArray⟩] w (ParP l w) := by
  obtain ⟨i0, hi, hz0, hz1, hz2⟩ : ∃ i0, Tryz.prog.info? 48 = some i0 ∧ i0.zero = some (.agg #[.int .i64 0, .int .i64 0, .int .i64 0, .slice none 0 0]) ∧ i0.size = 4 ∧ i0.bytes = 48 := info_parts info_found
  have hW := split_is l (by omega)
  obtain ⟨s0, hs0⟩ : ∃ s : ByteArray, (⟨l.toArray⟩ : ByteArray) = s := ⟨_, rfl⟩
  rw [hs0] at hW ⊢
  have HS0 := Lib.hid hs0
  have HW := Lib.hid hW
  have HT := Lib.hid hT
  have hb0 := Box.new w #[.int .i64 0, .int .i64 0, .slice none 0 0] 24
  have hk0 := (Kept.refl No w).alloc (.cells #[.int .i64 0, .int .i64 0, .slice none 0 0] 24)
  clear hW hT hs0
  go_enter Tryz.func11, Tryz.ntmps11
  go_upto_region 1 with fail
  generalize w.alloc (.cells #[.int .i64 0, .int .i64 0, .slice none 0 0] 24) = w0 at *
  go_wp2_with fail
  refine (HW.out w0).mono ?_
  rintro e w1 ⟨k1, v, rfl, hseg⟩
  have hb1 := hb0.kept k1 id
  have hk1 := hk0.trans k1 (fun _ _ f => f)
  have hblt := hb1.lt
  clear k1 hb0 hk0 HW
  obtain ⟨n, hn⟩ : ∃ n, (linesL l).length = n := ⟨_, rfl⟩
  rw [hn] at hseg
  obtain ⟨-, ao, cw, rfl, hc, hm, -, hR⟩ := hseg.rd
  unfold maxLen at hm
  have HN := Lib.hid hn
  have HSG := Lib.hid hseg
  have HB1 := Lib.hid hb1
  have HK1 := Lib.hid hk1
  have hn401 : n ≤ 401 := by
    have h1 := lines_sum l
    have h2 : ∀ xs : List (List UInt8), xs.length ≤ sumS xs := fun xs => by
      induction xs with
      | nil => simp
      | cons x xs ih => simp only [sumS, List.map_cons, List.sum_cons, List.length_cons] at ih ⊢; omega
    have := h2 (linesL l)
    omega
  clear hn hseg hb1 hk1
  by_cases h0 : n = 0
  · subst h0
    clear hR
    go_wp2_with (refine wpList_store_rowTo rfl 24 _ _ rfl rfl w.heap.size #[.int .i64 0, .int .i64 0, .slice none 0 0] (by kernel_rfl) (by kernel_rfl) 24 _ HB1.out (by kernel_rfl) (by kernel_rfl) (by kernel_rfl) ?_)
    refine bodyPost_ret (results_row_t2 rfl _ _ w.heap.size 24 #[.int .i64 0, .int .i64 0, .slice none 0 0] (0, 0) _ rfl HB1.out.row Tryz.underlying24 rfl (by kernel_rfl)) rfl ?_
    exact ⟨row_kept HK1.out (Nat.le_refl _) _, .inl ⟨0, 1, rfl, .inl ⟨rfl, by omega⟩⟩⟩
  · obtain ⟨g, o, rfl, hg, hcell⟩ := hR (by omega)
    obtain ⟨p, hp⟩ : ∃ p, (linesL l)[0]? = some p := ⟨_, List.getElem?_eq_getElem (by have := HN.out; omega)⟩
    have hpl : p.length ≤ 400 := by have := line_le (List.mem_of_getElem? hp); omega
    obtain ⟨sp, hsp⟩ : ∃ s : ByteArray, (⟨p.toArray⟩ : ByteArray) = s := ⟨_, rfl⟩
    have x0 : w1.cell? ⟨g, o, none⟩ = some (.string sp) := by have := hcell 0 (.string ⟨p.toArray⟩) (by rw [sv, List.getElem?_map, hp]; rfl); rw [hsp] at this; exact this
    have hn0 : ((n : Int) == 0) = false := by rw [beq_eq_false_iff_ne]; omega
    have hn1 : 1 ≤ n := by omega
    have HH := Lib.hid (head_is p (by omega) w1 (HT.out.kept HK1.out))
    rw [hsp] at HH
    have HP := Lib.hid hp
    clear hcell hR hp hsp h0
    go_wp2_with fail
    refine HH.out.mono ?_
    rintro e w4 ⟨k4, vd, ed, ok, rfl, hpn⟩
    have hb4 := HB1.out.kept k4 id
    have hk4 := HK1.out.trans k4 (fun _ _ f => f)
    have hsz4 := k4.size
    have HPN := Lib.hid hpn
    have hs4 := HSG.out.kept k4 (fun _ _ f => f)
    clear x0 hg k4 HH hpn
    go_upto_region 5 with fail
    have hbr := Box.new w4 #[.int .i64 vd, .int .i64 ed, .slice none 0 0] 24
    have hb5 := hb4.alloc (.cells #[.int .i64 vd, .int .i64 ed, .slice none 0 0] 24)
    have hk45 := (Kept.refl No w4).alloc (.cells #[.int .i64 vd, .int .i64 ed, .slice none 0 0] 24)
    have hk5 := hk4.trans hk45 (fun _ _ f => f)
    have hs5 := hs4.kept hk45 (fun _ _ f => f)
    have hrlt := hbr.lt
    generalize w4.alloc (.cells #[.int .i64 vd, .int .i64 ed, .slice none 0 0] 24) = w5 at *
    generalize w4.heap.size = rb at *
    have hZr : w.heap.size < rb := by omega
    have hsl : ∀ q, (Value.slice (some ⟨g, o, none⟩) n cw).ownBlock = some q → q < rb := fun q hq => by have := (HSG.out.lt q hq).2; omega
    have HB5 := Lib.hid hb5
    have HK5 := Lib.hid hk5
    have HS5 := Lib.hid hs5
    have HBR := Lib.hid hbr
    have HSL := Lib.hid hsl
    clear hb4 hk4 hs4 hb5 hk45 hk5 hs5 hbr hsl HB1 HK1 HSG
    cases ok with
    | false =>
      go_wp2_with (refine wpList_store_rowTo rfl 24 _ _ rfl rfl w.heap.size #[.int .i64 0, .int .i64 0, .slice none 0 0] (by kernel_rfl) (by kernel_rfl) 24 _ HB5.out (by kernel_rfl) (by kernel_rfl) (by kernel_rfl) ?_)
      refine bodyPost_ret (results_row_t2 rfl _ _ w.heap.size 24 #[.int .i64 0, .int .i64 0, .slice none 0 0] (0, 0) _ rfl HB5.out.row Tryz.underlying24 rfl (by kernel_rfl)) rfl ?_
      exact ⟨row_kept HK5.out (Nat.le_refl _) _, .inl ⟨0, 1, rfl, .inl ⟨rfl, by omega⟩⟩⟩
    | true =>
      have hsum : Hid (2 * 1 ≤ sumS ((linesL l).take 1)) := Lib.hid (take_one' HP.out (HPN.out rfl))
      clear HP HPN
      go_wp2_with fail
      go_loopw [8] (fun i wr => ∃ (t : Nat) (fs : List FoundI) (fv : Value), t ≤ n ∧ i = .int .i64 t ∧ Hid (t = 2 * fs.length + 1) ∧ Hid (2 * t ≤ sumS ((linesL l).take t)) ∧ Box wr rb #[.int .i64 vd, .int .i64 ed, fv] 24 ∧ Hid (Seg wr w5.heap.size 48 4 fv fs.length (foundV fs)) ∧ Hid (∀ f ∈ fs, Seg wr w5.heap.size 3 1 f.v f.n (vals f.zs) ∧ f.zs.length ≤ 400) ∧ Kept (Only rb) w5 wr) (fun i _ => n - (intOf i).toNat)
      case atStart => exact ⟨1, [], _, hn1, rfl, Lib.hid rfl, hsum, HBR.out, Lib.hid (Seg.nil _ _ _ _), Lib.hid (fun f hf => by simp at hf), Kept.refl _ _⟩
      case round =>
        clear hsum HBR
        obtain ⟨t, fs, fv, ht, rfl, htf, hsum, hbr, hseg, hrow, hK⟩ := hrel
        have hZ := HB5.out.kept hK (fun e => by have : w.heap.size = rb := e; omega)
        have hKw := HK5.out.trans hK (fun q hq e => by have : q = rb := e; omega)
        have HZ := Lib.hid hZ
        have HKW := Lib.hid hKw
        have HTW := Lib.hid (HT.out.kept hKw)
        have hsr := HS5.out.kept hK (fun q hq e => by have h1 := HSL.out q hq; have h2 : q = rb := e; omega)
        have hszw := hK.size
        clear hZ hKw
        by_cases hlt : t < n
        · obtain ⟨-, ao', cw', hv, -, -, -, hR⟩ := hsr.rd
          rw [Value.slice.injEq] at hv
          obtain ⟨rfl, -, rfl⟩ := hv
          obtain ⟨g', o', hgo, hg, hcell⟩ := hR (by omega)
          simp only [Option.some.injEq, Addr.mk.injEq, and_true] at hgo
          obtain ⟨rfl, rfl⟩ := hgo
          obtain ⟨p, hp⟩ : ∃ p, (linesL l)[t]? = some p := ⟨_, List.getElem?_eq_getElem (by have := HN.out; omega)⟩
          have hpl : p.length ≤ 400 := by have := line_le (List.mem_of_getElem? hp); omega
          obtain ⟨sp, hsp⟩ : ∃ s : ByteArray, (⟨p.toArray⟩ : ByteArray) = s := ⟨_, rfl⟩
          have x0 : wr.cell? ⟨g, o + t, none⟩ = some (.string sp) := by rw [← hsp]; exact hcell t _ (by rw [sv, List.getElem?_map, hp]; rfl)
          have hpi := parse_is p (by omega) wr HTW.out
          obtain ⟨kk, hkk⟩ : ∃ x, (parseL p).getD (0, 0, 0) = x := ⟨_, rfl⟩
          obtain ⟨ok, hok⟩ : ∃ x, (parseL p).isSome = x := ⟨_, rfl⟩
          rw [hkk, hok, hsp] at hpi
          obtain ⟨fk, fi, fj⟩ := kk
          have HPI := Lib.hid hpi
          have HP := Lib.hid hp
          have HOK := Lib.hid hok
          have HC := Lib.hid hcell
          have HG := Lib.hid hg
          have HBR := Lib.hid hbr
          have HKR := Lib.hid hK
          have it : (t : Int) < (n : Int) := by omega
          clear hR hcell hg hp hsp hpi hkk hok hbr hK hsr
          go_wp2_with fail
          refine HPI.out.mono ?_
          rintro e w6 ⟨rfl, k6⟩
          have HZ6 := Lib.hid (HZ.out.kept k6 id)
          have HKW6 := Lib.hid (HKW.out.trans k6 (fun _ _ f => f))
          have HK6 := Lib.hid k6
          have HSZ6 := Lib.hid k6.size
          clear x0 k6 HPI HZ HTW
          go_upto_region 11 with fail
          have hkb := Box.new w6 #[.int .i64 fk, .int .i64 fi, .int .i64 fj] 45
          have hka := (Kept.refl No w6).alloc (.cells #[.int .i64 fk, .int .i64 fi, .int .i64 fj] 45)
          have hk67 := HK6.out.trans hka (fun _ _ f => f)
          have HZ7 := Lib.hid (HZ6.out.kept hka id)
          have HKW7 := Lib.hid (HKW6.out.trans hka (fun _ _ f => f))
          have hkl := hkb.lt
          generalize w6.alloc (.cells #[.int .i64 fk, .int .i64 fi, .int .i64 fj] 45) = w7 at *
          have hk6r : wr.heap.size ≤ w6.heap.size := HSZ6.out
          generalize w6.heap.size = kb at *
          have HKB := Lib.hid hkb
          have HK7 := Lib.hid hk67
          clear hkb hka hk67 HZ6 HKW6 HK6 HSZ6
          cases ok with
          | false =>
            go_wp2_with (refine wpList_store_rowTo rfl 24 _ _ rfl rfl w.heap.size #[.int .i64 0, .int .i64 0, .slice none 0 0] (by kernel_rfl) (by kernel_rfl) 24 _ HZ7.out (by kernel_rfl) (by kernel_rfl) (by kernel_rfl) ?_)
            refine bodyPost_ret (results_row_t2 rfl _ _ w.heap.size 24 #[.int .i64 0, .int .i64 0, .slice none 0 0] (0, 0) _ rfl HZ7.out.row Tryz.underlying24 rfl (by kernel_rfl)) rfl ?_
            exact ⟨row_kept HKW7.out (Nat.le_refl _) _, .inl ⟨t, 1, rfl, .inl ⟨rfl, by rw [HN.out]; omega⟩⟩⟩
          | true =>
            by_cases hlast : t + 1 = n
            · have ie : ((t : Int) + 1 == n) = true := by rw [beq_iff_eq]; omega
              have HLE := Lib.hid (Nat.le_of_eq hlast)
              clear hlast
              go_wp2_with (refine wpList_store_rowTo rfl 24 _ _ rfl rfl w.heap.size #[.int .i64 0, .int .i64 0, .slice none 0 0] (by kernel_rfl) (by kernel_rfl) 24 _ HZ7.out (by kernel_rfl) (by kernel_rfl) (by kernel_rfl) ?_)
              refine bodyPost_ret (results_row_t2 rfl _ _ w.heap.size 24 #[.int .i64 0, .int .i64 0, .slice none 0 0] (0, 0) _ rfl HZ7.out.row Tryz.underlying24 rfl (by kernel_rfl)) rfl ?_
              exact ⟨row_kept HKW7.out (Nat.le_refl _) _, .inl ⟨t + 1, 1, rfl, .inl ⟨rfl, by rw [HN.out]; exact HLE.out⟩⟩⟩
            · have ie : ((t : Int) + 1 == n) = false := by rw [beq_eq_false_iff_ne]; omega
              have ht2 : t + 2 ≤ n := by omega
              obtain ⟨p2, hp2⟩ : ∃ p, (linesL l)[t + 1]? = some p := ⟨_, List.getElem?_eq_getElem (by have := HN.out; omega)⟩
              have hpl2 : p2.length ≤ 400 := by have := line_le (List.mem_of_getElem? hp2); omega
              obtain ⟨sq, hsq⟩ : ∃ s : ByteArray, (⟨p2.toArray⟩ : ByteArray) = s := ⟨_, rfl⟩
              have x1 : w7.cell? ⟨g, o + (t + 1), none⟩ = some (.string sq) := (HK7.out.cell (p := ⟨g, o + (t + 1), none⟩) HG.out id).trans (by rw [← hsq]; exact HC.out (t + 1) _ (by rw [sv, List.getElem?_map, hp2]; rfl))
              have HPK := Lib.hid (ppicks_is p2 (by omega) w7 (HT.out.kept HKW7.out))
              rw [hsq] at HPK
              have HP2 := Lib.hid hp2
              have it2 : (t : Int) + 1 < (n : Int) := by omega
              clear hlast hp2 hsq
              go_wp2_with fail
              refine HPK.out.mono ?_
              rintro e w8 ⟨k8, v8, ok2, rfl, hpk8⟩
              have HZ8 := Lib.hid (HZ7.out.kept k8 id)
              have HKW8 := Lib.hid (HKW7.out.trans k8 (fun _ _ f => f))
              have HKB8 := Lib.hid (HKB.out.kept k8 id)
              have HK8 := Lib.hid (HK7.out.trans k8 (fun _ _ f => f))
              have HPP := Lib.hid hpk8
              have hs78 := k8.size
              clear x1 k8 HPK HZ7 HKW7 HKB HK7 hpk8
              cases ok2 with
              | false =>
                go_wp2_with (refine wpList_store_rowTo rfl 24 _ _ rfl rfl w.heap.size #[.int .i64 0, .int .i64 0, .slice none 0 0] (by kernel_rfl) (by kernel_rfl) 24 _ HZ8.out (by kernel_rfl) (by kernel_rfl) (by kernel_rfl) ?_)
                refine bodyPost_ret (results_row_t2 rfl _ _ w.heap.size 24 #[.int .i64 0, .int .i64 0, .slice none 0 0] (0, 0) _ rfl HZ8.out.row Tryz.underlying24 rfl (by kernel_rfl)) rfl ?_
                exact ⟨row_kept HKW8.out (Nat.le_refl _) _, .inl ⟨t + 1, 1, rfl, .inl ⟨rfl, by rw [HN.out]; omega⟩⟩⟩
              | true =>
                obtain ⟨hne2, zn, zs, hzn, hsz8⟩ := HPP.out rfl
                obtain ⟨-, A, C, rfl, -, -, -, -⟩ := id hsz8.rd
                have hzl : zs.length = zn := by have := hsz8.rd.len; rw [vals_len] at this; omega
                have hsum2 := Lib.hid (take_two HP.out HP2.out hsum.out (key_ne HOK.out) hne2)
                have hbr8 := HBR.out.kept HK8.out id
                have hkb8 := HKB8.out
                have hseg8 := hseg.out.kept HK8.out (fun _ _ f => f)
                have r2 : w8.cell? ⟨rb, 2, none⟩ = some fv := hbr8.cell 2
                have y0 : w8.cell? ⟨kb, 0, none⟩ = some (.int .i64 fk) := hkb8.cell 0
                have y1 : w8.cell? ⟨kb, 1, none⟩ = some (.int .i64 fi) := hkb8.cell 1
                have y2 : w8.cell? ⟨kb, 2, none⟩ = some (.int .i64 fj) := hkb8.cell 2
                have hfl : fs.length ≤ 401 := by have := htf.out; omega
                have hsw8 : w5.heap.size ≤ w8.heap.size := by omega
                have HZS := Lib.hid (hsz8.mono (B' := w5.heap.size) (by omega))
                have HZL : Hid (zs.length ≤ 400) := Lib.hid (by omega)
                have HKR8 := Lib.hid (HKR.out.trans HK8.out (fun _ _ f => f.elim))
                have HROW : Hid (∀ f ∈ fs, Seg w8 w5.heap.size 3 1 f.v f.n (vals f.zs) ∧ f.zs.length ≤ 400) := Lib.hid (fun f hf => ⟨(hrow.out f hf).1.kept HK8.out (fun _ _ f => f), (hrow.out f hf).2⟩)
                have HS8 := Lib.hid hseg8
                have HBR8 := Lib.hid hbr8
                have HZNL := Lib.hid hzl
                have HSEG := Lib.hid (hseg8.kept ((Kept.refl No w8).alloc (.cells #[.int .i64 fk, .int .i64 fi, .int .i64 fj, .slice A zn C] 48)) (fun _ _ => id))
                have hcn := cells_new w8 #[.int .i64 fk, .int .i64 fi, .int .i64 fj, .slice A zn C] 48
                have HCN := Lib.hid hcn
                have H16 : Hid (w5.heap.size ≤ (w8.alloc (.cells #[.int .i64 fk, .int .i64 fi, .int .i64 fj, .slice A zn C] 48)).heap.size) := Lib.hid (by rw [World.size_alloc]; omega)
                clear hne2 hzn hsz8 hbr8 hkb8 hseg8 hcn hzl HPP HP HP2 hsum HBR HK8 hseg hrow HKR HOK
                go_wp2_with (at_builtin; refine wpList_append_seg rfl _ _ 22 rfl w5.heap.size 48 i0 _ 4 48 Tryz.underlying22 hi hz0 hz1 hz2 rfl (by decide) _ _ _ rfl HSEG.out ⟨_, 0, none⟩ 1 1 [.int .i64 fk, .int .i64 fi, .int .i64 fj, .slice A zn C] rfl rfl HCN.out (by intro u hu; simp only [List.mem_cons, List.not_mem_nil, or_false] at hu; rcases hu with rfl | rfl | rfl | rfl <;> rfl) (by unfold maxLen; omega) (by omega) H16.out ?_)
                intro v9 w9 hs9 hg9 hb9
                obtain ⟨-, A9, C9, rfl, -, -, -, -⟩ := id hs9.rd
                have hkA : Kept (fun q => fv.ownBlock = some q) w8 w9 := ((Kept.refl _ w8).alloc _).grown hg9 (fun q _ h => h)
                have hrb : ¬ fv.ownBlock = some rb := fun e => by have := (HS8.out.lt _ e).1; omega
                have hbr9 := HBR8.out.kept hkA hrb
                have z2 : w9.cell? ⟨rb, 2, none⟩ = some fv := hbr9.cell 2
                have z3 : w9.frozen? ⟨rb, 2, none⟩ = false := hbr9.frozen 2
                have hks : Kept (Only rb) w9 (w9.setCell ⟨rb, 2, none⟩ (.slice A9 (fs.length + 1) C9)) := (Kept.refl _ w9).setCell (p := ⟨rb, 2, none⟩) (fun _ => by exact rfl) _
                have HBN := Lib.hid (bset hbr9 2 (.slice A9 (fs.length + 1) C9))
                have HKN : Hid (Kept (Only rb) w5 (w9.setCell ⟨rb, 2, none⟩ (.slice A9 (fs.length + 1) C9))) := Lib.hid ((HKR8.out.trans hkA (fun q hq e => by have := (HS8.out.lt _ e).1; omega)).trans hks (fun _ _ f => f))
                have HSN : Hid (Seg (w9.setCell ⟨rb, 2, none⟩ (.slice A9 (fs.length + 1) C9)) w5.heap.size 48 4 (.slice A9 (fs.length + 1) C9) (fs.length + 1) (foundV (fs ++ [⟨fk, fi, fj, .slice A zn C, zn, zs⟩]))) := Lib.hid (by
                  rw [foundV_app]
                  exact hs9.kept hks (fun q hq e => by have h1 := (hs9.lt q hq).1; have h2 : q = rb := e; omega))
                have hone : ∀ (vv : Value) (nn : Nat) (zz : List Int), Seg w8 w5.heap.size 3 1 vv nn (vals zz) → Seg (w9.setCell ⟨rb, 2, none⟩ (.slice A9 (fs.length + 1) C9)) w5.heap.size 3 1 vv nn (vals zz) := fun vv nn zz h => (h.kept hkA (fun q hq e => seg_ne h HS8.out (by decide) q hq e)).kept hks (fun q hq e => by have h1 := (h.lt q hq).1; have h2 : q = rb := e; omega)
                have HRN : Hid (∀ f ∈ fs ++ [(⟨fk, fi, fj, .slice A zn C, zn, zs⟩ : FoundI)], Seg (w9.setCell ⟨rb, 2, none⟩ (.slice A9 (fs.length + 1) C9)) w5.heap.size 3 1 f.v f.n (vals f.zs) ∧ f.zs.length ≤ 400) := Lib.hid (fun f hf => by
                  rcases List.mem_append.1 hf with h | h
                  · exact ⟨hone _ _ _ (HROW.out f h).1, (HROW.out f h).2⟩
                  · rw [List.mem_singleton] at h
                    subst h
                    exact ⟨hone _ _ _ HZS.out, HZL.out⟩)
                have HTN : Hid (t + 2 = 2 * (fs ++ [(⟨fk, fi, fj, .slice A zn C, zn, zs⟩ : FoundI)]).length + 1) := Lib.hid (by rw [List.length_append, htf.out, List.length_singleton]; omega)
                have HLN : Hid ((fs ++ [(⟨fk, fi, fj, .slice A zn C, zn, zs⟩ : FoundI)]).length = fs.length + 1) := Lib.hid (by rw [List.length_append]; rfl)
                clear hkA hrb hbr9 hks hs9 hg9 hb9 hone HSEG HCN H16 HS8 HBR8 HROW HZS HKR8 r2 y0 y1 y2 htf
                go_wp2_with fail
                go_roundw
                case rel => exact ⟨t + 2, _, _, by omega, by go_num, HTN, hsum2, HBN.out, Lib.hid (by rw [HLN.out]; exact HSN.out), HRN, HKN.out⟩
                case measure => simp [intOf]; omega
        · obtain rfl : t = n := by omega
          obtain ⟨-, A, C, rfl, -, -, -, -⟩ := id hseg.out.rd
          have hsm : SmR fs := ⟨by have h1 := hsum.out; have h2 := take_sum (linesL l) t; have h3 := lines_sum l; have h4 := htf.out; omega, fun j f hf => (hrow.out f (List.mem_of_getElem? hf)).2⟩
          have hfr : FR wr (.slice A fs.length C) fs := ⟨hseg.out.rd, fun f hf => (hrow.out f hf).1.rd⟩
          have hkf : ∀ w', Kept (Only w.heap.size) wr w' → FR w' (.slice A fs.length C) fs := fun w' hk => ⟨(hseg.out.kept hk (fun q hq e => by have h1 := (hseg.out.lt q hq).1; have h2 : q = w.heap.size := e; omega)).rd, fun f hf => ((hrow.out f hf).1.kept hk (fun q hq e => by have h1 := ((hrow.out f hf).1.lt q hq).1; have h2 : q = w.heap.size := e; omega)).rd⟩
          have HKF := Lib.hid hkf
          have HSM := Lib.hid hsm
          obtain ⟨q, hq⟩ : ∃ q, fs.length = q := ⟨_, rfl⟩
          have HQ := Lib.hid hq
          rw [hq] at hfr hbr HKF
          have HBR := Lib.hid hbr
          have r0 : wr.cell? ⟨rb, 0, none⟩ = some (.int .i64 vd) := hbr.cell 0
          have r1 : wr.cell? ⟨rb, 1, none⟩ = some (.int .i64 ed) := hbr.cell 1
          have r2 : wr.cell? ⟨rb, 2, none⟩ = some (.slice A q C) := hbr.cell 2
          have HTX := Lib.hid (papertext_is vd ed A q C fs wr HTW.out hfr hsm)
          clear hsm hfr hkf hq hbr hsr hseg hrow hsum htf HTW
          go_wp2_with fail
          refine HTX.out.mono ?_
          rintro e w8 ⟨k8, ⟨hok, rfl⟩ | ⟨hok, rfl⟩⟩
          · have HZ8 := Lib.hid (HZ.out.kept k8 id)
            have HKW8 := Lib.hid (HKW.out.trans k8 (fun _ _ f => f))
            clear r0 r1 r2 k8 hok HTX HZ HKW
            go_wp2_with (refine wpList_store_rowTo rfl 24 _ _ rfl rfl w.heap.size #[.int .i64 0, .int .i64 0, .slice none 0 0] (by kernel_rfl) (by kernel_rfl) 24 _ HZ8.out (by kernel_rfl) (by kernel_rfl) (by kernel_rfl) ?_)
            refine bodyPost_ret (results_row_t2 rfl _ _ w.heap.size 24 #[.int .i64 0, .int .i64 0, .slice none 0 0] (0, 0) _ rfl HZ8.out.row Tryz.underlying24 rfl (by kernel_rfl)) rfl ?_
            exact ⟨row_kept HKW8.out (Nat.le_refl _) _, .inl ⟨0, 3, rfl, .inr ⟨rfl, rfl⟩⟩⟩
          · obtain ⟨st, hst⟩ : ∃ x : ByteArray, (⟨(textR vd ed fs).toArray⟩ : ByteArray) = x := ⟨_, rfl⟩
            rw [hst]
            have HZ8 := Lib.hid (HZ.out.kept k8 id)
            have HKW8 := Lib.hid (HKW.out.trans k8 (fun _ _ f => f))
            have hbr8 := HBR.out.kept k8 id
            have r0 : w8.cell? ⟨rb, 0, none⟩ = some (.int .i64 vd) := hbr8.cell 0
            have r1 : w8.cell? ⟨rb, 1, none⟩ = some (.int .i64 ed) := hbr8.cell 1
            have r2 : w8.cell? ⟨rb, 2, none⟩ = some (.slice A q C) := hbr8.cell 2
            have HK8 := Lib.hid k8
            have HST := Lib.hid hst
            have HOK := Lib.hid hok
            clear k8 hok hst hbr8 HBR HTX HZ HKW
            by_cases hs : st = s0
            · subst hs
              have hcmp : (st.toList == st.toList) = true := by simp
              have HTL : Hid (textR vd ed fs = l) := Lib.hid (mk_inj (HST.out.trans HS0.out.symm))
              have hrow : Kept (Only w.heap.size) w8 (w8.setRow w.heap.size #[.int .i64 vd, .int .i64 ed, .slice A q C]) := row_only _ _ _
              have HFE := Lib.hid (HKF.out _ ((HK8.out.mono (fun _ _ f => f.elim)).trans hrow (fun _ _ f => f)))
              clear hrow
              go_wp2_with (refine wpList_store_rowTo rfl 24 _ _ rfl rfl w.heap.size #[.int .i64 vd, .int .i64 ed, .slice A q C] (by kernel_rfl) (by kernel_rfl) 24 _ HZ8.out (by kernel_rfl) (by kernel_rfl) (by kernel_rfl) ?_)
              refine bodyPost_ret (results_row_t2 rfl _ _ w.heap.size 24 #[.int .i64 vd, .int .i64 ed, .slice A q C] (0, 0) _ rfl HZ8.out.row Tryz.underlying24 rfl (by kernel_rfl)) rfl ?_
              exact ⟨row_kept HKW8.out (Nat.le_refl _) _, .inr ⟨vd, ed, A, C, fs, by rw [HN.out, HQ.out]; rfl, by rw [HQ.out]; exact HFE.out, HOK.out, HTL.out, HSM.out⟩⟩
            · have hcmp : (st.toList == s0.toList) = false := by
                rw [beq_eq_false_iff_ne]
                intro e
                rw [ByteArray.toList_eq, ByteArray.toList_eq] at e
                exact hs (ByteArray.ext (Array.toList_inj.1 e))
              clear hs r0 r1 r2
              go_wp2_with (refine wpList_store_rowTo rfl 24 _ _ rfl rfl w.heap.size #[.int .i64 0, .int .i64 0, .slice none 0 0] (by kernel_rfl) (by kernel_rfl) 24 _ HZ8.out (by kernel_rfl) (by kernel_rfl) (by kernel_rfl) ?_)
              refine bodyPost_ret (results_row_t2 rfl _ _ w.heap.size 24 #[.int .i64 0, .int .i64 0, .slice none 0 0] (0, 0) _ rfl HZ8.out.row Tryz.underlying24 rfl (by kernel_rfl)) rfl ?_
              exact ⟨row_kept HKW8.out (Nat.le_refl _) _, .inl ⟨t, 1, rfl, .inl ⟨rfl, by rw [HN.out]; exact Nat.le_refl _⟩⟩⟩
end Go.Proofs.YtaffaliplmfagaaGreatDoor.Line
