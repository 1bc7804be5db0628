/-
  asm.Instr.
-/
import Derived.Test.YtjpddfnkamahfaaDoorAsmLaw
import Derived.Test.YtjpddfnkamahfaaDoorNumB
import Derived.Test.YtjpddfnkamahfaaDoorWords2
import Derived.Test.YtjpddfnkamahfaaDoorRow
import Derived.Test.YtjpddfnkamahfaaDoorDynS
import Derived.BigQuiet
import Derived.Lib.OthersKept
set_option linter.unusedVariables false
set_option linter.unusedSimpArgs false
namespace Go.Proofs.YtjpddfnkamahfaaDoor.Line
open Go.RowKit Go.Sort Go.Proofs.YtjpddfnkamahfaaDoor.Own Go.Proofs.YtjpddfnkamahfaaDoor.Conv Go.Proofs.YtjpddfnkamahfaaDoor.Calm

theorem results_row_tmp {P : Program} {fn : Func} {p u : Tmp} {ty : TypeId} (h : fn.results = #[.cell p ty, .tmp u]) (tmps : Array Value) (w : World) (g : Nat) (t : TypeId) (cs : Array Value) (fr : Nat × Nat) (d : TypeDesc)
    (hp : tmps.getD p undef = .pointer (some ⟨g, 0, none⟩)) (hg : w.heap[g]? = some (.cells cs t fr))
    (hu : P.underlying ty = some d) (hd : (match d with | .struct _ | .array _ _ => true | _ => false) = true) (hi : (P.info? ty).map (·.size) = some cs.size) :
    (results fn tmps).run P w = .ok (.tuple #[.agg cs, tmps.getD u undef]) w := by
  have hp' : tmps[p]?.getD undef = .pointer (some ⟨g, 0, none⟩) := by simpa using hp
  simp [results, h, hp', asAddr, run_loadVar_row w g t ty cs fr d hg hu hd hi]

theorem pieces_le (c : UInt8) : ∀ (l : List UInt8), ∀ p ∈ pieces c l, p.length ≤ l.length
  | [], p, h => by simp [pieces] at h; simp [h]
  | b :: r, p, h => by
    have ih := pieces_le c r
    unfold pieces at h
    split at h
    · rcases List.mem_cons.1 h with rfl | h
      · simp
      · have := ih p h; simp; omega
    · split at h
      · rw [List.mem_singleton.1 h]; simp
      · rename_i q ps e
        rw [e] at ih
        rcases List.mem_cons.1 h with rfl | h
        · have := ih q (by simp); simp; omega
        · have := ih p (by simp [h]); simp; omega
theorem words_le {l p : List UInt8} (h : p ∈ wordsL l) : p.length ≤ l.length := pieces_le 32 l p (List.mem_filter.1 h).1
theorem drew_kept {S : Nat → Prop} {w w1 : World} (h : Kept S w w1) : Kept S w.drew w1 := ⟨h.os, h.tape, h.output, h.size, h.block⟩
theorem Box.set {w : World} {g : Nat} {cs : Array Value} {t : TypeId} (h : Box w g cs t) (i : Nat) (u : Value) : Box (w.setCell ⟨g, i, none⟩ u) g (cs.setIfInBounds i u) t := by
  unfold Box at h ⊢
  obtain ⟨hlt, hk⟩ := Array.getElem?_eq_some_iff.1 h
  show (w.heap.modify g _)[g]? = _
  rw [Array.getElem?_eq_getElem (by rw [Array.size_modify]; exact hlt), Array.getElem_modify_self, hk]
  rfl
def arrV (z : Int) (ws : List (List UInt8)) (k i : Nat) : Int := if i < k then valZ z ws i else 0
def arrK (z : Int) (ws : List (List UInt8)) (k : Nat) : Array Value := #[.int .i64 (arrV z ws k 0), .int .i64 (arrV z ws k 1), .int .i64 (arrV z ws k 2), .int .i64 (arrV z ws k 3)]
theorem four {k : Nat} (h : k < 4) : k = 0 ∨ k = 1 ∨ k = 2 ∨ k = 3 := by omega
theorem arr_step (z : Int) (ws : List (List UInt8)) {k : Nat} (h : k < 4) : (arrK z ws k).setIfInBounds k (.int .i64 (valZ z ws k)) = arrK z ws (k + 1) := by
  rcases four h with rfl | rfl | rfl | rfl <;> simp [arrK, arrV]
theorem arr_dash {z : Int} {ws : List (List UInt8)} {k : Nat} (h : k < 4) (hd : (shapeZ z)[k]? = some 45) : arrK z ws k = arrK z ws (k + 1) := by
  have hv : valZ z ws k = 0 := by rw [valZ, if_pos hd]
  rcases four h with rfl | rfl | rfl | rfl <;> simp [arrK, arrV, hv]
theorem kept_iterAt {S : Nat → Prop} {w w1 : World} (h : Kept S w w1) {k : Nat} (hk : w.heap.size ≤ k) (s : ByteArray) (pos : Nat) : Kept S w (w1.iterAt k s pos) := by
  refine ⟨h.os, h.tape, h.output, ?_, fun q hq hn => ?_⟩
  · have := h.size
    simpa [World.iterAt] using this
  · rw [← h.block q hq hn]
    simp only [World.iterAt]
    rw [Array.getElem?_setIfInBounds_ne (by omega)]
theorem arr_at (z : Int) (ws : List (List UInt8)) {q : Nat} (h : q < 4) : (arrK z ws 4)[q]? = some (.int .i64 (valZ z ws q)) := by
  rcases four h with rfl | rfl | rfl | rfl <;> simp [arrK, arrV]
def insC (z a b c n : Int) : Array Value := #[.int .i64 z, .int .i64 a, .int .i64 b, .int .i64 c, .int .i64 n]
def insV (r : InsR) : Value := .tuple #[.agg (insC r.z r.a r.b r.c r.n), .int .i64 r.e]

set_option maxRecDepth 100000 in
set_option maxHeartbeats 8000000 in
theorem asminstr_is (l : List UInt8) (hl : l.length ≤ 100000) (w : World) (hT : Door.Tabs w) :
    Calls Tryd.prog 8 #[.string ⟨l.toArray⟩] w fun e w' => e = .returned (insV (instrL l)) ∧ Kept No w w' := by
  have hx := Box.new w #[.int .i64 0, .int .i64 0, .int .i64 0, .int .i64 0, .int .i64 0] 25
  have hk : Kept No w (w.alloc (.cells #[.int .i64 0, .int .i64 0, .int .i64 0, .int .i64 0, .int .i64 0] 25)) := (Kept.refl _ _).alloc _
  have HX := Lib.hid hx
  have HK := Lib.hid hk
  have HT := Lib.hid (hT.kept hk)
  obtain ⟨sl, hsl⟩ : ∃ x : ByteArray, (⟨l.toArray⟩ : ByteArray) = x := ⟨_, rfl⟩
  have hw := fun w => words_is l hl w
  rw [hsl] at hw ⊢
  have HW := Lib.hid hw
  clear hx hk hT hw hsl
  go_enter Tryd.func8, Tryd.ntmps8
  go_upto_region 1 with fail
  generalize w.alloc (.cells #[.int .i64 0, .int .i64 0, .int .i64 0, .int .i64 0, .int .i64 0] 25) = w0 at *
  go_wp2_with fail
  refine (HW.out w0).mono ?_
  rintro e w1 ⟨k1, v1, rfl, s1⟩
  obtain ⟨_, ao, cap, rfl, hc, hm, _, hR⟩ := s1.rd
  have hx1 := HX.out.kept k1 id
  have hk1 := HK.out.trans k1 (fun _ _ f => f)
  have hT1 := HT.out.kept k1
  unfold maxLen at hm
  clear s1 k1 HX HK HT HW
  cases hws : wordsL l with
  | nil =>
    have HE : Hid (instrL l = badI 2) := Lib.hid (instr_none (by simp [opL, hws]))
    rw [hws] at hc
    have hn0 : ([] : List (List UInt8)).length = 0 := rfl
    rw [hn0] at *
    clear hR hws
    go_wp2_with (refine wpList_store_rowTo rfl 25 _ _ rfl rfl w.heap.size #[.int .i64 0, .int .i64 0, .int .i64 0, .int .i64 0, .int .i64 0] (by kernel_rfl) (by kernel_rfl) 25 _ hx1 (by kernel_rfl) (by kernel_rfl) (by kernel_rfl) ?_)
    refine bodyPost_ret (results_row_tmp rfl _ _ w.heap.size 25 #[.int .i64 0, .int .i64 0, .int .i64 0, .int .i64 0, .int .i64 0] (0, 0) _ rfl hx1.row Tryd.underlying25 rfl (by kernel_rfl)) rfl ?_
    exact ⟨by rw [HE.out]; rfl, row_kept hk1 (Nat.le_refl _) _⟩
  | cons wd ws =>
    rw [hws] at hc hR
    obtain ⟨g, o, rfl, hg, hcell⟩ := hR (by simp)
    have hln : (wd :: ws).length = ws.length + 1 := rfl
    have hcw : ws.length + 1 ≤ cap := hc
    rw [hln] at *
    clear hln
    have htl : (wordsL l).tail = ws := by rw [hws]; rfl
    obtain ⟨z, hz⟩ : ∃ z, opL l = z := ⟨_, rfl⟩
    have hop : opZ wd = z := by rw [← hz]; simp [opL, hws]
    have c0 : w1.cell? ⟨g, o, none⟩ = some (.string ⟨wd.toArray⟩) := hcell 0 _ rfl
    obtain ⟨sd, hsd⟩ : ∃ x : ByteArray, (⟨wd.toArray⟩ : ByteArray) = x := ⟨_, rfl⟩
    have ho := fun w => asmop_is wd w
    rw [hsd, hop] at ho
    rw [hsd] at c0
    have HO := Lib.hid ho
    have HC := Lib.hid (fun j (x : List UInt8) (h : ws[j]? = some x) => hcell (j + 1) (.string ⟨x.toArray⟩) (by simp [sv, h]))
    clear ho hsd hop hcell hR hws
    go_wp2_with fail
    refine (HO.out w1).mono ?_
    rintro e w2 ⟨rfl, k2⟩
    have hx2 := (hx1.kept k2 id).alloc (.cells #[.int .i64 z, .int .i64 0, .int .i64 0, .int .i64 0, .int .i64 0] 25)
    have hy2 := Box.new w2 #[.int .i64 z, .int .i64 0, .int .i64 0, .int .i64 0, .int .i64 0] 25
    have hk12 := k2.alloc (.cells #[.int .i64 z, .int .i64 0, .int .i64 0, .int .i64 0, .int .i64 0] 25)
    have hlt1 := hx1.lt
    have hb5 : w1.heap.size ≤ w2.heap.size := k2.size
    clear c0 hx1 k2 HO
    go_upto_region 5 with fail
    generalize w2.alloc (.cells #[.int .i64 z, .int .i64 0, .int .i64 0, .int .i64 0, .int .i64 0] 25) = w3 at *
    generalize w2.heap.size = y5 at *
    have d0 : w3.cell? ⟨y5, 0, none⟩ = some (.int .i64 z) := hy2.cell 0
    go_wp2_with fail
    refine (opshape_is z w3).mono ?_
    rintro e w4 ⟨rfl, k4⟩
    have hx4 := hx2.kept k4 id
    have hy4 := hy2.kept k4 id
    have hk14 := hk12.trans k4 (fun _ _ f => f)
    clear d0 hx2 hy2 hk12 k4
    rcases opL_in l with hz0 | hin
    · rw [hz] at hz0
      subst hz0
      have HE : Hid (instrL l = badI 2) := Lib.hid (instr_none hz)
      rw [show (⟨(shapeZ 0).toArray⟩ : ByteArray) = ⟨#[]⟩ from rfl]
      have hk4 := hk1.trans hk14 (fun _ _ f => f)
      clear hz hy4
      go_wp2_with (refine wpList_store_rowTo rfl 25 _ _ rfl rfl w.heap.size #[.int .i64 0, .int .i64 0, .int .i64 0, .int .i64 0, .int .i64 0] (by kernel_rfl) (by kernel_rfl) 25 _ hx4 (by kernel_rfl) (by kernel_rfl) (by kernel_rfl) ?_)
      refine bodyPost_ret (results_row_tmp rfl _ _ w.heap.size 25 #[.int .i64 0, .int .i64 0, .int .i64 0, .int .i64 0, .int .i64 0] (0, 0) _ rfl hx4.row Tryd.underlying25 rfl (by kernel_rfl)) rfl ?_
      exact ⟨by rw [HE.out]; rfl, row_kept hk4 (Nat.le_refl _) _⟩
    · rw [hz] at hin
      have hzn : z ≠ 0 := by omega
      have hs4 := shape_four hin
      have hda := dashes z hin
      obtain ⟨ss, hss⟩ : ∃ s : ByteArray, (⟨(shapeZ z).toArray⟩ : ByteArray) = s := ⟨_, rfl⟩
      have hsz : ss.size = 4 := by rw [← hss]; simp [ByteArray.size, hs4]
      have hget : ∀ k (h : k < ss.size), (shapeZ z)[k]? = some (ss[k]'h) := by
        subst hss
        intro k h
        rw [List.getElem?_eq_getElem (by simpa [ByteArray.size] using h)]
        rfl
      have hne : ss.toList.isEmpty = false := by
        rw [toList_mk2 hss]
        cases h : shapeZ z with
        | nil => rw [h] at hs4; cases hs4
        | cons x r => rfl
      have hcount := fun w => Tryd.strings_Count_one ss 45 w
      obtain ⟨cd, hcd⟩ : ∃ c, Lib.countByte (shapeZ z) 45 = c := ⟨_, rfl⟩
      rw [show ss.data.toList = shapeZ z from by rw [← hss], hcd] at hcount
      rw [hcd] at hda
      obtain ⟨pz, hpz⟩ : ∃ p, posZ z 4 = p := ⟨_, rfl⟩
      rw [hpz] at hda
      have hlet : ∀ k (h : k < ss.size), (ss[k]'h).toNat < 128 := fun k h => by
        have := shape_letter z k _ (hget k h)
        simp only [letterB, Bool.or_eq_true, beq_iff_eq] at this
        omega
      rw [hss]
      have HCNT := Lib.hid hcount
      have Hget := Lib.hid hget
      have Hlet := Lib.hid hlet
      have HZ := Lib.hid hz
      have HPZ := Lib.hid hpz
      have HIN := Lib.hid hin
      have hs1 : ss.size ≤ 4 := by omega
      have hs2 : 4 ≤ ss.size := by omega
      have hda1 : cd + pz ≤ 4 := by omega
      have hda2 : 4 ≤ cd + pz := by omega
      have HTL := Lib.hid htl
      clear hcount hget hlet hss hs4 hsz hz hpz hcd hda hin htl
      by_cases hnum : ws.length = pz
      · have hn1 : ws.length ≤ pz := by omega
        have hn2 : pz ≤ ws.length := by omega
        have HN := Lib.hid hnum
        clear hnum
        go_wp2_with (go_at_call 19; refine (HCNT.out _).mono ?_; rintro e w' ⟨rfl, rfl⟩)
        all_goals
          have hit : ((w'.alloc (.cells #[.int .i64 0, .int .i64 0, .int .i64 0, .int .i64 0] 47)).iter ss 0).heap[w'.heap.size + 1]? = some (.stringIter ss 0) := by
            have h5 := World.iter_heap (w'.alloc (.cells #[.int .i64 0, .int .i64 0, .int .i64 0, .int .i64 0] 47)) ss 0
            simpa using h5
          have har : Box ((w'.alloc (.cells #[.int .i64 0, .int .i64 0, .int .i64 0, .int .i64 0] 47)).iter ss 0) w'.heap.size (arrK z ws 0) 47 := (Box.new w' #[.int .i64 0, .int .i64 0, .int .i64 0, .int .i64 0] 47).alloc _
          have hkw : Kept No w' ((w'.alloc (.cells #[.int .i64 0, .int .i64 0, .int .i64 0, .int .i64 0] 47)).iter ss 0) := ((Kept.refl _ _).alloc _).alloc _
          have HIT := Lib.hid hit
          have HAR := Lib.hid har
          have HKW := Lib.hid hkw
          clear hit har hkw
          go_loopw [4] (fun v wr => ∃ (k : Nat) (A : Option Addr) (C : Nat), k ≤ 4 ∧ v = .slice A (ws.length - posZ z k) C ∧ ws.length - posZ z k ≤ C ∧ C ≤ 9223372036854775807 ∧ Hid (0 < ws.length - posZ z k → A = some ⟨g, o + 1 + posZ z k, none⟩) ∧ wr.heap[w'.heap.size + 1]? = some (.stringIter ss k) ∧ Hid (Box wr w'.heap.size (arrK z ws k) 47) ∧ Hid (okZ z ws k = true) ∧ Hid (Kept No w' wr)) (fun _ wr => 4 - wr.iterPos (w'.heap.size + 1))
          case atStart =>
            first
            | exact ⟨0, some ⟨g, o + 1, none⟩, cap - 1, by omega, rfl, by show ws.length ≤ _; omega, by omega, Lib.hid (fun _ => rfl), HIT.out, HAR, Lib.hid rfl, HKW⟩
            | exact ⟨0, some ⟨g, o, none⟩, 0, by omega, rfl, by show ws.length ≤ _; omega, by omega, Lib.hid (fun h => by have : 0 < ws.length := h; omega), HIT.out, HAR, Lib.hid rfl, HKW⟩
          case round =>
            clear HIT HAR HKW
            obtain ⟨k, A, C, hk, rfl, hAC, hC63, hA, hit, har, hok, hK⟩ := hrel
            by_cases hlt : k < 4
            · have hlt2 : k < ss.size := by omega
              have hnext : ∀ ty, (Instr.next (.pointer (some ⟨w'.heap.size + 1, 0, none⟩)) true ty).run Tryd.prog wr = _ := fun ty => Lib.run_next_ascii_at wr (w'.heap.size + 1) ss k ty hit hlt2 (Hlet.out k hlt2)
              have hg5 := Hget.out k hlt2
              have hmu : wr.iterPos (w'.heap.size + 1) = k := by simp [World.iterPos, hit]
              have hit1 := Lib.iterAt_heap wr (w'.heap.size + 1) ss k (k + 1) hit
              have hK1 := Lib.hid (kept_iterAt hK.out (by omega : w'.heap.size ≤ w'.heap.size + 1) ss (k + 1))
              have har1 : Hid (Box (wr.iterAt (w'.heap.size + 1) ss (k + 1)) w'.heap.size (arrK z ws k) 47) := Lib.hid (by
                have := har.out
                unfold Box at this ⊢
                rw [← this]
                simp only [World.iterAt]
                rw [Array.getElem?_setIfInBounds_ne (by omega)])
              have hsz1 := hK1.out.size
              clear hit har hK
              generalize wr.iterAt (w'.heap.size + 1) ss (k + 1) = w6 at *
              have hmu2 : w6.iterPos (w'.heap.size + 1) = k + 1 := by simp [World.iterPos, hit1]
              by_cases h45 : ss[k]'hlt2 = 45
              · rw [h45] at hg5
                have hcc : (((ss[k]'hlt2).toNat : Int) == 45) = true := by rw [h45]; rfl
                have hpz := posZ_dash hg5
                have hnew : Hid (okZ z ws (k + 1) = true) := Lib.hid (okZ_next hok.out (.inl hg5))
                rw [arr_dash hlt hg5] at har1
                rw [← hpz] at hAC hA ⊢
                clear hpz hg5 h45
                go_wp2_with fail
                go_roundw
                case rel => exact ⟨k + 1, A, C, by omega, rfl, hAC, hC63, hA, hit1, har1, hnew, hK1⟩
                case measure => rw [hmu, hmu2]; omega
              · have hg5' : (shapeZ z)[k]? ≠ some 45 := by rw [hg5]; intro e; exact h45 (Option.some.inj e)
                have hcc : (((ss[k]'hlt2).toNat : Int) == 45) = false := by
                  rw [beq_eq_false_iff_ne]; intro e; exact h45 (UInt8.toNat_inj.1 (Int.ofNat.inj e))
                have hpz := posZ_num hg5'
                have hp4 : posZ z (k + 1) ≤ pz := by rw [← HPZ.out]; exact posZ_mono' (by omega)
                have hlw : posZ z k < ws.length := by omega
                obtain rfl := hA.out (by omega)
                obtain ⟨m, hmm⟩ : ∃ m, ws.length - posZ z k = m := ⟨_, rfl⟩
                rw [hmm] at hAC ⊢
                have hm0 : 0 < m := by omega
                have hmp : ws.length - posZ z (k + 1) = m - 1 := by omega
                obtain ⟨x, hx⟩ : ∃ x, ws[posZ z k]? = some x := ⟨_, List.getElem?_eq_getElem hlw⟩
                have hc0 := HC.out _ x hx
                have hkw6 : Kept No w1 w6 := hk14.trans hK1.out (fun _ _ f => f)
                obtain ⟨sx, hsx⟩ : ∃ s : ByteArray, (⟨x.toArray⟩ : ByteArray) = s := ⟨_, rfl⟩
                have c1 : w6.cell? ⟨g, o + 1 + posZ z k, none⟩ = some (.string sx) := by
                  rw [← hsx, show o + 1 + posZ z k = o + (posZ z k + 1) by omega]
                  exact (hkw6.cell (p := ⟨g, o + (posZ z k + 1), none⟩) hg id).trans hc0
                have hxl : x.length ≤ 1000000 := by
                  have := words_le (l := l) (p := x) (by have := List.mem_of_getElem? hx; rw [← HTL.out] at this; exact List.mem_of_mem_tail this)
                  omega
                have hnu := number_is x hxl w6 (hT1.kept hkw6)
                rw [hsx] at hnu
                have hwn : wordN ws (posZ z k) = numberL x := by rw [wordN, hx]; rfl
                cases hnm : numberL x with
                | none =>
                  rw [hnm] at hnu hwn
                  have HE : Hid (instrL l = badI 1) := Lib.hid (instr_word (by rw [HZ.out]; exact hzn) (by rw [HTL.out, HZ.out]; exact okZ_fail hlt hg5' hwn))
                  have HNU := Lib.hid hnu
                  have hxx := (hx4.kept hK1.out id)
                  clear hwn hnu hsx hc0 hx hpz hp4 hg5 hg5' h45 hA hy4 hmm hmp
                  go_wp2_with fail
                  refine HNU.out.mono ?_
                  rintro e w7 ⟨rfl, k7⟩
                  have hx7 := hxx.kept k7 id
                  have hk7 := (hk1.trans hkw6 (fun _ _ f => f)).trans k7 (fun _ _ f => f)
                  clear c1 hxx k7
                  go_wp2_with (refine wpList_store_rowTo rfl 25 _ _ rfl rfl w.heap.size #[.int .i64 0, .int .i64 0, .int .i64 0, .int .i64 0, .int .i64 0] (by kernel_rfl) (by kernel_rfl) 25 _ hx7 (by kernel_rfl) (by kernel_rfl) (by kernel_rfl) ?_)
                  refine bodyPost_ret (results_row_tmp rfl _ _ w.heap.size 25 #[.int .i64 0, .int .i64 0, .int .i64 0, .int .i64 0, .int .i64 0] (0, 0) _ rfl hx7.row Tryd.underlying25 rfl (by kernel_rfl)) rfl ?_
                  exact ⟨by rw [HE.out]; rfl, row_kept hk7 (Nat.le_refl _) _⟩
                | some v =>
                  rw [hnm] at hnu hwn
                  have hvz : valZ z ws k = v := by rw [valZ, if_neg hg5', hwn]; rfl
                  have hnew : Hid (okZ z ws (k + 1) = true) := Lib.hid (okZ_next hok.out (.inr (by rw [hwn]; rfl)))
                  have hst := arr_step z ws hlt
                  rw [hvz] at hst
                  have HST := Lib.hid hst
                  have HPZ1 := Lib.hid hpz
                  have HMP := Lib.hid hmp
                  have HNU := Lib.hid hnu
                  have hk4i : (k : Int) < 4 := by omega
                  clear hwn hnu hsx hc0 hx hpz hp4 hg5 hg5' h45 hA hmm hst hvz hmp
                  go_wp2_with fail
                  refine HNU.out.mono ?_
                  rintro e w7 ⟨rfl, k7⟩
                  have hit7 : w7.heap[w'.heap.size + 1]? = some (.stringIter ss (k + 1)) := (k7.block _ (Array.getElem?_eq_some_iff.1 hit1).1 id).trans hit1
                  have har7 := har1.out.kept k7 id
                  have hK7 := Lib.hid (hK1.out.trans k7 (fun _ _ f => f))
                  have hmu7 : w7.iterPos (w'.heap.size + 1) = k + 1 := by simp [World.iterPos, hit7]
                  clear c1 k7 hit1 har1 hK1 hkw6 hsz1 hmu2 hnext HNU
                  obtain ⟨oc, ho7⟩ : ∃ u, (arrK z ws k)[k]? = some u := ⟨_, Array.getElem?_eq_getElem (by simpa [arrK] using hlt)⟩
                  have a0 : w7.drew.cell? ⟨w'.heap.size, k, none⟩ = some oc := (har7.cell k).trans ho7
                  have f0 : w7.drew.frozen? ⟨w'.heap.size, k, none⟩ = false := har7.frozen k
                  have har8 : Box (w7.drew.setCell ⟨w'.heap.size, k, none⟩ (.int .i64 v)) w'.heap.size (arrK z ws (k + 1)) 47 := by
                    rw [← HST.out]
                    exact Box.set (show Box w7.drew _ _ _ from har7) k _
                  have HAR8 := Lib.hid har8
                  have HAR7 := Lib.hid har7
                  clear har8 har7 ho7
                  go_upto_region 19 with fail
                  have hC0 : C - 1 ≤ 9223372036854775807 := by omega
                  have hmC : m - 1 ≤ C - 1 := by omega
                  have hCC : C = 1 ∨ 1 < C := by omega
                  rcases hCC with rfl | hC1
                  all_goals
                    refine wp_region_dynS (fun b => b = w'.heap.size) ([0, 1, 2, 3, 4] ++ 5 :: ([6] ++ [])) (by kernel_rfl) (by kernel_rfl) ?_
                    refine dynS_reads _ _ (by kernel_rfl) ?_
                    simp only [sel, List.filterMap_cons, List.filterMap_nil, List.getElem?_cons_succ, List.getElem?_cons_zero]
                    repeat (show wpQuiet _ _ _ _ (_ :: _) _; go_big_quiet_step (fail))
                    refine wpQuiet_nil ?_
                    refine dynS_act rfl rfl rfl ?_
                    unfold callW
                    go_simp
                    refine ⟨drew_kept (((Kept.refl _ w7).setCell (p := ⟨w'.heap.size, k, none⟩) (fun _ => by exact rfl) (.int .i64 v)).drew), ?_⟩
                    refine dynS_reads (rest := []) [6] _ (by kernel_rfl) ?_
                    simp only [sel, List.filterMap_cons, List.filterMap_nil, List.getElem?_cons_succ, List.getElem?_cons_zero]
                    repeat (show wpQuiet _ _ _ _ (_ :: _) _; go_big_quiet_step (fail))
                    refine wpQuiet_nil ?_
                    refine dynS_nil ?_
                    have hkf : Hid (Kept No w' ((w7.setCell ⟨w'.heap.size, k, none⟩ (.int .i64 v)).drew)) := Lib.hid ((hK7.out.setCell (p := ⟨w'.heap.size, k, none⟩) (fun h => absurd h (Nat.lt_irrefl _)) _).drew)
                    have hitf : ((w7.setCell ⟨w'.heap.size, k, none⟩ (.int .i64 v)).drew).heap[w'.heap.size + 1]? = some (.stringIter ss (k + 1)) := (Below.heap_setCell w7 ⟨w'.heap.size, k, none⟩ _ (w'.heap.size + 1) (by show w'.heap.size + 1 ≠ w'.heap.size; omega)).trans hit7
                    have harf : Hid (Box ((w7.setCell ⟨w'.heap.size, k, none⟩ (.int .i64 v)).drew) w'.heap.size (arrK z ws (k + 1)) 47) := Lib.hid HAR8.out
                    have hmuf : ((w7.setCell ⟨w'.heap.size, k, none⟩ (.int .i64 v)).drew).iterPos (w'.heap.size + 1) = k + 1 := by simp only [World.iterPos, hitf]
                    go_wp2_with fail
                    go_roundw
                    case rel =>
                      first
                      | exact ⟨k + 1, _, _, by omega, congrArg (fun q => Value.slice _ q _) (by rw [HMP.out]; omega), by rw [HMP.out]; omega, by omega, Lib.hid (fun h => by rw [HMP.out] at h; first | (exfalso; omega) | (rw [HPZ1.out]; rfl)), hitf, harf, hnew, hkf⟩
                      | (exfalso; omega)
                      | exact ⟨k + 1, _, _, by omega, congrArg (fun q => Value.slice _ q _) (by rw [HMP.out]), by rw [HMP.out]; exact hmC, hC0, Lib.hid (fun h => by rw [HPZ1.out]; rfl), hitf, harf, hnew, hkf⟩
                    case measure => rw [hmu, hmuf]; omega
            · obtain rfl : k = 4 := by omega
              have hnext : ∀ ty, (Instr.next (.pointer (some ⟨w'.heap.size + 1, 0, none⟩)) true ty).run Tryd.prog wr = _ := fun ty => Lib.run_next_end_at wr (w'.heap.size + 1) ss 4 ty hit (by omega)
              have hK9 := hK.out
              have har9 := har.out
              have hx9 := hx4.kept hK9 id
              have hy9 := hy4.kept hK9 id
              have hk9 := (hk1.trans hk14 (fun _ _ f => f)).trans hK9 (fun _ _ f => f)
              have hlty := hy4.lt
              clear hit hA hx4 hy4 hk1 hk14 hK har
              generalize hwr : wr = wA at *
              clear hwr
              have HAR := Lib.hid har9
              have HX := Lib.hid hx9
              have HY := Lib.hid hy9
              have HK := Lib.hid hk9
              clear har9 hx9 hy9 hk9 hK9
              go_wp2_with fail
              go_loopw [67] (fun i wr => ∃ q : Nat, q ≤ 3 ∧ i = .int .i64 q ∧ Hid (∀ j, j < q → octB (valZ z ws j) = true) ∧ wr = wA) (fun i _ => 3 - (intOf i).toNat)
              case atStart => exact ⟨0, by omega, rfl, Lib.hid (fun j hj => by omega), rfl⟩
              case round =>
                obtain ⟨q, hq, rfl, hoc, rfl⟩ := hrel
                by_cases hlq : q < 3
                · have a0 : wr.cell? ⟨w'.heap.size, q, none⟩ = some (.int .i64 (valZ z ws q)) := (HAR.out.cell q).trans (arr_at z ws (by omega))
                  obtain ⟨v, hv⟩ : ∃ v, valZ z ws q = v := ⟨_, rfl⟩
                  rw [hv] at a0
                  by_cases hoct : 0 ≤ v ∧ v ≤ 255
                  · have e1 : decide (v < 0) = false := decide_eq_false (by omega)
                    have e2 : decide (255 < v) = false := decide_eq_false (by omega)
                    have hnew : Hid (∀ j, j < q + 1 → octB (valZ z ws j) = true) := Lib.hid (fun j hj => (Nat.lt_succ_iff_lt_or_eq.1 hj).elim (fun h => hoc.out j h) (fun h => by rw [h, hv, octB, decide_eq_true hoct.1, decide_eq_true hoct.2]; rfl))
                    clear hoct hv
                    go_wp2_with fail
                    go_roundw
                    case rel => exact ⟨q + 1, by omega, by go_num, hnew, trivial⟩
                    case measure => simp [intOf]; omega
                  · have hbad : octB (valZ z ws q) = false := by
                      rw [hv, octB]
                      by_cases h0 : 0 ≤ v
                      · rw [decide_eq_false (show ¬ v ≤ 255 by omega), Bool.and_false]
                      · rw [decide_eq_false h0, Bool.false_and]
                    have HE : Hid (instrL l = badI 3) := Lib.hid (instr_wide (by rw [HZ.out]; exact hzn) (by rw [HTL.out, HZ.out, HPZ.out]; exact HN.out) (by rw [HTL.out, HZ.out]; exact hok.out) (by
                      rw [HTL.out, HZ.out]
                      have : q = 0 ∨ q = 1 ∨ q = 2 := by omega
                      rcases this with rfl | rfl | rfl <;> simp [hbad]))
                    have hex : decide (v < 0) = true ∨ (decide (v < 0) = false ∧ decide (255 < v) = true) := by
                      by_cases h0 : v < 0
                      · exact .inl (decide_eq_true h0)
                      · exact .inr ⟨decide_eq_false h0, decide_eq_true (by omega)⟩
                    clear hoct hv hbad
                    rcases hex with e1 | ⟨e1, e2⟩
                    all_goals
                      go_wp2_with (refine wpList_store_rowTo rfl 25 _ _ rfl rfl w.heap.size #[.int .i64 0, .int .i64 0, .int .i64 0, .int .i64 0, .int .i64 0] (by kernel_rfl) (by kernel_rfl) 25 _ HX.out (by kernel_rfl) (by kernel_rfl) (by kernel_rfl) ?_)
                      refine bodyPost_ret (results_row_tmp rfl _ _ w.heap.size 25 #[.int .i64 0, .int .i64 0, .int .i64 0, .int .i64 0, .int .i64 0] (0, 0) _ rfl HX.out.row Tryd.underlying25 rfl (by kernel_rfl)) rfl ?_
                      exact ⟨by rw [HE.out]; rfl, row_kept HK.out (Nat.le_refl _) _⟩
                · obtain rfl : q = 3 := by omega
                  have HE : Hid (instrL l = ⟨z, valZ z ws 0, valZ z ws 1, valZ z ws 2, valZ z ws 3, 0⟩) := Lib.hid (by
                    have := instr_yes (l := l) (by rw [HZ.out]; exact hzn) (by rw [HTL.out, HZ.out, HPZ.out]; exact HN.out) (by rw [HTL.out, HZ.out]; exact hok.out) (by rw [HTL.out, HZ.out, hoc.out 0 (by omega), hoc.out 1 (by omega), hoc.out 2 (by omega)]; rfl)
                    rw [this, HTL.out, HZ.out])
                  have hne5 : ¬ (w'.heap.size = y5) := by omega
                  have A0 : ∀ p : KS (fun b => b = y5) wr.drew, p.w.cell? ⟨w'.heap.size, 0, none⟩ = some (.int .i64 (valZ z ws 0)) := KS.old (w := wr.drew) ((HAR.out.cell 0).trans (arr_at z ws (by omega))) HAR.out.lt hne5
                  have A1 : ∀ p : KS (fun b => b = y5) wr.drew, p.w.cell? ⟨w'.heap.size, 1, none⟩ = some (.int .i64 (valZ z ws 1)) := KS.old (w := wr.drew) ((HAR.out.cell 1).trans (arr_at z ws (by omega))) HAR.out.lt hne5
                  have A2 : ∀ p : KS (fun b => b = y5) wr.drew, p.w.cell? ⟨w'.heap.size, 2, none⟩ = some (.int .i64 (valZ z ws 2)) := KS.old (w := wr.drew) ((HAR.out.cell 2).trans (arr_at z ws (by omega))) HAR.out.lt hne5
                  have A3 : ∀ p : KS (fun b => b = y5) wr.drew, p.w.cell? ⟨w'.heap.size, 3, none⟩ = some (.int .i64 (valZ z ws 3)) := KS.old (w := wr.drew) ((HAR.out.cell 3).trans (arr_at z ws (by omega))) HAR.out.lt hne5
                  generalize valZ z ws 0 = v0 at *
                  generalize valZ z ws 1 = v1 at *
                  generalize valZ z ws 2 = v2 at *
                  generalize valZ z ws 3 = v3 at *
                  have yb : wr.drew.cell? ⟨y5, 1, none⟩ = some (.int .i64 0) := HY.out.cell 1
                  have yf : wr.drew.frozen? ⟨y5, 1, none⟩ = false := HY.out.frozen 1
                  have y1 : Box ((wr.setCell ⟨y5, 1, none⟩ (.int .i64 v0)).drew) y5 #[.int .i64 z, .int .i64 v0, .int .i64 0, .int .i64 0, .int .i64 0] 25 := Box.set HY.out 1 (.int .i64 v0)
                  have n1 : Kept (fun b => b = y5) wr ((wr.setCell ⟨y5, 1, none⟩ (.int .i64 v0)).drew) := ((Kept.refl _ wr).setCell (p := ⟨y5, 1, none⟩) (fun _ => by exact rfl) (.int .i64 v0)).drew
                  go_upto_region 26 with fail
                  refine wp_region_dynS (fun b => b = y5) ([0, 1, 2, 3, 4, 5, 6, 7, 8] ++ 9 :: ([10] ++ 11 :: ([12] ++ 13 :: ([14] ++ 15 :: [])))) (by kernel_rfl) (by kernel_rfl) ?_
                  refine dynS_reads _ _ (by kernel_rfl) ?_
                  simp only [sel, List.filterMap_cons, List.filterMap_nil, List.getElem?_cons_succ, List.getElem?_cons_zero]
                  repeat (show wpQuiet _ _ _ _ (_ :: _) _; go_big_quiet_step (fail))
                  refine wpQuiet_nil ?_
                  clear A0 A1 A2 A3
                  refine dynS_act rfl rfl rfl ?_
                  unfold callW
                  go_simp
                  refine ⟨drew_kept n1, ?_⟩
                  generalize (wr.setCell ⟨y5, 1, none⟩ (.int .i64 v0)).drew = wB at *
                  clear yb yf
                  refine dynS_reads (rest := [11, 12, 13, 14, 15]) [10] _ (by kernel_rfl) ?_
                  simp only [sel, List.filterMap_cons, List.filterMap_nil, List.getElem?_cons_succ, List.getElem?_cons_zero]
                  repeat (show wpQuiet _ _ _ _ (_ :: _) _; go_big_quiet_step (fail))
                  refine wpQuiet_nil ?_
                  have yb : wB.cell? ⟨y5, 2, none⟩ = some (.int .i64 0) := y1.cell 2
                  have yf : wB.frozen? ⟨y5, 2, none⟩ = false := y1.frozen 2
                  have y2 : Box (wB.setCell ⟨y5, 2, none⟩ (.int .i64 v1)) y5 #[.int .i64 z, .int .i64 v0, .int .i64 v1, .int .i64 0, .int .i64 0] 25 := Box.set y1 2 (.int .i64 v1)
                  have n2 : Kept (fun b => b = y5) wB (wB.setCell ⟨y5, 2, none⟩ (.int .i64 v1)) := (Kept.refl _ wB).setCell (p := ⟨y5, 2, none⟩) (fun _ => by exact rfl) (.int .i64 v1)
                  refine dynS_act rfl rfl rfl ?_
                  unfold callW
                  go_simp
                  have m2 := kS_trans n1 n2
                  generalize wB.setCell ⟨y5, 2, none⟩ (.int .i64 v1) = wC at *
                  clear yb yf n1 n2 y1
                  refine dynS_reads (rest := [13, 14, 15]) [12] _ (by kernel_rfl) ?_
                  simp only [sel, List.filterMap_cons, List.filterMap_nil, List.getElem?_cons_succ, List.getElem?_cons_zero]
                  repeat (show wpQuiet _ _ _ _ (_ :: _) _; go_big_quiet_step (fail))
                  refine wpQuiet_nil ?_
                  have yb : wC.cell? ⟨y5, 3, none⟩ = some (.int .i64 0) := y2.cell 3
                  have yf : wC.frozen? ⟨y5, 3, none⟩ = false := y2.frozen 3
                  have y3 : Box (wC.setCell ⟨y5, 3, none⟩ (.int .i64 v2)) y5 #[.int .i64 z, .int .i64 v0, .int .i64 v1, .int .i64 v2, .int .i64 0] 25 := Box.set y2 3 (.int .i64 v2)
                  have n3 : Kept (fun b => b = y5) wC (wC.setCell ⟨y5, 3, none⟩ (.int .i64 v2)) := (Kept.refl _ wC).setCell (p := ⟨y5, 3, none⟩) (fun _ => by exact rfl) (.int .i64 v2)
                  refine dynS_act rfl rfl rfl ?_
                  unfold callW
                  go_simp
                  have m3 := kS_trans m2 n3
                  generalize wC.setCell ⟨y5, 3, none⟩ (.int .i64 v2) = wD at *
                  clear yb yf m2 n3 y2
                  refine dynS_reads (rest := [15]) [14] _ (by kernel_rfl) ?_
                  simp only [sel, List.filterMap_cons, List.filterMap_nil, List.getElem?_cons_succ, List.getElem?_cons_zero]
                  repeat (show wpQuiet _ _ _ _ (_ :: _) _; go_big_quiet_step (fail))
                  refine wpQuiet_nil ?_
                  have yb : wD.cell? ⟨y5, 4, none⟩ = some (.int .i64 0) := y3.cell 4
                  have yf : wD.frozen? ⟨y5, 4, none⟩ = false := y3.frozen 4
                  have y4 : Box (wD.setCell ⟨y5, 4, none⟩ (.int .i64 v3)) y5 #[.int .i64 z, .int .i64 v0, .int .i64 v1, .int .i64 v2, .int .i64 v3] 25 := Box.set y3 4 (.int .i64 v3)
                  have n4 : Kept (fun b => b = y5) wD (wD.setCell ⟨y5, 4, none⟩ (.int .i64 v3)) := (Kept.refl _ wD).setCell (p := ⟨y5, 4, none⟩) (fun _ => by exact rfl) (.int .i64 v3)
                  refine dynS_act rfl rfl rfl ?_
                  unfold callW
                  go_simp
                  have m4 := kS_trans m3 n4
                  generalize wD.setCell ⟨y5, 4, none⟩ (.int .i64 v3) = wE at *
                  clear yb yf m3 n4 y3
                  refine dynS_nil ?_
                  have hxE := HX.out.kept m4 (fun h => by omega)
                  have hkE : Kept No w wE := HK.out.trans m4 (fun q hq h => by omega)
                  have z0 : wE.cell? ⟨y5, 0, none⟩ = some (.int .i64 z) := y4.cell 0
                  have z1 : wE.cell? ⟨y5, 1, none⟩ = some (.int .i64 v0) := y4.cell 1
                  have z2 : wE.cell? ⟨y5, 2, none⟩ = some (.int .i64 v1) := y4.cell 2
                  have z3 : wE.cell? ⟨y5, 3, none⟩ = some (.int .i64 v2) := y4.cell 3
                  have z4 : wE.cell? ⟨y5, 4, none⟩ = some (.int .i64 v3) := y4.cell 4
                  go_wp2_with (refine wpList_store_rowTo rfl 25 _ _ rfl rfl w.heap.size #[.int .i64 z, .int .i64 v0, .int .i64 v1, .int .i64 v2, .int .i64 v3] (by kernel_rfl) (by kernel_rfl) 25 _ hxE (by kernel_rfl) (by kernel_rfl) (by kernel_rfl) ?_)
                  refine bodyPost_ret (results_row_tmp rfl _ _ w.heap.size 25 #[.int .i64 z, .int .i64 v0, .int .i64 v1, .int .i64 v2, .int .i64 v3] (0, 0) _ rfl hxE.row Tryd.underlying25 rfl (by kernel_rfl)) rfl ?_
                  exact ⟨by rw [HE.out]; rfl, row_kept hkE (Nat.le_refl _) _⟩
      · have HE : Hid (instrL l = badI 1) := Lib.hid (instr_many (by rw [HZ.out]; exact hzn) (by rw [HTL.out, HZ.out, HPZ.out]; exact hnum))
        have hk4 := hk1.trans hk14 (fun _ _ f => f)
        clear hy4
        have hx5 := Lib.hid hx4
        go_wp2_with (first | (go_at_call 19; refine (HCNT.out _).mono ?_; rintro e w' ⟨rfl, rfl⟩) | refine wpList_store_rowTo rfl 25 _ _ rfl rfl w.heap.size #[.int .i64 0, .int .i64 0, .int .i64 0, .int .i64 0, .int .i64 0] (by kernel_rfl) (by kernel_rfl) 25 _ hx5.out (by kernel_rfl) (by kernel_rfl) (by kernel_rfl) ?_)
        all_goals
          refine bodyPost_ret (results_row_tmp rfl _ _ w.heap.size 25 #[.int .i64 0, .int .i64 0, .int .i64 0, .int .i64 0, .int .i64 0] (0, 0) _ rfl hx5.out.row Tryd.underlying25 rfl (by kernel_rfl)) rfl ?_
          exact ⟨by rw [HE.out]; rfl, row_kept hk4 (Nat.le_refl _) _⟩
end Go.Proofs.YtjpddfnkamahfaaDoor.Line
