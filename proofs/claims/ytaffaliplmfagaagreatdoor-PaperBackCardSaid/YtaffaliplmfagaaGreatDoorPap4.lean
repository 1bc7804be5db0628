/-
  paper.Text.
-/
import Derived.Test.YtaffaliplmfagaaGreatDoorPap3
import Derived.Test.YtaffaliplmfagaaGreatDoorSayV
import Derived.Test.YtaffaliplmfagaaGreatDoorDyns
set_option linter.unusedVariables false
set_option linter.unusedSimpArgs false
namespace Go.Proofs.YtaffaliplmfagaaGreatDoor.Line
open Go.RowKit Go.Sort Go.Proofs.YtaffaliplmfagaaGreatDoor.Own Go.Proofs.YtaffaliplmfagaaGreatDoor.Conv Go.Proofs.YtaffaliplmfagaaGreatDoor.Calm

def vnames : List (List UInt8) := [[99, 108, 101, 97, 110], [118, 105, 111, 108, 97, 116, 105, 111, 110], [105, 110, 99, 111, 110, 99, 108, 117, 115, 105, 118, 101], [109, 97, 108, 102, 111, 114, 109, 101, 100]]
def vnameS : Array Value := #[.string ⟨#[99, 108, 101, 97, 110]⟩, .string ⟨#[118, 105, 111, 108, 97, 116, 105, 111, 110]⟩, .string ⟨#[105, 110, 99, 111, 110, 99, 108, 117, 115, 105, 118, 101]⟩, .string ⟨#[109, 97, 108, 102, 111, 114, 109, 101, 100]⟩]
def vname (m : Nat) : List UInt8 := vnames.getD m []
theorem vnameS_at (m : Nat) (h : m < 4) : vnameS[m]? = some (.string ⟨(vname m).toArray⟩) := by
  have : m = 0 ∨ m = 1 ∨ m = 2 ∨ m = 3 := by omega
  rcases this with rfl | rfl | rfl | rfl <;> rfl
theorem vname_len (m : Nat) : (vname m).length ≤ 12 := by
  match m with
  | 0 => decide
  | 1 => decide
  | 2 => decide
  | 3 => decide
  | n + 4 => simp [vname, vnames]
theorem pnames_is (w : World) : Calls Tryz.prog 35 #[] w fun e w' => e = .returned (.slice (some ⟨w.heap.size, 0, none⟩) 4 4) ∧ Box w' w.heap.size vnameS 9 ∧ Kept No w w' := by
  have hb : Box (w.alloc (.cells vnameS 9)) w.heap.size vnameS 9 := Box.new _ _ _
  have hk : Kept No w (w.alloc (.cells vnameS 9)) := (Kept.refl _ _).alloc _
  have HB := Lib.hid hb
  have HK := Lib.hid hk
  clear hb hk
  go_enter Tryz.func35, Tryz.ntmps35
  go_wp2_with fail
  go_ret
  exact ⟨rfl, HB.out, HK.out⟩

def headR (vd ed : Int) : List UInt8 := Lib.join [vname (vd - 1).toNat, Lib.itoa ed] [32]
def picksT (zs : List Int) : List UInt8 := Lib.join (zs.map Lib.itoa) [32]
def foundT (f : FoundI) : List UInt8 := keyT f.k f.i f.j ++ [10] ++ (picksT f.zs ++ [10])
def foundsT (fs : List FoundI) : List UInt8 := fs.flatMap foundT
def textR (vd ed : Int) (fs : List FoundI) : List UInt8 := headR vd ed ++ [10] ++ foundsT fs
theorem foundsT_snoc (fs : List FoundI) (f : FoundI) : foundsT (fs ++ [f]) = foundsT fs ++ foundT f := by simp [foundsT]
theorem join_bd (m : Nat) : ∀ xs : List (List UInt8), (∀ t ∈ xs, t.length ≤ m) → (Lib.join xs [32]).length ≤ (m + 1) * xs.length
  | [], _ => by simp [Lib.join_nil]
  | [x], h => by rw [Lib.join_one]; have := h x (by simp); simp; omega
  | x :: y :: r, h => by
    have ih := join_bd m (y :: r) (fun t ht => h t (List.mem_cons_of_mem _ ht))
    have hx := h x (by simp)
    have e : Lib.join (x :: y :: r) [32] = x ++ 32 :: Lib.join (y :: r) [32] := by
      rw [Lib.join_cons, Lib.join_cons]
      simp [Lib.joinTail]
    rw [e, List.length_append, List.length_cons, List.length_cons, Nat.mul_add]
    omega
theorem itoa_one {z : Int} (h : 0 ≤ z ∧ z ≤ 7) : (Lib.itoa z).length = 1 := by
  obtain ⟨n, rfl⟩ : ∃ n : Nat, z = n := ⟨z.toNat, by omega⟩
  have : ∀ n : Nat, n < 8 → (Lib.itoa (n : Int)).length = 1 := by decide +kernel
  exact this n (by omega)
theorem picksT_len {zs : List Int} (h : ∀ z ∈ zs, 0 ≤ z ∧ z ≤ 7) : (picksT zs).length ≤ 2 * zs.length := by
  have := join_bd 1 (zs.map Lib.itoa) (fun t ht => by
    obtain ⟨z, hz, rfl⟩ := List.mem_map.1 ht
    rw [itoa_one (h z hz)]
    exact Nat.le_refl _)
  rw [List.length_map] at this
  exact this
theorem nameOf_len (k : Int) (h : 1 ≤ k ∧ k ≤ 6) : (nameOf k).length ≤ 12 := by
  obtain ⟨n, rfl⟩ : ∃ n : Nat, k = n := ⟨k.toNat, by omega⟩
  have : ∀ n : Nat, n < 7 → (nameOf (n : Int)).length ≤ 12 := by decide +kernel
  exact this n (by omega)
theorem keyT_bd {k i j : Int} (h : isKey k i j = true) : (keyT k i j).length ≤ 60 := by
  obtain ⟨h1, h2, h3⟩ := key_parts h
  have a := nameOf_len k h1
  have b := Lib.itoa_length_le i (by omega) (by omega)
  have c := Lib.itoa_length_le j (by omega) (by omega)
  rw [keyT, if_pos h]
  have e : Lib.join [nameOf k, Lib.itoa i, Lib.itoa j] [32] = nameOf k ++ ([32] ++ (Lib.itoa i ++ ([32] ++ Lib.itoa j))) := by
    rw [Lib.join_cons]
    simp [Lib.joinTail]
  rw [e]
  simp only [List.length_append, List.length_cons, List.length_nil]
  omega
theorem headR_len {vd ed : Int} (he : 0 ≤ ed ∧ ed ≤ 1099511627776) : (headR vd ed).length ≤ 40 := by
  have a := vname_len (vd - 1).toNat
  have b := Lib.itoa_length_le ed (by omega) (by omega)
  have e : headR vd ed = vname (vd - 1).toNat ++ ([32] ++ Lib.itoa ed) := by
    rw [headR, Lib.join_cons]
    simp [Lib.joinTail]
  rw [e]
  simp only [List.length_append, List.length_cons, List.length_nil]
  omega
/-- A report that is not too long for a text. -/
structure SmR (fs : List FoundI) : Prop where
  n : fs.length ≤ 100
  p : ∀ (t : Nat) (f : FoundI), fs[t]? = some f → f.zs.length ≤ 400
theorem foundT_len {f : FoundI} (hk : isKey f.k f.i f.j = true) (hz : ∀ z ∈ f.zs, 0 ≤ z ∧ z ≤ 7) (hp : f.zs.length ≤ 400) : (foundT f).length ≤ 862 := by
  have a := keyT_bd hk
  have b := picksT_len hz
  rw [foundT]
  simp only [List.length_append, List.length_cons, List.length_nil]
  omega
theorem foundsT_len {vd ed : Int} {fs : List FoundI} (h : OkR vd ed fs) (hs : SmR fs) : ∀ t, (foundsT (fs.take t)).length ≤ 862 * t
  | 0 => by simp [foundsT]
  | t + 1 => by
    have ih := foundsT_len h hs t
    rcases hf : fs[t]? with _ | f
    · rw [List.take_add_one, hf]
      simp only [Option.toList_none, List.append_nil]
      omega
    · rw [List.take_add_one, hf]
      simp only [Option.toList_some]
      rw [foundsT_snoc, List.length_append]
      obtain ⟨h1, h2, h3, h4⟩ := h.fine t f hf
      have := foundT_len h1 h4 (hs.p t f hf)
      omega
theorem mk_sv (w : World) (l : List UInt8) (s : ByteArray) (h : (⟨l.toArray⟩ : ByteArray) = s) : Rd (w.alloc (.cells #[.string s] 9)) 1 (.slice (some ⟨w.heap.size, 0, none⟩) 1 1) 1 (sv [l]) :=
  box_rd (Box.new w #[.string s] 9) (by rw [← h]; rfl) 1 rfl (by unfold maxLen; omega)
theorem bv_seg {w : World} {B b : Nat} {v : Value} {l : List UInt8} (h : BV w B b v l) {B' n size : Nat} {x : Value} {xs : List Value} (hs : Seg w B' 9 size x n xs) : ∀ g, x.ownBlock = some g → ¬ BB b v g := by
  intro g hg hq
  rcases hs.2 with ⟨rfl, _⟩ | ⟨g', o, cap, cur, rfl, _, ⟨fr, hh, _⟩, _⟩
  · cases hg
  · obtain rfl : g' = g := Option.some.inj hg
    rcases hq with rfl | hq
    · rcases h.box with hb | hb
      · have := hb.symm.trans hh; simp at this
      · have := hb.symm.trans hh; simp at this
    · rcases h.own.2 with ⟨rfl, _⟩ | ⟨g2, cap2, cur2, rfl, _, hh2, _⟩
      · cases hq
      · obtain rfl : g2 = g' := Option.some.inj hq
        have := hh2.symm.trans hh
        simp at this
theorem bv_box {w : World} {B b : Nat} {v : Value} {l : List UInt8} (h : BV w B b v l) {x : Nat} {cs : Array Value} (hb : Box w x cs 48) : ¬ BB b v x := by
  intro hq
  rcases hq with rfl | hq
  · rcases h.box with hb2 | hb2
    · have := hb.symm.trans hb2; simp at this
    · have := hb.symm.trans hb2; simp at this
  · exact absurd (own_type h.own hq hb) (by decide)

/-- What Text answers. -/
def PapText (vd ed : Int) (fs : List FoundI) (w : World) (e : Ending) (w' : World) : Prop :=
  Kept No w w' ∧ ((okR vd ed fs = false ∧ e = .returned (.tuple #[.string ⟨#[]⟩, .int .i64 3])) ∨
    (okR vd ed fs = true ∧ e = .returned (.tuple #[.string ⟨(textR vd ed fs).toArray⟩, .int .i64 0])))

set_option maxRecDepth 100000 in
set_option maxHeartbeats 8000000 in
theorem papertext_is (vd ed : Int) (ao : Option Addr) (n cap : Nat) (fs : List FoundI) (w : World) (hT : Door.Tabs w) (h : FR w (.slice ao n cap) fs) (hsm : SmR fs) :
    Calls Tryz.prog 14 #[.agg #[.int .i64 vd, .int .i64 ed, .slice ao n cap]] w (PapText vd ed fs w) := by
  obtain ⟨hn, hcap, hm⟩ := h.len
  unfold maxLen at hm
  have hbx := Box.new w #[.int .i64 vd, .int .i64 ed, .slice ao n cap] 24
  have hk := (Kept.refl No w).alloc (.cells #[.int .i64 vd, .int .i64 ed, .slice ao n cap] 24)
  have HX := Lib.hid hbx
  have HK := Lib.hid hk
  have H := Lib.hid (h.kept hk)
  have HN := Lib.hid hn
  have HSM := Lib.hid hsm
  have HT := Lib.hid hT
  clear hn h hbx hk hsm hT
  go_enter Tryz.func14, Tryz.ntmps14
  go_upto_region 1 with fail
  generalize w.alloc (.cells #[.int .i64 vd, .int .i64 ed, .slice ao n cap] 24) = w0 at *
  have c0 : w0.cell? ⟨w.heap.size, 0, none⟩ = some (.int .i64 vd) := HX.out.cell 0
  have c1 : w0.cell? ⟨w.heap.size, 1, none⟩ = some (.int .i64 ed) := HX.out.cell 1
  have c2 : w0.cell? ⟨w.heap.size, 2, none⟩ = some (.slice ao n cap) := HX.out.cell 2
  go_wp2_with fail
  refine (papercheck_is vd ed ao n cap fs w0 H.out).mono ?_
  rintro e w1 ⟨rfl, k1⟩
  have HX1 := Lib.hid (HX.out.kept k1 id)
  have HK1 := Lib.hid (HK.out.trans k1 (fun _ _ f => f))
  have H1 := Lib.hid (H.out.kept k1)
  clear c0 c1 c2 k1 HX HK H
  unfold chkR
  cases hok : okR vd ed fs with
  | false =>
    have HOK := Lib.hid hok
    clear hok
    simp only [Bool.false_eq_true, if_false]
    go_wp2_with fail
    go_ret2
    exact ⟨HK1.out, .inl ⟨HOK.out, rfl⟩⟩
  | true =>
    have HO := Lib.hid (okR_of hok)
    have HOK := Lib.hid hok
    clear hok
    simp only [if_true]
    have hv := HO.out.v
    have hed := HO.out.e
    have hnn := HO.out.n
    have hzw := HK1.out.size
    have hmf : ∀ (fn : Fn) (first cap : Array Value) (w : World), (Instr.makeFunc fn first cap).run Tryz.prog w = .ok (.func fn first cap) w := fun _ _ _ _ => rfl
    obtain ⟨m, rfl⟩ : ∃ m : Nat, vd = (m : Int) + 1 := ⟨(vd - 1).toNat, by omega⟩
    have hm4 : m < 4 := by omega
    go_upto_region 6 with fail
    have hb6 := BV.new w1
    have hx6 := HX1.out.alloc (.cells #[.pointer none, .slice none 0 0] 73)
    have hk6 : Kept No w1 (w1.alloc (.cells #[.pointer none, .slice none 0 0] 73)) := (Kept.refl _ _).alloc _
    generalize w1.alloc (.cells #[.pointer none, .slice none 0 0] 73) = w6 at *
    have p0 : ∀ p : KW w6, p.w.cell? ⟨w.heap.size, 0, none⟩ = some (.int .i64 (m + 1)) := KW.old (hx6.cell 0) hx6.lt
    have p1 : ∀ p : KW w6, p.w.cell? ⟨w.heap.size, 1, none⟩ = some (.int .i64 ed) := KW.old (hx6.cell 1) hx6.lt
    obtain ⟨sr, hsr⟩ : ∃ x : ByteArray, (⟨(Lib.itoa ed).toArray⟩ : ByteArray) = x := ⟨_, rfl⟩
    obtain ⟨sn, hsn⟩ : ∃ x : ByteArray, (⟨(vname m).toArray⟩ : ByteArray) = x := ⟨_, rfl⟩
    have d1 : ∀ p : KW w6, Calls Tryz.prog 36 #[.int .i64 ed] p.w fun e w' => e = .returned (.string sr) ∧ Kept No p.w w' := fun p => by rw [← hsr]; exact decimal_is ed (by omega) (by omega) p.w (((HT.out.kept HK1.out).kept hk6).kept p.h)
    have hat : vnameS[m]? = some (.string sn) := by rw [← hsn]; exact vnameS_at m hm4
    have HSR := Lib.hid hsr
    have HSN := Lib.hid hsn
    have HAT := Lib.hid hat
    have HB6 := Lib.hid hb6
    have HK6 := Lib.hid hk6
    have D1 := Lib.hid d1
    have hs0 : (m : Int) + 1 - 1 = (m : Int) := by omega
    have hs2 : (0 : Int) ≤ m := by omega
    have hs3 : (m : Int) < 4 := by omega
    clear d1 hsr hsn hat hb6 hx6 hk6
    refine wp_region_dyn_tail ([0, 2, 3, 4, 7, 8] ++ 1 :: ([5, 6] ++ 9 :: 10 :: [])) 11 (by kernel_rfl) (by kernel_rfl) (by kernel_rfl) ?_
    refine dyn_reads _ _ (by kernel_rfl) ?_
    simp only [sel, List.filterMap_cons, List.filterMap_nil, List.getElem?_cons_succ, List.getElem?_cons_zero]
    repeat (show wpQuiet _ _ _ _ (_ :: _) _; go_big_quiet_step (fail))
    refine wpQuiet_nil ?_
    clear p0 p1
    refine dyn_fn 35 #[] rfl rfl rfl (by intro w; go_simp) ?_
    intro p
    refine (pnames_is p.w).mono ?_
    rintro e w2 ⟨rfl, b2, k2⟩
    have hk2 := p.h.trans k2 (fun _ _ f => f)
    refine ⟨_, rfl, k2, ?_⟩
    generalize p.w.heap.size = bn at *
    have q1 : ∀ p : KW w2, p.w.cell? ⟨bn, m, none⟩ = some (.string sn) := KW.old ((b2.cell m).trans HAT.out) b2.lt
    simp only [Act.put, List.setIfInBounds_toArray, List.set]
    refine dyn_reads _ _ (by kernel_rfl) ?_
    simp only [sel, List.filterMap_cons, List.filterMap_nil, List.getElem?_cons_succ, List.getElem?_cons_zero]
    repeat (show wpQuiet _ _ _ _ (_ :: _) _; go_big_quiet_step (fail))
    refine wpQuiet_nil ?_
    clear q1 b2
    refine dyn_fn 36 #[.int .i64 ed] rfl rfl rfl (by intro w; go_simp) ?_
    intro p2
    refine (D1.out ⟨p2.w, hk2.trans p2.h (fun _ _ f => f)⟩).mono ?_
    rintro e w3 ⟨rfl, k3⟩
    have hk3 := (hk2.trans p2.h (fun _ _ f => f)).trans k3 (fun _ _ f => f)
    refine ⟨_, rfl, k3, ?_⟩
    simp only [Act.put, List.setIfInBounds_toArray, List.set]
    refine dyn_call rfl rfl rfl ?_
    intro p4
    unfold callW
    go_simp
    refine ⟨(Kept.refl _ _).alloc _, ?_⟩
    have hk5 := hk3.trans p4.h (fun _ _ f => f)
    generalize p4.w = w5 at *
    refine dyn_nil fun p5 => ?_
    have hrd : Rd (w5.alloc (.cells #[.string sn, .string sr] 9)) 1 (.slice (some ⟨w5.heap.size, 0, none⟩) 2 2) 2 (sv [vname m, Lib.itoa ed]) :=
      box_rd (Box.new w5 #[.string sn, .string sr] 9) (by rw [← HSR.out, ← HSN.out]; rfl) 2 rfl (by unfold maxLen; omega)
    have hk7 := (hk5.alloc _).trans p5.h (fun _ _ f => f)
    have HRD := Lib.hid (hrd.kept p5.h (fun _ _ => id))
    have HB8 := Lib.hid (HB6.out.kept hk7 (fun _ _ => id))
    have HK8 := Lib.hid (HK6.out.trans hk7 (fun _ _ f => f))
    clear hrd hk7 hk2 hk3 hk5 k2 k3 D1 HB6 HK6 HAT
    generalize p5.w = w7 at *
    go_wp2_with fail
    refine (say_v w1.heap.size w1.heap.size _ [] w7 HB8.out HK8.out.size _ 2 _ HRD.out (by omega) (by have := headR_len (vd := (m : Int) + 1) hed; rw [headR, Int.add_sub_cancel, Int.toNat_natCast] at this; omega) (by simp)).mono ?_
    rintro e w9 ⟨rfl, k9, v9, hb9⟩
    have HK9 : Hid (Kept No w1 w9) := Lib.hid (HK8.out.trans k9 (fun q hq h => by have := HB8.out.from h; omega))
    have HB9 : Hid (BV w9 w1.heap.size w1.heap.size v9 (headR (m + 1) ed ++ [10] ++ foundsT (fs.take 0))) := Lib.hid (by
      have e : headR (m + 1) ed ++ [10] ++ foundsT (fs.take 0) = [] ++ (Lib.join [vname m, Lib.itoa ed] [32] ++ [10]) := by
        rw [headR, Int.add_sub_cancel, Int.toNat_natCast]
        simp [foundsT]
      rw [e]
      exact hb9)
    clear hb9 k9 HRD HB8 HK8 HSR HSN
    have c3 : w9.cell? ⟨w.heap.size, 2, none⟩ = some (.slice ao n cap) := (HX1.out.kept HK9.out id).cell 2
    go_wp2_with fail
    go_loopw [33] (fun i wr => ∃ (t : Nat) (v : Value), t ≤ n ∧ i = .int .i64 t ∧ Hid (BV wr w1.heap.size w1.heap.size v (headR (m + 1) ed ++ [10] ++ foundsT (fs.take t))) ∧ Hid (Kept No w1 wr)) (fun i _ => n - (intOf i).toNat)
    case atStart => exact ⟨0, _, by omega, rfl, HB9, HK9⟩
    case round =>
      obtain ⟨t, v, ht, rfl, hbt, hK⟩ := hrel
      clear c3 HB9 HK9
      generalize hwA : wr = wA at *
      clear hwA
      by_cases hlt : t < n
      · obtain ⟨f, hf⟩ : ∃ f, fs[t]? = some f := ⟨_, List.getElem?_eq_getElem (by have := HN.out; omega)⟩
        have hpk := H1.out.pk hf
        obtain ⟨g, o, rfl, hg, e0, e1, e2, e3⟩ := (H1.out.kept hK.out).at hf
        obtain ⟨hkey, hz1, hz2, hzs⟩ := HO.out.fine t f hf
        have hp4 := HSM.out.p t f hf
        have htk : Hid (foundsT (fs.take (t + 1)) = foundsT (fs.take t) ++ foundT f) := Lib.hid (by rw [List.take_add_one, hf]; exact foundsT_snoc _ _)
        have hft := foundT_len hkey hzs hp4
        have hfl := foundsT_len HO.out HSM.out t
        have hhl := headR_len (vd := (m : Int) + 1) hed
        have ht100 : t < 100 := by have := HSM.out.n; have := HN.out; omega
        obtain ⟨fk, fi, fj, fv, fm, fzs⟩ := f
        have hflm : fzs.length = fm := by have := hpk.len; rw [vals_len] at this; simpa using this
        obtain ⟨-, A, C, hfv, hAC, hCm, -, hRz⟩ := id hpk
        simp only at hfv e0 e1 e2 e3 hpk hkey hz1 hz2 hzs hp4 hft hRz
        subst hfv
        unfold maxLen at hCm
        obtain ⟨sk, hsk⟩ : ∃ x : ByteArray, (⟨(keyT fk fi fj).toArray⟩ : ByteArray) = x := ⟨_, rfl⟩
        have htx := fun w hT => text_is fk fi fj w hT
        rw [hsk] at htx
        have hkl := keyT_bd hkey
        have HTX := Lib.hid htx
        have HSK := Lib.hid hsk
        have HRZ := Lib.hid hRz
        have HFL := Lib.hid hflm
        have HZS := Lib.hid hzs
        have hcur : (headR (m + 1) ed ++ [10] ++ foundsT (fs.take t)).length ≤ 90000 := by
          simp only [List.length_append, List.length_cons, List.length_nil]; omega
        clear hpk hf hkey hzs hsk htx hRz hflm
        go_upto_region 10 with fail
        clear e0 e1 e2 e3
        have hkA : Kept No wA (wA.alloc (.cells #[.int .i64 fk, .int .i64 fi, .int .i64 fj, .slice A fm C] 48)) := (Kept.refl _ _).alloc _
        have hyA := Box.new wA #[.int .i64 fk, .int .i64 fi, .int .i64 fj, .slice A fm C] 48
        generalize hww : wA.alloc (.cells #[.int .i64 fk, .int .i64 fi, .int .i64 fj, .slice A fm C] 48) = w10 at *
        clear hww
        have y0 : w10.cell? ⟨wA.heap.size, 0, none⟩ = some (.int .i64 fk) := hyA.cell 0
        have y1 : w10.cell? ⟨wA.heap.size, 1, none⟩ = some (.int .i64 fi) := hyA.cell 1
        have y2 : w10.cell? ⟨wA.heap.size, 2, none⟩ = some (.int .i64 fj) := hyA.cell 2
        have HY := Lib.hid hyA
        have HK10 := Lib.hid (hK.out.trans hkA (fun _ _ f => f))
        have HB10 := Lib.hid (hbt.out.kept hkA (fun _ _ => id))
        clear hyA hkA
        go_wp2_with fail
        refine (HTX.out w10 (HT.out.kept (HK1.out.trans HK10.out (fun _ _ f => f)))).mono ?_
        rintro e w11 ⟨rfl, k11⟩
        have HRD := Lib.hid (mk_sv w11 _ sk HSK.out)
        have hkB : Kept No w10 (w11.alloc (.cells #[.string sk] 9)) := k11.alloc _
        have HY11 := Lib.hid (HY.out.kept hkB id)
        have HK11 := Lib.hid (HK10.out.trans hkB (fun _ _ f => f))
        have HB11 := Lib.hid (HB10.out.kept hkB (fun _ _ => id))
        clear hkB k11 y0 y1 y2 HY HK10 HB10
        go_wp2_with fail
        refine (say_v w1.heap.size w1.heap.size v _ _ HB11.out HK11.out.size _ 1 _ HRD.out (by omega) (by rw [Lib.join_one]; omega) (by omega)).mono ?_
        rintro e w12 ⟨rfl, k12, v12, hb12⟩
        rw [Lib.join_one] at hb12
        have HY12 := Lib.hid (HY11.out.kept k12 (bv_box HB11.out HY11.out))
        have HK12 : Hid (Kept No w1 w12) := Lib.hid (HK11.out.trans k12 (fun q hq h => by have := HB11.out.from h; omega))
        have HB12 := Lib.hid hb12
        clear k12 hb12 HRD HY11 HK11 HB11
        have y3 : w12.cell? ⟨wA.heap.size, 3, none⟩ = some (.slice A fm C) := HY12.out.cell 3
        go_wp2_with fail
        clear y3 HY12
        have hfm400 : fm ≤ 400 := by have := HFL.out; omega
        obtain ⟨cur, hcq⟩ : ∃ c, headR (m + 1) ed ++ [10] ++ foundsT (fs.take t) ++ (keyT fk fi fj ++ [10]) = c := ⟨_, rfl⟩
        have hcl : cur.length ≤ 95000 := by rw [← hcq]; simp only [List.length_append, List.length_cons, List.length_nil] at hcur ⊢; omega
        have hnext : Hid (headR (m + 1) ed ++ [10] ++ foundsT (fs.take (t + 1)) = cur ++ (picksT fzs ++ [10])) := Lib.hid (by rw [htk.out, ← hcq, foundT]; simp only [List.append_assoc])
        have HB12' := HB12.out
        rw [hcq] at HB12'
        have HB13 := Lib.hid HB12'
        clear HB12 HB12' hcq htk hbt hcur
        obtain ⟨i0, hi, hz0, hz1', hz2'⟩ := info_parts info_string
        go_loopw [9, 46] (fun l i wr => ∃ q : Nat, q ≤ fm ∧ i = .int .i64 q ∧ Hid (Seg wr w1.heap.size 9 1 l q (sv ((fzs.take q).map Lib.itoa))) ∧ Hid (BV wr w1.heap.size w1.heap.size v12 cur) ∧ Hid (Kept No w1 wr)) (fun _ i _ => fm - (intOf i).toNat)
        case atStart => exact ⟨0, by omega, rfl, Lib.hid (Seg.nil _ _ _ _), HB13, HK12⟩
        case round =>
          obtain ⟨q, hq, rfl, hSq, hBq, hKq⟩ := hrel
          have hzq := hKq.out.size
          by_cases hlq : q < fm
          · obtain ⟨g3, o3, rfl, hg3, hc3⟩ := HRZ.out (by omega)
            obtain ⟨z, hz⟩ : ∃ z, fzs[q]? = some z := ⟨_, List.getElem?_eq_getElem (by have := HFL.out; omega)⟩
            have d1 : wr.cell? ⟨g3, o3 + q, none⟩ = some (.int .i64 z) := (hKq.out.cell (p := ⟨g3, o3 + q, none⟩) hg3 id).trans (hc3 q _ (by rw [vals, List.getElem?_map, hz]; rfl))
            have hzz := HZS.out z (List.mem_of_getElem? hz)
            obtain ⟨sz, hsz⟩ : ∃ x : ByteArray, (⟨(Lib.itoa z).toArray⟩ : ByteArray) = x := ⟨_, rfl⟩
            have hdec := fun w hT => decimal_is z (by omega) (by omega) w hT
            rw [hsz] at hdec
            have HD := Lib.hid hdec
            have htz : Hid (sv ((fzs.take (q + 1)).map Lib.itoa) = sv ((fzs.take q).map Lib.itoa) ++ [.string sz]) := Lib.hid (by
              rw [List.take_add_one, hz, ← hsz]
              simp [sv])
            clear hc3 hz hsz hdec
            go_wp2_with fail
            refine (HD.out wr (HT.out.kept (HK1.out.trans hKq.out (fun _ _ f => f)))).mono ?_
            rintro e w13 ⟨rfl, k13⟩
            have hkA : Kept No wr (w13.alloc (.cells #[.string sz] 9)) := k13.alloc _
            have HS13 := Lib.hid (hSq.out.kept hkA (fun _ _ f => f))
            have HB14 := Lib.hid (hBq.out.kept hkA (fun _ _ => id))
            have HK13 := Lib.hid (hKq.out.trans hkA (fun _ _ f => f))
            have hz13 := HK13.out.size
            clear d1 k13 hkA hSq hBq hKq
            go_wp2_with (at_builtin; refine wpList_append_seg rfl _ _ 36 rfl w1.heap.size 9 i0 (.string ⟨#[]⟩) 1 16 Tryz.underlying36 hi hz0 hz1' hz2' rfl (by decide) _ _ _ rfl HS13.out ⟨_, 0, none⟩ 1 1 [.string sz] rfl rfl (cell_one _ _ _) (fun u hu => by simp at hu; subst hu; rfl) (by unfold maxLen; omega) (by omega) hz13 ?_)
            intro v14 w14 hs14 hg14 hb14
            have K14 : Hid (Kept No w1 w14) := Lib.hid (HK13.out.grown hg14 (fun x hx h => by have := (HS13.out.lt x h).1; omega))
            have B14 : Hid (BV w14 w1.heap.size w1.heap.size v12 cur) := Lib.hid (HB14.out.kept ((Kept.refl (fun x => u9.ownBlock = some x) _).grown hg14 (fun _ _ h => h)) (fun x hx e => bv_seg HB14.out HS13.out x e hx))
            have S14 : Hid (Seg w14 w1.heap.size 9 1 v14 (q + 1) (sv ((fzs.take (q + 1)).map Lib.itoa))) := Lib.hid (by rw [htz.out, List.map_take]; exact hs14)
            clear hs14 hg14 hb14 HS13 HB14 HK13 hz13
            go_wp2_with fail
            go_roundw
            case rel => exact ⟨q + 1, by omega, by go_num, S14, B14, K14⟩
            case measure => simp [intOf]; omega
          · obtain rfl : q = fm := by omega
            have hjl := picksT_len HZS.out
            unfold picksT at hjl
            have hsq := hSq.out
            rw [List.take_of_length_le (by have := HFL.out; omega)] at hsq
            have HSQ := Lib.hid hsq
            have hq400 : q ≤ 400 := by have := HFL.out; omega
            clear hSq hsq hi hz0 hz1' hz2'
            go_wp2_with fail
            refine (say_v w1.heap.size w1.heap.size v12 cur wr hBq.out hzq _ q _ HSQ.out.rd (by omega) (by omega) (by omega)).mono ?_
            rintro e w16 ⟨rfl, k16, v16, hb16⟩
            have K16 : Hid (Kept No w1 w16) := Lib.hid (hKq.out.trans k16 (fun x hx h => by have := hBq.out.from h; omega))
            have B16 : Hid (BV w16 w1.heap.size w1.heap.size v16 (headR (m + 1) ed ++ [10] ++ foundsT (fs.take (t + 1)))) := Lib.hid (by rw [hnext.out]; exact hb16)
            clear k16 hb16 hBq hKq HSQ
            go_wp2_with fail
            go_roundw
            case rel => exact ⟨t + 1, v16, by omega, by go_num, B16, K16⟩
            case measure => simp [intOf]; omega
      · obtain rfl : t = n := by omega
        have hfin : Hid (headR (m + 1) ed ++ [10] ++ foundsT (fs.take t) = textR (m + 1) ed fs) := Lib.hid (by rw [List.take_of_length_le (by have := HN.out; omega)]; rfl)
        have hbf := hbt.out
        rw [hfin.out] at hbf
        have HBF := Lib.hid (Tryz.Builder_String_any w1.heap.size w1.heap.size _ wA hbf.isB hK.out.size)
        clear hbt hbf
        go_wp2_with fail
        refine HBF.out.mono ?_
        rintro e w20 ⟨rfl, hB20⟩
        have HKF := Lib.hid (HK1.out.trans (hK.out.trans (Kept.of_below hB20 (S := From w1.heap.size) (fun k h1 h2 => h1)) (fun q hq h => by have : w1.heap.size ≤ q := h; omega)) (fun _ _ f => f))
        clear hB20
        go_wp2_with fail
        go_ret2
        exact ⟨HKF.out, .inr ⟨HOK.out, rfl⟩⟩
end Go.Proofs.YtaffaliplmfagaaGreatDoor.Line
