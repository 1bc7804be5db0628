/-
  The words of a line: the loop over strings.SplitSeq.
-/
import Derived.Test.YtaffaliplmfagaaGreatDoorWords
set_option linter.unusedVariables false
namespace Go.Proofs.YtaffaliplmfagaaGreatDoor.Line
open Go.RowKit Go.Shelf Go.Sort Go.Proofs.YtaffaliplmfagaaGreatDoor.Own Go.Proofs.YtaffaliplmfagaaGreatDoor.Conv Go.Proofs.YtaffaliplmfagaaGreatDoor.Range
attribute [local go_sem] Oper.semAt_some

/-- The world behind strings.SplitSeq: the text, the separator, a number, each in a box of its own. -/
def seqWorld (w : World) (s : ByteArray) (c : UInt8) : World := ((w.alloc (.cells #[.string s] 9)).alloc (.cells #[.string ⟨#[c]⟩] 9)).alloc (.cells #[.int .i64 0] 3)
theorem seq_is (s : ByteArray) (c : UInt8) (w : World) :
    Calls Tryz.prog 65 #[.string s, .string ⟨#[c]⟩] w fun e w' => e = .returned (.func (.func 86) #[] #[.pointer (some ⟨w.heap.size + 1, 0, none⟩), .pointer (some ⟨w.heap.size, 0, none⟩), .pointer (some ⟨w.heap.size + 2, 0, none⟩)]) ∧ w' = seqWorld w s c := by
  go_enter Tryz.func65, Tryz.ntmps65
  go_wp2
  go_ret
  exact ⟨rfl, rfl⟩

theorem seq_kept (w : World) (s : ByteArray) (c : UInt8) : Kept No w (seqWorld w s c) := (((Kept.refl No w).alloc _).alloc _).alloc _
theorem seq_size (w : World) (s : ByteArray) (c : UInt8) : (seqWorld w s c).heap.size = w.heap.size + 3 := by simp [seqWorld]
theorem seq_boxes (w : World) (s : ByteArray) (c : UInt8) : Boxed (seqWorld w s c) w.heap.size 9 (.string s) ∧ Boxed (seqWorld w s c) (w.heap.size + 1) 9 (.string ⟨#[c]⟩) ∧ Boxed (seqWorld w s c) (w.heap.size + 2) 3 (.int .i64 0) := by
  have b1 := Boxed.new w 9 (.string s)
  have b2 := Boxed.new (w.alloc (.cells #[.string s] 9)) 9 (.string ⟨#[c]⟩)
  have b3 := Boxed.new ((w.alloc (.cells #[.string s] 9)).alloc (.cells #[.string ⟨#[c]⟩] 9)) 3 (.int .i64 0)
  simp only [World.size_alloc] at b2 b3
  exact ⟨(b1.alloc _).alloc _, b2.alloc _, b3⟩

/-- The pieces that are words. -/
def fil (ps : List (List UInt8)) : List (List UInt8) := ps.filter fun p => !p.isEmpty
theorem fil_snoc (ps : List (List UInt8)) (x : List UInt8) : fil (ps ++ [x]) = if x = [] then fil ps else fil ps ++ [x] := by
  unfold fil
  rw [List.filter_append]
  cases x <;> simp

theorem appended2 {W w1 : World} {n₀ B : Nat} {t e : TypeId} {size : Nat} {v v' : Value} {k m : Nat} {xs ys : List Value} {tmp : Obj}
    (hv : Boxed W B t v) (hte : t ≠ e) (hrow : W.ownsRow n₀ e size v k xs) (hn₀ : n₀ ≤ W.heap.size) (hown' : w1.ownsRow n₀ e size v' m ys) (hgrow : (W.alloc tmp).grownBy w1 v.ownBlock) :
    Boxed w1 B t v ∧ Boxed (w1.setCell ⟨B, 0, none⟩ v') B t v' ∧ (w1.setCell ⟨B, 0, none⟩ v').ownsRow n₀ e size v' m ys ∧ KeepsOthers W (w1.setCell ⟨B, 0, none⟩ v') ∧ Kept (fun j => j = B ∨ n₀ ≤ j) W (w1.setCell ⟨B, 0, none⟩ v') := by
  have hv1 : Boxed w1 B t v := (hv.alloc tmp).kept hgrow (hv.not_row hte hrow)
  refine ⟨hv1, hv1.set v', hown'.kept (grownBy_setCell' w1 B v') (.inr (hv1.not_row hte hown').symm), ?_, ?_⟩
  · refine ((KeepsOthers.alloc W tmp).trans (KeepsOthers.of_grownBy hgrow fun j o ej hj => ?_)).trans (KeepsOthers.setCell _ _ _)
    rcases (hrow.alloc tmp).2 with ⟨rfl, _⟩ | ⟨g, cap, cur, rfl, _, hgb, _⟩
    · simp [Value.ownBlock] at ej
    · obtain rfl : g = j := by simpa [Value.ownBlock] using ej
      rw [hgb] at hj; cases hj; rfl
  · refine (((Kept.refl _ W).alloc tmp).grown hgrow fun j _ ej => .inr ?_).setCell (p := ⟨B, 0, none⟩) (fun _ => .inl rfl) v'
    rcases hrow.2 with ⟨rfl, _⟩ | ⟨g, cap, cur, rfl, hb, _, _⟩
    · simp [Value.ownBlock] at ej
    · obtain rfl : g = j := by simpa [Value.ownBlock] using ej
      exact hb

set_option maxRecDepth 100000 in
set_option maxHeartbeats 4000000 in
theorem words_is (l : List UInt8) (hl : l.length ≤ 100000) (w : World) :
    Calls Tryz.prog 50 #[.string ⟨l.toArray⟩] w (TextsPost w (wordsL l)) := by
  obtain ⟨i0, hi, hz0, hz1, hz2⟩ := info_parts info_string
  obtain ⟨s0, hs0⟩ : ∃ s : ByteArray, (⟨l.toArray⟩ : ByteArray) = s := ⟨_, rfl⟩
  have HS0 := Lib.hid hs0
  rw [hs0]
  clear hs0
  refine (callsIn_wide (n := 4)).1 ?_
  refine callsIn_of_wp_marks Tryz.func50 rfl trivial ?_ rfl
  simp only [Tryz.ntmps50, List.size_toArray, List.length_cons, List.length_nil, Nat.reduceAdd, Nat.reduceSub, Array.replicate_succ, Array.replicate_zero, List.push_toArray, List.append_toArray, List.nil_append, List.cons_append]
  gi_wp2_with (first | (refine ⟨trivial, ?_⟩; gi_at_call 65; refine (callsIn_wide.2 (seq_is s0 32 _)).mono ?_; rintro e w' ⟨rfl, rfl⟩))
  have kb : Kept No w (seqWorld (w.alloc (.cells #[.slice none 0 0] 36)) s0 32) := ((Kept.refl No w).alloc (.cells #[.slice none 0 0] 36)).trans (seq_kept _ s0 32) (fun _ _ f => f)
  have hb1 := (Boxed.new w 36 (.slice none 0 0))
  have hsq := seq_boxes (w.alloc (.cells #[.slice none 0 0] 36)) s0 32
  have hss := seq_size (w.alloc (.cells #[.slice none 0 0] 36)) s0 32
  have hb0 : Boxed (seqWorld (w.alloc (.cells #[.slice none 0 0] 36)) s0 32) w.heap.size 36 (.slice none 0 0) :=
    ((seq_kept (w.alloc (.cells #[.slice none 0 0] 36)) s0 32).block w.heap.size (by simp) id).trans hb1
  obtain ⟨W0, hW0⟩ : ∃ W0, seqWorld (w.alloc (.cells #[.slice none 0 0] 36)) s0 32 = W0 := ⟨_, rfl⟩
  rw [hW0] at kb hsq hss hb0 ⊢
  simp only [World.size_alloc] at hsq hss
  obtain ⟨b1, b2, b3⟩ := hsq
  clear hb1 hW0
  have hz0w : W0.heap.size = w.heap.size + 4 := by omega
  have hsv : enS l = .string s0 := by rw [enS, HS0.out]
  refine range_gen enS 4 (by omega) 86 #[.pointer (some ⟨w.heap.size + 1 + 1, 0, none⟩), .pointer (some ⟨w.heap.size + 1, 0, none⟩), .pointer (some ⟨w.heap.size + 1 + 2, 0, none⟩)] rfl (enters_of Tryz.func86 (by kernel_rfl) rfl) rfl
    (w.heap.size + 1) (by omega) (S3 (w.heap.size + 1) (w.heap.size + 1 + 1) (w.heap.size + 1 + 2)) (fun k hk => by rcases hk with h | h | h <;> omega) (pieces 32 l)
    (fun l' J Jx hJ hY W hS' hsz h0 => seq_each 3 l' (w.heap.size + 1) (w.heap.size + 1 + 1) (w.heap.size + 1 + 2) (by omega) (by omega) (by omega) 32 l (by omega) J Jx hJ hY W (by have := (hS' _ (.inl rfl)).trans b1; rw [← hsv] at this; exact this) ((hS' _ (.inr (.inl rfl))).trans b2) ((hS' _ (.inr (.inr rfl))).trans b3) h0)
    (fun pre W => (∃ v, Boxed W w.heap.size 36 v ∧ W.ownsRow W0.heap.size 9 1 v (fil pre).length (sv (fil pre))) ∧ (∃ r, Boxed W (w.heap.size + 1) 9 r) ∧ Kept No w W ∧ W0.heap.size ≤ W.heap.size)
    (fun c pre W => False)
    ⟨?own, ?box⟩
    (fun c t A B row h _ _ => h)
    ⟨⟨_, hb0, World.ownsRow_nil _ _ _ _⟩, ⟨_, b1⟩, kb, Nat.le_refl _⟩
    (fun x => { tmps := #[.string s0, undef, .slice none 0 0, .pointer (some ⟨w.heap.size, 0, none⟩), enS x, .string s0, .func (.func 86) #[] #[.pointer (some ⟨w.heap.size + 1 + 1, 0, none⟩), .pointer (some ⟨w.heap.size + 1, 0, none⟩), .pointer (some ⟨w.heap.size + 1 + 2, 0, none⟩)], enS x, undef, undef, undef, undef, undef, undef, undef], defers := [] }) ?assign ?body ?done ?stop
  case own =>
    rintro t A B row ⟨⟨v, h1, h2⟩, ⟨r, h3⟩, h4, h5⟩ hg hr
    obtain ⟨v', h1', h2', _⟩ := holdsRow_own (β := List (List UInt8)) W0.heap.size w.heap.size 36 9 1 (fun t => (fil t).length) (fun t => sv (fil t)) (fun _ _ => True) t A B row ⟨v, h1, h2, trivial⟩ hg (fun r e => (hr r e).2)
    refine ⟨⟨v', h1', h2'⟩, ⟨r, h3.kept hg (fun e => ?_)⟩, h4.grown hg (fun k hk e => by have := (hr k e).1; omega), Nat.le_trans h5 hg.size⟩
    obtain ⟨_, o, ho, hc⟩ := hr _ e.symm
    rw [show A.heap[w.heap.size + 1]? = _ from h3] at ho; cases ho; cases hc
  case box =>
    rintro t W v ⟨⟨v', h1, h2⟩, ⟨r, h3⟩, h4, h5⟩
    refine ⟨⟨v', h1.kept (grownBy_setCell' W _ v) (fun e => by have := Option.some.inj e; omega), h2.kept (grownBy_setCell' W _ v) ?_⟩, ⟨v, h3.set v⟩, h4.setCell (fun h => by simp only at h; omega) _, by simpa using h5⟩
    cases ho : v'.ownBlock with
    | none => exact .inl rfl
    | some g => exact .inr (fun e => by have := (h2.lt g ho).1; have := Option.some.inj e; omega)
  case assign =>
    intro l' x W K hK
    gi_wp2
    exact hK
  case body =>
    rintro l' pre x W ⟨⟨v, hv, hrow⟩, ⟨r, h3⟩, h4, h5⟩ hp
    have hfl : (fil pre).length ≤ l.length := by
      have h6 := List.length_filter_le (fun p : List UInt8 => !p.isEmpty) pre
      have h7 := hp.length_le
      have h8 := pieces_len 32 l
      unfold fil
      simp at h7
      omega
    have hsn := fil_snoc pre x
    obtain ⟨sx, hsx⟩ : ∃ s : ByteArray, (⟨x.toArray⟩ : ByteArray) = s := ⟨_, rfl⟩
    have hxv : enS x = .string sx := by rw [enS, hsx]
    have hsv1 : sv [x] = [.string sx] := by rw [← hsx]; rfl
    simp only [hxv]
    have c1 := hv.cell
    have f1 := hv.frozen
    by_cases hx0 : x = []
    · have he : (!sx.toList.isEmpty) = false := by rw [← hsx, mk_toList, hx0]; rfl
      rw [if_pos hx0] at hsn
      have Hsn := Lib.hid hsn
      clear hsn hsx hxv hsv1 hx0
      gi_wp2
      exact ⟨(KeepsOthers.refl _).from _, fun k _ => rfl, ⟨v, hv, by rw [Hsn.out]; exact hrow⟩, ⟨r, h3⟩, h4, h5⟩
    · have he : (!sx.toList.isEmpty) = true := by rw [← hsx, mk_toList]; simp [hx0]
      rw [if_neg hx0] at hsn
      have Hsn := Lib.hid hsn
      have Hsv := Lib.hid hsv1
      clear hsn hsx hxv hsv1 hx0
      gi_wp2_with (first
        | (gi_at_builtin; refine wpListIn_append_own _ rfl _ _ 36 rfl W0.heap.size 9 i0 (.string ⟨#[]⟩) 1 16 Tryz.underlying36 hi hz0 hz1 hz2 rfl (by decide) _ _ _ rfl (hrow.alloc _) ⟨W.heap.size, 0, none⟩ 1 1 [.string sx] rfl rfl (cell_one_new _ _ _) (by simp [Value.oneCell']) (by unfold maxLen; omega) (by omega) (by simp; omega) ?_; intro v' w1 hown' hgrow _; obtain ⟨g', cap', rfl⟩ := ownsRow_succ hown'; obtain ⟨hv1, hv2, hr2, hk2, hb2⟩ := appended2 hv (by decide) hrow h5 hown' hgrow; have hc1 := hv1.cell; have hf1 := hv1.frozen))
      have hlt3 := h3.lt
      refine ⟨hk2.from _, fun k hk => hb2.block k (by rcases hk with h | h | h <;> omega) (fun h => by rcases hk with hh | hh | hh <;> rcases h with h | h <;> omega), ⟨_, hv2, ?_⟩, ⟨r, (hb2.block _ hlt3 (fun h => by rcases h with h | h <;> omega)).trans h3⟩, h4.trans hb2 (fun k hk h => by rcases h with h | h <;> omega), Nat.le_trans h5 hb2.size⟩
      rw [Hsn.out, List.length_append, sv_app, Hsv.out]
      simpa using hr2
  case done =>
    rintro D W hD ⟨⟨v, hv, hrow⟩, ⟨r, h3⟩, h4, h5⟩ hK
    have c1 := hv.cell
    have f1 := hv.frozen
    gi_wp2
    refine ⟨by simp, .inl ⟨_, _, rfl, run_takeDeferred hK, ?_⟩⟩
    refine ⟨_, results_tmp rfl _ _ _, h4.trans (T := fun k => k = D) ⟨rfl, rfl, rfl, by simp, fun k _ hk => World.putObj_heap_other (fun e => hk e)⟩ (fun k hk e => by omega), v, rfl, ?_⟩
    exact (Seg.of_owns (ownsRow_putObj hrow _ hK rfl)).mono (by omega)
  case stop =>
    rintro D c pre W _ _ h _
    exact h.elim
end Go.Proofs.YtaffaliplmfagaaGreatDoor.Line
