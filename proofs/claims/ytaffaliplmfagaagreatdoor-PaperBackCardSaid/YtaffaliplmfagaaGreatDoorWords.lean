/-
  strings.SplitSeq at one octet; the words of a line.
-/
import Derived.Test.YtaffaliplmfagaaGreatDoorCut
import Derived.Test.YtaffaliplmfagaaGreatDoorRange
set_option linter.unusedVariables false
namespace Go.Proofs.YtaffaliplmfagaaGreatDoor.Line
open Go.RowKit Go.Shelf Go.Sort Go.Proofs.YtaffaliplmfagaaGreatDoor.Own Go.Proofs.YtaffaliplmfagaaGreatDoor.Conv Go.Proofs.YtaffaliplmfagaaGreatDoor.Range
attribute [local go_sem] Oper.semAt_some

def enS (x : List UInt8) : Value := .string ⟨x.toArray⟩
/-- How long the text in a box is. -/
def leftS (B : Nat) (W : World) : Nat := match W.cell? ⟨B, 0, none⟩ with
  | some (.string s) => s.size
  | _ => 0
def S3 (Bs Bp Bv k : Nat) : Prop := k = Bs ∨ k = Bp ∨ k = Bv

set_option maxRecDepth 100000 in
set_option maxHeartbeats 4000000 in
theorem seq_each (n l Bs Bp Bv : Nat) (hn : 1 ≤ n) (hd1 : Bs ≠ Bp) (hd2 : Bs ≠ Bv) (c : UInt8) (x0 : List UInt8) (hlim : x0.length ≤ 1000000) (J Jx : List (List UInt8) → World → Prop) (hJ : ∀ t A v, J t A → J t (A.setCell ⟨Bs, 0, none⟩ v))
    (hY : ∀ pre x W, J pre W → (pre ++ [x]) <+: pieces c x0 → YieldAt Fence.wide (n - 1) Tryz.prog l #[enS x] W fun e W' =>
      (e = .returned (.bool true) ∧ J (pre ++ [x]) W' ∧ (∀ k, S3 Bs Bp Bv k → W'.heap[k]? = W.heap[k]?)) ∨ (e = .returned (.bool false) ∧ Jx (pre ++ [x]) W'))
    (W : World) (hs : Boxed W Bs 9 (.string ⟨x0.toArray⟩)) (hp : Boxed W Bp 9 (.string ⟨#[c]⟩)) (hv : Boxed W Bv 3 (.int .i64 0)) (h0 : J [] W) :
    CallsIn Fence.wide n Tryz.prog 86 #[.func (.yield l) #[] #[], .pointer (some ⟨Bp, 0, none⟩), .pointer (some ⟨Bs, 0, none⟩), .pointer (some ⟨Bv, 0, none⟩)] W fun e W' => (∃ v, e = .returned v) ∧ (J (pieces c x0) W' ∨ ∃ pre, pre <+: pieces c x0 ∧ Jx pre W') := by
  refine callsIn_of_wp Tryz.func86 rfl trivial ?_ rfl
  simp only [Tryz.ntmps86, List.size_toArray, List.length_cons, List.length_nil, Nat.reduceAdd, Nat.reduceSub, Array.replicate_succ, Array.replicate_zero, List.push_toArray, List.append_toArray, List.nil_append, List.cons_append]
  have cp := hp.cell
  gi_wp2
  gi_loopw [7] (fun _ wr => ∃ (pre : List (List UInt8)) (rest : List UInt8) (sb : ByteArray), Hid (sb = ⟨rest.toArray⟩) ∧ Hid (pieces c x0 = pre ++ pieces c rest) ∧ Boxed wr Bs 9 (.string sb) ∧ Boxed wr Bp 9 (.string ⟨#[c]⟩) ∧ Boxed wr Bv 3 (.int .i64 0) ∧ J pre wr ∧ rest.length ≤ x0.length) (fun _ wr => leftS Bs wr)
  case atStart => exact ⟨[], x0, _, Lib.hid rfl, Lib.hid rfl, hs, hp, hv, h0, Nat.le_refl _⟩
  case round =>
    obtain ⟨pre, rest, sb, hsb, hpp, bs, bp, bv, hj, hle⟩ := hrel
    have cs := bs.cell
    have cp2 := bp.cell
    have cv := bv.cell
    have hix := Tryz.strings_Index_one sb c wr
    have hsd : sb.data.toList = rest := by rw [hsb.out]
    rw [hsd] at hix
    have HX := Lib.hid hix
    clear hix hsd
    rcases index_cases rest c with hn | ⟨i, hi⟩
    · have hpc := pieces_miss c rest (at_none hn)
      have hfull : pieces c x0 = pre ++ [rest] := by rw [hpp.out, hpc]
      obtain ⟨fn, tmps, assign, body, hy, hR⟩ := hY pre rest wr hj (by rw [hfull]; exact List.prefix_refl _)
      rw [show enS rest = .string sb by rw [hsb.out]; rfl] at hy
      have HF := Lib.hid hfull
      have hi0 : Lib.indexByte rest c = -1 := hn
      have HI := Lib.hid hi0
      clear hpc hfull hn hi0
      gi_wp2_with (first | (refine ⟨trivial, ?_⟩; gi_at_call 88; refine (callsIn_wide.2 HX.out).mono ?_; rw [HI.out]; rintro e w' ⟨rfl, rfl⟩))
      refine hR.mono ?_
      rintro e W3 (⟨rfl, hJ3, hk3⟩ | ⟨rfl, hJx3⟩)
      · gi_wp2
        go_end0
        rw [HF.out]
        exact ⟨⟨_, rfl⟩, .inl hJ3⟩
      · gi_wp2
        go_end0
        rw [HF.out]
        exact ⟨⟨_, rfl⟩, .inr ⟨pre ++ [rest], List.prefix_refl _, hJx3⟩⟩
    · obtain ⟨h1, h2, h3⟩ := at_some hi
      have hpc : pieces c rest = rest.take i :: pieces c (rest.drop (i + 1)) := by
        have := pieces_hit c (rest.take i) (rest.drop (i + 1)) h2
        rwa [← h1] at this
      have hfull : pieces c x0 = (pre ++ [rest.take i]) ++ pieces c (rest.drop (i + 1)) := by rw [hpp.out, hpc]; simp
      obtain ⟨fn, tmps, assign, body, hy, hR⟩ := hY pre (rest.take i) wr hj (by rw [hfull]; exact ⟨_, rfl⟩)
      have hsz : sb.size = rest.length := by rw [hsb.out]; exact mk_size rest
      have htk : sb.extract 0 i = ⟨(rest.take i).toArray⟩ := by rw [hsb.out]; exact ext_take rest i
      have hdr : sb.extract (i + 1) sb.size = ⟨(rest.drop (i + 1)).toArray⟩ := by rw [hsz, hsb.out]; exact ext_drop rest (i + 1) rest.length (Nat.le_refl _)
      rw [show enS (rest.take i) = .string (sb.extract 0 i) by rw [htk]; rfl] at hy
      have HF := Lib.hid hfull
      have HI := Lib.hid hi
      have HD := Lib.hid hdr
      have c1 : (0 : Int) ≤ ↑i := by omega
      have c2 : (↑i : Int) ≤ ↑sb.size := by rw [hsz]; omega
      have c3 : (0 : Int) ≤ ↑i + 1 := by omega
      have c4 : (↑i + 1 : Int) ≤ ↑sb.size := by rw [hsz]; omega
      have hml : (⟨(rest.drop (i + 1)).toArray⟩ : ByteArray).size < sb.size := by rw [mk_size, hsz]; simp; omega
      have HM := Lib.hid hml
      clear hpc hfull hi h1 h2 htk hdr hsz hml
      gi_wp2_with (first | (refine ⟨trivial, ?_⟩; gi_at_call 88; refine (callsIn_wide.2 HX.out).mono ?_; rw [HI.out]; rintro e w' ⟨rfl, rfl⟩))
      refine hR.mono ?_
      rintro e W3 (⟨rfl, hJ3, hk3⟩ | ⟨rfl, hJx3⟩)
      · have bs3 : Boxed W3 Bs 9 (.string sb) := (hk3 Bs (.inl rfl)).trans bs
        have bp3 : Boxed W3 Bp 9 (.string ⟨#[c]⟩) := (hk3 Bp (.inr (.inl rfl))).trans bp
        have bv3 : Boxed W3 Bv 3 (.int .i64 0) := (hk3 Bv (.inr (.inr rfl))).trans bv
        have cs3 := bs3.cell
        have fs3 := bs3.frozen
        have cp3 := bp3.cell
        have hl0 : leftS Bs w' = sb.size := by simp only [leftS, cs]
        have Hl0 := Lib.hid hl0
        clear hk3 hl0
        gi_wp2
        have b4 := bs3.set (.string (sb.extract (i + 1) sb.size))
        go_roundw
        case rel => exact ⟨pre ++ [rest.take i], rest.drop (i + 1), _, HD, HF, b4, bp3.kept (grownBy_setCell' W3 Bs _) (fun e => hd1 (Option.some.inj e).symm), bv3.kept (grownBy_setCell' W3 Bs _) (fun e => hd2 (Option.some.inj e).symm), hJ _ _ _ hJ3, by simp; omega⟩
        case measure =>
          have c4 := b4.cell
          rw [Hl0.out]
          simp only [leftS, c4]
          rw [HD.out]
          exact HM.out
      · gi_wp2
        refine bodyPost_ret (results_none rfl _ _ _) rfl ?_
        rw [HF.out]
        exact ⟨⟨_, rfl⟩, .inr ⟨pre ++ [rest.take i], ⟨_, rfl⟩, hJx3⟩⟩
end Go.Proofs.YtaffaliplmfagaaGreatDoor.Line
