/-
  Structs of integers held against each other by '==', as one Bool; the last entry of a place: Last, last; Entries.
-/
import Derived.Test.YtgjoofjkhcnekaaBuf3
set_option linter.unusedVariables false
namespace Go.Proofs.Ytgjoofjkhcnekaa.Buf
open Go.RowKit Go.Conc Go.Proofs.Ytgjoofjkhcnekaa.Chan Go.Proofs.Ytgjoofjkhcnekaa.Own

section
variable {P : Program} {d : Nat} {xs ys : Array Value} {f : Field} {fs : List Field} {a b : Value} {r s : Bool} {w : World}
theorem eqf_cons (hn : (f.name == "_") = false) (ha : (part f.type xs f.offset).run P w = .ok a w) (hb : (part f.type ys f.offset).run P w = .ok b w) (he : (Op.equalIn d f.type a b).run P w = .ok r w) (hr : (Op.eqFields d xs ys fs).run P w = .ok s w) : (Op.eqFields d xs ys (f :: fs)).run P w = .ok (r && s) w := by
  have hn' : f.name ≠ "_" := by simpa using hn
  rw [Op.eqFields]
  simp only [if_pos hn', Sem.run_bind, ha, hb, he, Result.andThen_ok]
  cases r
  · simp
  · simpa using hr
theorem eqf_nil : (Op.eqFields d xs ys []).run P w = .ok true w := by simp [Op.eqFields]
end

theorem eqi_place (w : World) (d : Nat) (a b c a' b' c' : Int) :
    (Op.equalIn (d + 2) 31 (.agg #[.int .i64 a, .int .i64 b, .int .i64 c]) (.agg #[.int .i64 a', .int .i64 b', .int .i64 c'])).run Try.prog w = .ok (a == a' && (b == b' && (c == c' && true))) w := by
  rw [run_equalIn_struct w (d + 1) _ _ _ (by kernel_rfl) (by kernel_rfl)]
  simp only [Program.fieldsOf, Try.underlying31]
  exact (eqf_cons rfl (by first | (simp [go_sem]; done) | (simp [go_sem]; rfl)) (by first | (simp [go_sem]; done) | (simp [go_sem]; rfl)) (run_equalIn_int w d _ _ _ _ _ Try.underlying3) (eqf_cons rfl (by first | (simp [go_sem]; done) | (simp [go_sem]; rfl)) (by first | (simp [go_sem]; done) | (simp [go_sem]; rfl)) (run_equalIn_int w d _ _ _ _ _ Try.underlying3) (eqf_cons rfl (by first | (simp [go_sem]; done) | (simp [go_sem]; rfl)) (by first | (simp [go_sem]; done) | (simp [go_sem]; rfl)) (run_equalIn_int w d _ _ _ _ _ Try.underlying3) eqf_nil)))
theorem eqi_word (w : World) (d : Nat) (a b c a' b' c' : Int) :
    (Op.equalIn (d + 2) 33 (.agg #[.int .i64 a, .int .i64 b, .int .i64 c]) (.agg #[.int .i64 a', .int .i64 b', .int .i64 c'])).run Try.prog w = .ok (a == a' && (b == b' && (c == c' && true))) w := by
  rw [run_equalIn_struct w (d + 1) _ _ _ (by kernel_rfl) (by kernel_rfl)]
  simp only [Program.fieldsOf, Try.underlying33]
  exact eqf_cons rfl (by first | (simp [go_sem]; done) | (simp [go_sem]; rfl)) (by first | (simp [go_sem]; done) | (simp [go_sem]; rfl)) (run_equalIn_int w d _ _ _ _ _ Try.underlying2) (eqf_cons rfl (by first | (simp [go_sem]; done) | (simp [go_sem]; rfl)) (by first | (simp [go_sem]; done) | (simp [go_sem]; rfl)) (run_equalIn_int w d _ _ _ _ _ Try.underlying3) (eqf_cons rfl (by first | (simp [go_sem]; done) | (simp [go_sem]; rfl)) (by first | (simp [go_sem]; done) | (simp [go_sem]; rfl)) (run_equalIn_int w d _ _ _ _ _ Try.underlying3) eqf_nil))
def same (x y : Ent) : Bool := (x.k == y.k && (x.i == y.i && (x.j == y.j && true))) && ((x.n == y.n && (x.c == y.c && (x.g == y.g && true))) && (x.gen == y.gen && (x.pc == y.pc && true)))
theorem same_self (x : Ent) : same x x = true := by simp [same]
theorem eqi_ent (w : World) (d : Nat) (x y : Ent) :
    (Op.equalIn (d + 3) 35 x.v y.v).run Try.prog w = .ok (same x y) w := by
  unfold Ent.v same
  rw [run_equalIn_struct w (d + 2) _ _ _ (by kernel_rfl) (by kernel_rfl)]
  simp only [Program.fieldsOf, Try.underlying35]
  exact eqf_cons rfl (a := .agg #[.int .i64 x.k, .int .i64 x.i, .int .i64 x.j]) (b := .agg #[.int .i64 y.k, .int .i64 y.i, .int .i64 y.j]) (by simp [go_sem]) (by simp [go_sem]) (eqi_place w d _ _ _ _ _ _)
    (eqf_cons rfl (a := .agg #[.int .i64 x.n, .int .i64 x.c, .int .i64 x.g]) (b := .agg #[.int .i64 y.n, .int .i64 y.c, .int .i64 y.g]) (by simp [go_sem]) (by simp [go_sem]) (eqi_word w d _ _ _ _ _ _) (eqf_cons rfl (by first | (simp [go_sem]; done) | (simp [go_sem]; rfl)) (by first | (simp [go_sem]; done) | (simp [go_sem]; rfl)) (run_equalIn_int w (d + 1) _ _ _ _ _ Try.underlying3) (eqf_cons rfl (by first | (simp [go_sem]; done) | (simp [go_sem]; rfl)) (by first | (simp [go_sem]; done) | (simp [go_sem]; rfl)) (run_equalIn_int w (d + 1) _ _ _ _ _ Try.underlying3) eqf_nil)))
theorem eq_place (w : World) (a b c a' b' c' : Int) : (binOp .eql 31 (.agg #[.int .i64 a, .int .i64 b, .int .i64 c]) (.agg #[.int .i64 a', .int .i64 b', .int .i64 c'])).run Try.prog w = .ok (.bool (a == a' && (b == b' && (c == c' && true)))) w := by
  rw [run_eql_struct, eqi_place w 9998]; rfl
theorem eq_word (w : World) (a b c a' b' c' : Int) : (binOp .eql 33 (.agg #[.int .i64 a, .int .i64 b, .int .i64 c]) (.agg #[.int .i64 a', .int .i64 b', .int .i64 c'])).run Try.prog w = .ok (.bool (a == a' && (b == b' && (c == c' && true)))) w := by
  rw [run_eql_struct, eqi_word w 9998]; rfl
theorem eq_ent (w : World) (x y : Ent) : (binOp .eql 35 x.v y.v).run Try.prog w = .ok (.bool (same x y)) w := by
  unfold Ent.v
  rw [run_eql_struct]
  have := eqi_ent w 9997 x y
  unfold Ent.v at this
  rw [this]; rfl
theorem ne_ent (w : World) (x y : Ent) : (binOp .neq 35 x.v y.v).run Try.prog w = .ok (.bool (!same x y)) w := by
  unfold Ent.v
  rw [run_neq_struct]
  have := eqi_ent w 9997 x y
  unfold Ent.v at this
  rw [this]; rfl
end Go.Proofs.Ytgjoofjkhcnekaa.Buf
