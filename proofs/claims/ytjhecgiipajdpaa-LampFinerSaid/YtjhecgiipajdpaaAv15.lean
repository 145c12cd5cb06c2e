/- Equality of data. -/
import Derived.Test.YtjhecgiipajdpaaAv14
set_option linter.unusedVariables false
set_option linter.unusedSimpArgs false
namespace Go.Proofs.Ytjhecgiipajdpaa
open Go.RowKit

theorem run_eq_int {P : Program} {t : TypeId} {k : IntKind} (h : P.underlying t = some (.int k)) (d : Nat) (k' : IntKind) (a b : Int) (w : World) : (Op.equalIn (d + 1) t (.int k' a) (.int k' b)).run P w = .ok (a == b) w := by
  simp [Op.equalIn, run_underlying h]
theorem run_eq_bool {P : Program} {t : TypeId} (h : P.underlying t = some .bool) (d : Nat) (a b : Bool) (w : World) : (Op.equalIn (d + 1) t (.bool a) (.bool b)).run P w = .ok (a == b) w := by
  simp [Op.equalIn, run_underlying h]
theorem part_one {P : Program} {t : TypeId} (ht : TyS P t) {cs : Array Value} {off : Nat} {v : Value} (h : cs[off]? = some v) (w : World) : (part t cs off).run P w = .ok v w := run_part1 ht h w
theorem eqT_bool {P : Program} {t : TypeId} (h : P.underlying t = some .bool) (a b : Bool) : EqT P t (.bool a) (.bool b) (a == b) := fun w =>
  ⟨by
    have := run_eq_bool h 9999 a b w
    exact this, fun op o p => by
    show (eqGuard op t o p (.bool a) (.bool b)).run P w = .ok () w
    unfold eqGuard
    split <;> rfl⟩
theorem eqT_pair {P : Program} {t : TypeId} {f1 f2 : Field} {k1 k2 : IntKind} (ht : P.underlying t = some (.struct #[f1, f2])) (n1 : f1.name ≠ "_") (n2 : f2.name ≠ "_") (o1 : f1.offset = 0) (o2 : f2.offset = 1)
    (u1 : P.underlying f1.type = some (.int k1)) (u2 : P.underlying f2.type = some (.int k2)) (hs : P.stoodInHeld t = false) (hg : P.eqGuardType P.depth t = false) (ka kb : IntKind) (a b c d : Int) :
    EqT P t (.agg [.int ka a, .int kb b]) (.agg [.int ka c, .int kb d]) (decide (a = c) && decide (b = d)) := fun w => by
  have t1 : TyS P f1.type := ⟨_, u1, rfl⟩
  have t2 : TyS P f2.type := ⟨_, u2, rfl⟩
  have p1 : ∀ x y : Value, (part f1.type #[x, y] 0).run P w = .ok x w := fun x y => run_part1 t1 (by simp) w
  have p2 : ∀ x y : Value, (part f2.type #[x, y] 1).run P w = .ok y w := fun x y => run_part1 t2 (by simp) w
  have e1 : ∀ x y : Int, (Op.equalIn 9999 f1.type (.int ka x) (.int ka y)).run P w = .ok (x == y) w := fun x y => run_eq_int u1 9998 ka x y w
  have e2 : ∀ x y : Int, (Op.equalIn 9999 f2.type (.int kb x) (.int kb y)).run P w = .ok (x == y) w := fun x y => run_eq_int u2 9998 kb x y w
  refine ⟨?_, fun op o p => ?_⟩
  · show (Op.equalIn (9999 + 1) t (.agg #[.int ka a, .int kb b]) (.agg #[.int ka c, .int kb d])).run P w = _
    unfold Op.equalIn
    simp only [Sem.run_bind, run_underlying ht, Result.andThen_ok, run_program, hs, Bool.false_eq_true, if_false]
    simp [n1, n2, o1, o2, p1, p2, e1, e2, Result.andThen]
    by_cases h1 : a = c <;> by_cases h2 : b = d <;> simp [h1, h2, p2, e2, Result.andThen, Sem.run_pure]
  · show (eqGuard op t o p (.agg #[.int ka a, .int kb b]) (.agg #[.int ka c, .int kb d])).run P w = .ok () w
    cases op <;> simp [eqGuard, run_program, hg]
theorem s_bool_eql {P : Program} {ops : Array Oper} {ty : TypeId} {pos : String} {aft : Array Edge} {d : Nat} {xt yt : TypeId} {x y : Operand} {m n : Bool} {lx ly : List (Nat × AV)} (ht : P.underlying xt = some .bool) (hx : Opd x (.bool m) lx) (hy : Opd y (.bool n) ly) :
    Step P ops ⟨some d, .binOp .eql xt x y yt, ty, pos, aft, none⟩ { rT := lx ++ ly, wT := some (d, .bool (m == n)) } := s_data_eql hx hy (eqT_bool ht m n) rfl rfl rfl
theorem s_bool_neq {P : Program} {ops : Array Oper} {ty : TypeId} {pos : String} {aft : Array Edge} {d : Nat} {xt yt : TypeId} {x y : Operand} {m n : Bool} {lx ly : List (Nat × AV)} (ht : P.underlying xt = some .bool) (hx : Opd x (.bool m) lx) (hy : Opd y (.bool n) ly) :
    Step P ops ⟨some d, .binOp .neq xt x y yt, ty, pos, aft, none⟩ { rT := lx ++ ly, wT := some (d, .bool (!(m == n))) } := s_data_neq hx hy (eqT_bool ht m n) rfl rfl rfl
theorem iE {a b : Bool} {p q : Prop} (h : a = true ↔ p) (k : b = true ↔ q) : (a == b) = true ↔ (p ↔ q) := by
  rw [← h, ← k]; cases a <;> cases b <;> simp
end Go.Proofs.Ytjhecgiipajdpaa
