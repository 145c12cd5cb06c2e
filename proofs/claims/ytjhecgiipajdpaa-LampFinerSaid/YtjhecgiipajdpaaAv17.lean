/- More steps: numbers that wrap; arguments that are slices. -/
import Derived.Test.YtjhecgiipajdpaaAv16
import Derived.WideShapes
set_option linter.unusedVariables false
set_option linter.unusedSimpArgs false
namespace Go.Proofs.Ytjhecgiipajdpaa
open Go.RowKit
def w64 (n : Int) : Int := IntKind.i64.wrap n
theorem w64_of {n : Int} (h : -9223372036854775808 ≤ n ∧ n ≤ 9223372036854775807) : w64 n = n := inK_i64 h
section
variable {P : Program} {ops : Array Oper} {ty : TypeId} {pos : String} {aft : Array Edge} {d : Nat}
theorem s_addW {xt yt : TypeId} {x y : Operand} {m n : Int} {lx ly : List (Nat × AV)} (hx : Opd x (.int .i64 m) lx) (hy : Opd y (.int .i64 n) ly) :
    Step P ops ⟨some d, .binOp .add xt x y yt, ty, pos, aft, none⟩ { rT := lx ++ ly, wT := some (d, .int .i64 (w64 (m + n))) } :=
  s_int2 hx hy (fun w => ⟨.int .i64 (w64 (m + n)), by simp [binOp, Op.intArith, w64], fun g => .int .i64 _⟩) (by simp)
theorem s_subW {xt yt : TypeId} {x y : Operand} {m n : Int} {lx ly : List (Nat × AV)} (hx : Opd x (.int .i64 m) lx) (hy : Opd y (.int .i64 n) ly) :
    Step P ops ⟨some d, .binOp .sub xt x y yt, ty, pos, aft, none⟩ { rT := lx ++ ly, wT := some (d, .int .i64 (w64 (m - n))) } :=
  s_int2 hx hy (fun w => ⟨.int .i64 (w64 (m - n)), by simp [binOp, Op.intArith, w64], fun g => .int .i64 _⟩) (by simp)
theorem inK_u16 {n : Int} (h : 0 ≤ n ∧ n ≤ 65535) : InK .u16 n := by
  unfold InK IntKind.wrap
  simp [IntKind.bits, IntKind.signed]
  omega
end
section
variable {H : Type} {enc : TypeId × Value → H} {P : Program} {w : World}
theorem wf_u8 {n : Int} (h : (Lit.int .u8 n).wf = true) : 0 ≤ n ∧ n ≤ 255 := by
  simp only [Lit.wf, Bool.and_eq_true, decide_eq_true_eq] at h
  exact h
theorem wf_u16 {n : Int} (h : (Lit.int .u16 n).wf = true) : 0 ≤ n ∧ n ≤ 65535 := by
  simp only [Lit.wf, Bool.and_eq_true, decide_eq_true_eq] at h
  exact h
theorem wf_i64 {n : Int} (h : (Lit.int .i64 n).wf = true) : -9223372036854775808 ≤ n ∧ n ≤ 9223372036854775807 := by
  simp only [Lit.wf, Bool.and_eq_true, decide_eq_true_eq] at h
  exact h
/-- An argument that is a slice. -/
theorem Opens.one {t n : Nat} {α : Type} {a1 : α → AV} {ok : α → Prop} (h : Opens enc P w t n α (fun a => [a1 a]) ok) {e : TypeId} (ht : P.underlying t = some (.slice e)) {W : World} {r : Reach} {b0 : Nat} {v : Value} {d : DataW H} {ps : List MemPlace}
    (hval : Value.okWide P W r b0 t v) (hd : DataW.Trod enc P w 0 (fun _ => true) true t v d ps) : ∃ a, ok a ∧ Rep (g0 w) w v (a1 a) := by
  obtain ⟨A, len, cap, rfl⟩ := Go.WideShapes.okWide_slice ht hval
  obtain ⟨fuel, hf⟩ := hd
  obtain ⟨a, h1, h2⟩ := h.2 fuel _ _ hf
  exact ⟨a, h1, h2.2 0 _ _ rfl rfl⟩
end
end Go.Proofs.Ytjhecgiipajdpaa
