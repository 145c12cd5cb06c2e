/- Least and greatest; results told less; bounds of products. -/
import Derived.Test.YtjhecgiipajdpaaAv13
set_option linter.unusedVariables false
set_option linter.unusedSimpArgs false
namespace Go.Proofs.Ytjhecgiipajdpaa
open Go.RowKit
theorem maxL_fold : ∀ (l : List Int) (x : Int), maxL x l = l.foldl max x
  | [], x => rfl
  | y :: r, x => by
    simp only [maxL, List.foldl_cons]
    rw [maxL_fold r]
    congr 1
    split <;> omega
theorem minL_fold : ∀ (l : List Int) (x : Int), minL x l = l.foldl min x
  | [], x => rfl
  | y :: r, x => by
    simp only [minL, List.foldl_cons]
    rw [minL_fold r]
    congr 1
    split <;> omega
section
variable {P : Program} {ops : Array Oper} {ty : TypeId} {pos : String} {aft : Array Edge} {d : Nat}
theorem s_maxF {os : List Operand} {k : IntKind} {x : Int} {l : List Int} {ts : Array TypeId} {lx : List (Nat × AV)} (h : Opds os ((x :: l).map (AV.int k)) lx) :
    Step P ops ⟨some d, .call { callee := .builtin .max, args := os.toArray, argTypes := ts }, ty, pos, aft, none⟩ { rT := lx, wT := some (d, .int k (l.foldl max x)) } := by
  rw [← maxL_fold]; exact s_max h
theorem s_minF {os : List Operand} {k : IntKind} {x : Int} {l : List Int} {ts : Array TypeId} {lx : List (Nat × AV)} (h : Opds os ((x :: l).map (AV.int k)) lx) :
    Step P ops ⟨some d, .call { callee := .builtin .min, args := os.toArray, argTypes := ts }, ty, pos, aft, none⟩ { rT := lx, wT := some (d, .int k (l.foldl min x)) } := by
  rw [← minL_fold]; exact s_min h
end
theorem res_top {P : Program} {nt : Nat} {S : St} {rv : ResultVar} {v : AV} (h : ResOK P nt S rv v) : ResOK P nt S rv .top := fun g w a hid hr => by
  obtain ⟨u, h1, h2⟩ := h g w a hid hr
  exact ⟨u, h1, .top u⟩

theorem jumpQ_none {Q : Exit → St → Prop} {S : St} (h : Q .normal S) : jumpQ Q S none := h
theorem mulB {a b : Int} (A B : Int) (ha : -A ≤ a ∧ a ≤ A) (hb : -B ≤ b ∧ b ≤ B) : -(A * B) ≤ a * b ∧ a * b ≤ A * B := by
  have h1 : a.natAbs ≤ A.natAbs := by omega
  have h2 : b.natAbs ≤ B.natAbs := by omega
  have h3 := Nat.mul_le_mul h1 h2
  rw [← Int.natAbs_mul, ← Int.natAbs_mul] at h3
  have h4 : 0 ≤ A * B := Int.mul_nonneg (by omega) (by omega)
  omega
/-- of numbers that are not below 0 -/
theorem mulN {a b : Int} (A B : Int) (ha : 0 ≤ a ∧ a ≤ A) (hb : 0 ≤ b ∧ b ≤ B) : 0 ≤ a * b ∧ a * b ≤ A * B :=
  ⟨Int.mul_nonneg ha.1 hb.1, Int.mul_le_mul ha.2 hb.2 hb.1 (by omega)⟩
end Go.Proofs.Ytjhecgiipajdpaa
