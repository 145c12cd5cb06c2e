/- What is over a rectangle. -/
import Derived.Test.YtjhecgiipajdpaaSp7
set_option linter.unusedVariables false
set_option linter.unusedSimpArgs false
namespace Go.Proofs.Ytjhecgiipajdpaa
def stepE (t : Table) (us vs : List Int) (u : Int) (o : Int × Int) (v : Int) : Int × Int := if hasB us vs u v = true then (min o.1 (atLo t us vs u v), max o.2 (atHi t us vs u v)) else o
def innerE (t : Table) (us vs : List Int) (u : Int) (o : Int × Int) (l : List Int) : Int × Int := l.foldl (stepE t us vs u) o
def cornerE (t : Table) (us vs : List Int) (x0 x1 y0 y1 : Int) : Int × Int :=
  (hLo (atLo t us vs x0 y0) [(atLo t us vs x0 y1, atHi t us vs x0 y1), (atLo t us vs x1 y0, atHi t us vs x1 y0), (atLo t us vs x1 y1, atHi t us vs x1 y1)],
   hHi (atHi t us vs x0 y0) [(atLo t us vs x0 y1, atHi t us vs x0 y1), (atLo t us vs x1 y0, atHi t us vs x1 y0), (atLo t us vs x1 y1, atHi t us vs x1 y1)])
def ov (t : Table) (us vs : List Int) (x0 x1 y0 y1 : Int) (i : Nat) : Int × Int := ((cross us x0 x1).take i).foldl (fun o u => innerE t us vs u o (cross vs y0 y1)) (cornerE t us vs x0 x1 y0 y1)
def iv (t : Table) (us vs : List Int) (x0 x1 y0 y1 : Int) (i j : Nat) : Int × Int := innerE t us vs ((cross us x0 x1).getD i 0) (ov t us vs x0 x1 y0 y1 i) ((cross vs y0 y1).take j)
def over (t : Table) (us vs : List Int) (x0 x1 y0 y1 : Int) : Int × Int := ov t us vs x0 x1 y0 y1 (cross us x0 x1).length
section
variable {t : Table} {us vs : List Int} {x0 x1 y0 y1 : Int} {i j : Nat}
theorem take_snoc {l : List Int} {j : Nat} (h : j < l.length) : l.take (j + 1) = l.take j ++ [l.getD j 0] := by
  rw [List.take_add_one, List.getD_eq_getElem?_getD, List.getElem?_eq_getElem h]; rfl
theorem iv_has (h : j < (cross vs y0 y1).length) (hb : hasB us vs ((cross us x0 x1).getD i 0) ((cross vs y0 y1).getD j 0) = true) :
    iv t us vs x0 x1 y0 y1 i (j + 1) = (hLo (iv t us vs x0 x1 y0 y1 i j).1 [(atLo t us vs ((cross us x0 x1).getD i 0) ((cross vs y0 y1).getD j 0), atHi t us vs ((cross us x0 x1).getD i 0) ((cross vs y0 y1).getD j 0))],
      hHi (iv t us vs x0 x1 y0 y1 i j).2 [(atLo t us vs ((cross us x0 x1).getD i 0) ((cross vs y0 y1).getD j 0), atHi t us vs ((cross us x0 x1).getD i 0) ((cross vs y0 y1).getD j 0))]) := by
  unfold iv innerE
  rw [take_snoc h, List.foldl_append, List.foldl_cons, List.foldl_nil]
  unfold stepE
  rw [if_pos hb]
  rfl
theorem iv_skip (h : j < (cross vs y0 y1).length) (hb : hasB us vs ((cross us x0 x1).getD i 0) ((cross vs y0 y1).getD j 0) = false) : iv t us vs x0 x1 y0 y1 i (j + 1) = iv t us vs x0 x1 y0 y1 i j := by
  unfold iv innerE
  rw [take_snoc h, List.foldl_append, List.foldl_cons, List.foldl_nil]
  unfold stepE
  rw [hb]
  rfl
theorem ov_succ (h : i < (cross us x0 x1).length) : ov t us vs x0 x1 y0 y1 (i + 1) = iv t us vs x0 x1 y0 y1 i (cross vs y0 y1).length := by
  unfold ov iv
  rw [take_snoc h, List.foldl_append, List.foldl_cons, List.foldl_nil, List.take_length]
  rfl
end
theorem cross_in {l : List Int} {a b M : Int} (h : ∀ j : Nat, -M ≤ l.getD j 0 ∧ l.getD j 0 ≤ M) (ha : -M ≤ a ∧ a ≤ M) (hb : -M ≤ b ∧ b ≤ M) (i : Nat) : -M ≤ (cross l a b).getD i 0 ∧ (cross l a b).getD i 0 ≤ M := by
  rcases Nat.lt_or_ge i (cross l a b).length with hi | hi
  · have hm := getD_mem (d := (0 : Int)) hi
    generalize (cross l a b).getD i 0 = x at *
    unfold cross at hm
    rcases List.mem_append.1 hm with hm | hm
    · simp only [List.mem_cons, List.not_mem_nil, or_false] at hm
      rcases hm with rfl | rfl <;> assumption
    · have := (List.mem_filter.1 hm).1
      obtain ⟨j, hj⟩ := List.getElem?_of_mem this
      have h2 := h j
      rw [List.getD_eq_getElem?_getD, hj, Option.getD_some] at h2
      exact h2
  · rw [List.getD_eq_getElem?_getD, List.getElem?_eq_none hi]
    simp only [Option.getD_none]
    omega
end Go.Proofs.Ytjhecgiipajdpaa
