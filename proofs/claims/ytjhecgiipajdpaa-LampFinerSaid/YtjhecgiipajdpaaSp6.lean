/- Crossings and what is over a rectangle. -/
import Derived.Test.YtjhecgiipajdpaaSp5
set_option linter.unusedVariables false
set_option linter.unusedSimpArgs false
namespace Go.Proofs.Ytjhecgiipajdpaa
/-- The reference's crossings, of tangents times the depth. -/
def cross2 (l : List Int) (a b : Int) : List Int := [a, b] ++ l.filter fun n => decide (a ≤ n) && decide (n ≤ b)
/-- The program's. -/
def cross (l : List Int) (a b : Int) : List Int := [a, b] ++ l.filter fun n => decide (a < n) && decide (n < b)
theorem cross2_take {l : List Int} {h a b : Int} {k : Nat} (hk : k < l.length) :
    cross2 (sc (l.take (k + 1)) h) a b = if (decide (a ≤ l.getD k 0 * h) && decide (l.getD k 0 * h ≤ b)) = true then cross2 (sc (l.take k) h) a b ++ [l.getD k 0 * h] else cross2 (sc (l.take k) h) a b := by
  rw [← sc_take hk]
  unfold cross2
  rw [List.filter_append, List.filter_cons]
  split
  · rw [List.filter_nil, List.append_assoc]
  · rw [List.filter_nil, List.append_nil]
theorem cross2_length {l : List Int} {h a b : Int} {k : Nat} (hl : l.length ≤ 12) : (cross2 (sc (l.take k) h) a b).length ≤ 14 := by
  unfold cross2
  rw [List.length_append]
  have h1 := List.length_filter_le (fun n => decide (a ≤ n) && decide (n ≤ b)) (sc (l.take k) h)
  rw [sc_length, List.length_take] at h1
  have : ([a, b] : List Int).length = 2 := rfl
  omega
theorem cross_at {l : List Int} {a b : Int} {k : Nat} (hk : k < l.length) (h1 : a < l.getD k 0) (h2 : l.getD k 0 < b) :
    2 + ((l.take k).filter fun n => decide (a < n) && decide (n < b)).length < (cross l a b).length ∧ (cross l a b).getD (2 + ((l.take k).filter fun n => decide (a < n) && decide (n < b)).length) 0 = l.getD k 0 ∧
      ((l.take (k + 1)).filter fun n => decide (a < n) && decide (n < b)).length = ((l.take k).filter fun n => decide (a < n) && decide (n < b)).length + 1 := by
  have hx : l.getD k 0 = l[k] := by rw [List.getD_eq_getElem?_getD, List.getElem?_eq_getElem hk]; rfl
  have hp : (decide (a < l[k]) && decide (l[k] < b)) = true := by rw [← hx, decide_eq_true h1, decide_eq_true h2]; rfl
  have e : l.filter (fun n => decide (a < n) && decide (n < b)) = (l.take k).filter (fun n => decide (a < n) && decide (n < b)) ++ l[k] :: (l.drop (k + 1)).filter (fun n => decide (a < n) && decide (n < b)) := by
    have h3 : l = l.take k ++ l[k] :: l.drop (k + 1) := by rw [List.getElem_cons_drop, List.take_append_drop]
    have h4 := congrArg (List.filter fun n => decide (a < n) && decide (n < b)) h3
    rw [List.filter_append, List.filter_cons, if_pos hp] at h4
    exact h4
  refine ⟨?_, ?_, ?_⟩
  · unfold cross
    rw [e]
    simp
    omega
  · unfold cross
    rw [e, List.getD_eq_getElem?_getD, List.getElem?_append_right (by simp), List.getElem?_append_right (by simp)]
    rw [hx]
    simp
  · rw [List.take_add_one, List.getElem?_eq_getElem hk, List.filter_append, List.length_append]
    congr 1
    show (List.filter _ [l[k]]).length = 1
    rw [List.filter_cons, if_pos hp]
    rfl
theorem cross_skip {l : List Int} {a b : Int} {k : Nat} (hk : k < l.length) (h1 : ¬ (a < l.getD k 0 ∧ l.getD k 0 < b)) :
    ((l.take (k + 1)).filter fun n => decide (a < n) && decide (n < b)).length = ((l.take k).filter fun n => decide (a < n) && decide (n < b)).length := by
  have hx : l.getD k 0 = l[k] := by rw [List.getD_eq_getElem?_getD, List.getElem?_eq_getElem hk]; rfl
  rw [List.take_add_one, List.getElem?_eq_getElem hk, List.filter_append, List.length_append]
  show _ + (List.filter _ [l[k]]).length = _
  rw [List.filter_cons, if_neg (by rw [← hx, Bool.and_eq_true, decide_eq_true_eq, decide_eq_true_eq]; exact h1)]
  rfl
theorem cross_length (l : List Int) (a b : Int) : (cross l a b).length = 2 + (l.filter fun n => decide (a < n) && decide (n < b)).length := by
  unfold cross; rw [List.length_append]; rfl
end Go.Proofs.Ytjhecgiipajdpaa
