/- The first field's values, and the interpolation in it; small tables. -/
import Derived.Test.YtjhecgiipajdpaaSp17
set_option linter.unusedVariables false
set_option linter.unusedSimpArgs false
namespace Go.Proofs.Ytjhecgiipajdpaa
def min4 (v : List (List Int)) (i k : Nat) : Int := min (min (min (val v i k) (val v i (k + 1))) (val v (i + 1) k)) (val v (i + 1) (k + 1))
def max4 (v : List (List Int)) (i k : Nat) : Int := max (max (max (val v i k) (val v i (k + 1))) (val v (i + 1) k)) (val v (i + 1) (k + 1))
def aroundR (t : Table) (u v h : Int) : Int × Int × Bool :=
  match firstC (sc t.us h) (sc t.vs h) u v with
  | some (i, k) => (min4 t.values i k, max4 t.values i k, true)
  | none => (0, 0, false)
def exactR (t : Table) (u v h : Int) : Int × Int :=
  match firstC (sc t.us h) (sc t.vs h) u v with
  | some (i, k) => (cellN t.values (sc t.us h) (sc t.vs h) i k u v, cellD (sc t.us h) (sc t.vs h) i k)
  | none => (0, 0)
theorem firstC_found {us vs : List Int} {u v : Int} {i k : Nat} (hi : i + 1 < us.length) (hk : k + 1 < vs.length) (h : (us.getD i 0 ≤ u ∧ u ≤ us.getD (i + 1) 0) ∧ (vs.getD k 0 ≤ v ∧ v ≤ vs.getD (k + 1) 0))
    (hn : ∀ j : Nat, j < i → firstI us vs u v j = none) (hm : ∀ j : Nat, j < k → firstK us vs u v i j = none) : firstC us vs u v = some (i, k) :=
  findI_some (by omega) (findI_some (by omega) (by unfold firstK; rw [if_pos (by rw [Bool.and_eq_true, in1B_iff, in1B_iff]; exact h)]) hm) hn
theorem firstK_no {us vs : List Int} {u v : Int} {i k : Nat} (h : ¬ ((us.getD i 0 ≤ u ∧ u ≤ us.getD (i + 1) 0) ∧ (vs.getD k 0 ≤ v ∧ v ≤ vs.getD (k + 1) 0))) : firstK us vs u v i k = none := by
  unfold firstK
  rw [if_neg (by rw [Bool.and_eq_true, in1B_iff, in1B_iff]; exact h)]
def smallB (t : Table) : Bool := (t.values.all fun r => r.all fun x => decide (x ≤ 5000)) && decide (t.side ≤ 5000)
theorem small_get {t : Table} (h : smallB t = true) {a b : Nat} (ha : a < t.values.length) (hb : b < (t.values.getD a []).length) : val t.values a b ≤ 5000 := by
  unfold smallB at h
  rw [Bool.and_eq_true, List.all_eq_true] at h
  have := h.1 _ (getD_mem (d := []) ha)
  rw [List.all_eq_true] at this
  exact of_decide_eq_true (this _ (getD_mem hb))
theorem small_side {t : Table} (h : smallB t = true) : t.side ≤ 5000 := by
  unfold smallB at h
  rw [Bool.and_eq_true] at h
  exact of_decide_eq_true h.2
theorem small_all {t : Table} (h : ∀ a : Nat, a < t.values.length → ∀ b : Nat, b < (t.values.getD a []).length → val t.values a b ≤ 5000) : (t.values.all fun r => r.all fun x => decide (x ≤ 5000)) = true := by
  rw [List.all_eq_true]
  intro r hr
  obtain ⟨a, ha⟩ := List.getElem?_of_mem hr
  have h2 := h a (List.getElem?_eq_some_iff.1 ha).1
  unfold val at h2
  rw [List.getD_eq_getElem?_getD, ha, Option.getD_some] at h2
  rw [List.all_eq_true]
  intro x hx
  obtain ⟨b, hb⟩ := List.getElem?_of_mem hx
  have h3 := h2 b (List.getElem?_eq_some_iff.1 hb).1
  rw [List.getD_eq_getElem?_getD, hb, Option.getD_some] at h3
  exact decide_eq_true h3
theorem small_no {t : Table} {a b : Nat} (ha : a < t.values.length) (hb : b < (t.values.getD a []).length) (h : 5000 < val t.values a b) : smallB t = false := by
  rw [Bool.eq_false_iff]
  intro hs
  have := small_get hs ha hb
  omega
section
variable {t : Table} {us vs : List Int}
theorem at_small (g : GoodV t us vs) (h : smallB t = true) (u v : Int) : (0 ≤ atLo t us vs u v ∧ atLo t us vs u v ≤ 5000) ∧ (0 ≤ atHi t us vs u v ∧ atHi t us vs u v ≤ 5000) := by
  have b := g.at_in u v
  have l := at_le g u v
  have key : atHi t us vs u v ≤ 5000 := by
    by_cases hb : hasB us vs u v = true
    · obtain ⟨k1, k2⟩ := In1.of_has g hb
      have gv := g.vn
      have va : ∀ a k : Nat, a < us.length → k < vs.length → 0 ≤ val t.values a k ∧ val t.values a k ≤ 5000 := fun a k ha hk => ⟨(g.vals a k ha hk).1, small_get h (by omega) (by rw [g.rows a ha]; exact hk)⟩
      have c1 := k1.1
      have c2 := k2.1
      exact (at_between g k1 k2 (m := 0) (va _ _ (by omega) (by omega)) (va _ _ (by omega) c2) (va _ _ c1 (by omega)) (va _ _ c1 c2)).2
    · unfold atHi; rw [if_neg hb]; exact small_side h
  omega
theorem over_small (g : GoodV t us vs) (h : smallB t = true) (x0 x1 y0 y1 : Int) : (0 ≤ (over t us vs x0 x1 y0 y1).1 ∧ (over t us vs x0 x1 y0 y1).1 ≤ 5000) ∧ (0 ≤ (over t us vs x0 x1 y0 y1).2 ∧ (over t us vs x0 x1 y0 y1).2 ≤ 5000) := by
  obtain ⟨⟨u, v, _, h1⟩, ⟨u', v', _, h2⟩, _⟩ := Cov.over t us vs x0 x1 y0 y1
  have a := at_small g h u v
  have b := at_small g h u' v'
  omega
end
theorem step_small {l : List Int} {h : Int} (hr : ranged l (-5000) 5000 = true) (hh : 1 ≤ h ∧ h ≤ 1000) (i : Nat) : -5000000 ≤ (sc l h).getD i 0 ∧ (sc l h).getD i 0 ≤ 5000000 := by
  rw [sc_get]
  have h1 := ranged_any hr i
  have h2 := mulB 5000 1000 (a := l.getD i 0) (b := h) (by omega) (by omega)
  omega
/-- What LampHolds says. -/
theorem holds {c : Cat} {i X0 X1 Y0 Y1 H px py : Int} (h : (Over c i X0 X1 Y0 Y1 H).2.2 = 0) (hH : H ≤ 1000) (hs : smallB (c.tables.getD i.toNat default) = true) (hx : X0 ≤ px ∧ px ≤ X1) (hy : Y0 ≤ py ∧ py ≤ Y1) :
    (Intensity c i px py H).2.2 = 0 ∧
    ((exactR (c.tables.getD i.toNat default) (1000 * px) (1000 * py) H).2 = 0 → (Over c i X0 X1 Y0 Y1 H).1 ≤ 0 ∧ (c.tables.getD i.toNat default).side ≤ (Over c i X0 X1 Y0 Y1 H).2.1) ∧
    ((exactR (c.tables.getD i.toNat default) (1000 * px) (1000 * py) H).2 ≠ 0 →
      (Intensity c i px py H).1 * (exactR (c.tables.getD i.toNat default) (1000 * px) (1000 * py) H).2 ≤ (exactR (c.tables.getD i.toNat default) (1000 * px) (1000 * py) H).1 ∧
      (exactR (c.tables.getD i.toNat default) (1000 * px) (1000 * py) H).1 ≤ (Intensity c i px py H).2.1 * (exactR (c.tables.getD i.toNat default) (1000 * px) (1000 * py) H).2 ∧
      (Over c i X0 X1 Y0 Y1 H).1 * (exactR (c.tables.getD i.toNat default) (1000 * px) (1000 * py) H).2 ≤ (exactR (c.tables.getD i.toNat default) (1000 * px) (1000 * py) H).1 ∧
      (exactR (c.tables.getD i.toNat default) (1000 * px) (1000 * py) H).1 ≤ (Over c i X0 X1 Y0 Y1 H).2.1 * (exactR (c.tables.getD i.toNat default) (1000 * px) (1000 * py) H).2 ∧
      (Intensity c i px py H).2.1 - (Intensity c i px py H).1 ≤ 3) ∧
    ((0 ≤ (Intensity c i px py H).1 ∧ (Intensity c i px py H).1 ≤ 5000) ∧ (0 ≤ (Intensity c i px py H).2.1 ∧ (Intensity c i px py H).2.1 ≤ 5000) ∧ (0 ≤ (Over c i X0 X1 Y0 Y1 H).1 ∧ (Over c i X0 X1 Y0 Y1 H).1 ≤ 5000) ∧ (0 ≤ (Over c i X0 X1 Y0 Y1 H).2.1 ∧ (Over c i X0 X1 Y0 Y1 H).2.1 ≤ 5000)) ∧
    (0 ≤ (exactR (c.tables.getD i.toNat default) (1000 * px) (1000 * py) H).2 ∧ (exactR (c.tables.getD i.toNat default) (1000 * px) (1000 * py) H).2 ≤ 100000000000000) := by
  obtain ⟨hT, hR⟩ := over_ok h
  have hrr := rectErr_ok hR
  obtain ⟨t1, t2, t3⟩ := tabled_ok hT
  have g := (check_ok t1).2.2.1 i.toNat (by omega)
  have gv := g.view hrr.1
  have e1 := over_eq hT hR
  have e3 := intensity_eq hT (rectErr_of hrr.1 (X0 := px) (X1 := px) (Y0 := py) (Y1 := py) (by omega) (by omega))
  have s1 := over_small gv hs (1000 * X0) (1000 * X1) (1000 * Y0) (1000 * Y1)
  have s2 := at_small gv hs (1000 * px) (1000 * py)
  rw [e1.2.1, e1.2.2, e3.2.1, e3.2.2]
  refine ⟨e3.1, ?_⟩
  generalize c.tables.getD i.toNat default = t at *
  unfold exactR
  cases hf : firstC (sc t.us H) (sc t.vs H) (1000 * px) (1000 * py) with
  | none =>
    have hb := firstC_none gv hf
    have o := over_out (t := t) (x0 := 1000 * X0) (x1 := 1000 * X1) (y0 := 1000 * Y0) (y1 := 1000 * Y1) (by omega) (by omega) hb
    exact ⟨fun _ => o, fun h => absurd rfl h, ⟨s2.1, s2.2, s1.1, s1.2⟩, by show (0 : Int) ≤ 0 ∧ (0 : Int) ≤ _; omega⟩
  | some p =>
    obtain ⟨a, k⟩ := p
    obtain ⟨k1, k2⟩ := firstC_some hf
    have p1 := k1.step gv.ui
    have p2 := k2.step gv.vi
    have P : 0 < cellD (sc t.us H) (sc t.vs H) a k := Int.mul_pos p1 p2
    have o := over_holds gv k1 k2 (x0 := 1000 * X0) (x1 := 1000 * X1) (y0 := 1000 * Y0) (y1 := 1000 * Y1) (by omega) (by omega)
    have at' := at_holds gv k1 k2
    have u0 := step_small g.ur (by omega : 1 ≤ H ∧ H ≤ 1000) a
    have u1 := step_small g.ur (by omega : 1 ≤ H ∧ H ≤ 1000) (a + 1)
    have v0 := step_small g.vr (by omega : 1 ≤ H ∧ H ≤ 1000) k
    have v1 := step_small g.vr (by omega : 1 ≤ H ∧ H ≤ 1000) (k + 1)
    have m := mulN 10000000 10000000 (a := stepD (sc t.us H) a) (b := stepD (sc t.vs H) k) (by unfold stepD; unfold stepD at p1; omega) (by unfold stepD; unfold stepD at p2; omega)
    have d3 : atHi t (sc t.us H) (sc t.vs H) (1000 * px) (1000 * py) - 2 < atLo t (sc t.us H) (sc t.vs H) (1000 * px) (1000 * py) + 2 :=
      Int.lt_of_mul_lt_mul_right (Int.lt_trans at'.2.2 at'.1.2) (Int.le_of_lt P)
    refine ⟨fun h0 => ?_, fun _ => ⟨at'.1.1, at'.2.1, o.1, o.2, by omega⟩, ⟨s2.1, s2.2, s1.1, s1.2⟩, ⟨m.1, by show stepD (sc t.us H) a * stepD (sc t.vs H) k ≤ _; omega⟩⟩
    exact absurd h0 (by show cellD (sc t.us H) (sc t.vs H) a k ≠ 0; omega)
/-- What LampBetween says of a point. -/
theorem between1 {c : Cat} {i X Y H : Int} (h : (Intensity c i X Y H).2.2 = 0) :
    ((aroundR (c.tables.getD i.toNat default) (1000 * X) (1000 * Y) H).2.2 = true → (aroundR (c.tables.getD i.toNat default) (1000 * X) (1000 * Y) H).1 ≤ (Intensity c i X Y H).1 ∧ (Intensity c i X Y H).2.1 ≤ (aroundR (c.tables.getD i.toNat default) (1000 * X) (1000 * Y) H).2.1 ∧ (Intensity c i X Y H).1 ≤ (Intensity c i X Y H).2.1) ∧
    ((aroundR (c.tables.getD i.toNat default) (1000 * X) (1000 * Y) H).2.2 = false → (Intensity c i X Y H).1 = 0 ∧ (Intensity c i X Y H).2.1 = (c.tables.getD i.toNat default).side) := by
  have hk : tabled c i = 0 ∧ rectErr X X Y Y H = 0 := by
    unfold Intensity at h
    split at h
    · rename_i h1; exact absurd h h1
    · rename_i h1
      split at h
      · rename_i h2; exact absurd h h2
      · rename_i h2; exact ⟨Decidable.not_not.1 h1, Decidable.not_not.1 h2⟩
  obtain ⟨hT, hR⟩ := hk
  have hrr := rectErr_ok hR
  obtain ⟨t1, t2, t3⟩ := tabled_ok hT
  have g := (check_ok t1).2.2.1 i.toNat (by omega)
  have gv := g.view hrr.1
  have e3 := intensity_eq hT hR
  rw [e3.2.1, e3.2.2]
  generalize c.tables.getD i.toNat default = t at *
  have l := at_le gv (1000 * X) (1000 * Y)
  unfold aroundR
  cases hf : firstC (sc t.us H) (sc t.vs H) (1000 * X) (1000 * Y) with
  | none =>
    have hb := firstC_none gv hf
    refine ⟨fun h => (by cases h), fun _ => ?_⟩
    unfold atLo atHi
    rw [if_neg (Bool.eq_false_iff.1 hb), if_neg (Bool.eq_false_iff.1 hb)]
    exact ⟨rfl, rfl⟩
  | some p =>
    obtain ⟨a, k⟩ := p
    obtain ⟨k1, k2⟩ := firstC_some hf
    have b := at_between gv k1 k2 (m := min4 t.values a k) (M := max4 t.values a k) (by unfold min4 max4; omega) (by unfold min4 max4; omega) (by unfold min4 max4; omega) (by unfold min4 max4; omega)
    exact ⟨fun _ => ⟨b.1, b.2, l⟩, fun h => (by cases h)⟩
/-- At tangents of the table, a thousand below. -/
theorem between2 {c : Cat} {i : Int} (hT : tabled c i = 0) {a b : Nat} (ha : a < (c.tables.getD i.toNat default).us.length) (hb : b < (c.tables.getD i.toNat default).vs.length) :
    (Intensity c i ((c.tables.getD i.toNat default).us.getD a 0) ((c.tables.getD i.toNat default).vs.getD b 0) 1000).2.2 = 0 ∧
    (Intensity c i ((c.tables.getD i.toNat default).us.getD a 0) ((c.tables.getD i.toNat default).vs.getD b 0) 1000).1 = val (c.tables.getD i.toNat default).values a b ∧
    (Intensity c i ((c.tables.getD i.toNat default).us.getD a 0) ((c.tables.getD i.toNat default).vs.getD b 0) 1000).2.1 = val (c.tables.getD i.toNat default).values a b := by
  obtain ⟨t1, t2, t3⟩ := tabled_ok hT
  have g := (check_ok t1).2.2.1 i.toNat (by omega)
  have gv := g.view (h := 1000) (by omega)
  have r1 := ranged_any g.ur a
  have r2 := ranged_any g.vr b
  have e3 := intensity_eq hT (rectErr_of (H := 1000) (by omega) (X0 := (c.tables.getD i.toNat default).us.getD a 0) (X1 := (c.tables.getD i.toNat default).us.getD a 0) (Y0 := (c.tables.getD i.toNat default).vs.getD b 0) (Y1 := (c.tables.getD i.toNat default).vs.getD b 0) (by omega) (by omega))
  have n := at_node gv (i := a) (k := b) (by rw [sc_length]; exact ha) (by rw [sc_length]; exact hb)
  rw [sc_get, sc_get, Int.mul_comm _ 1000, Int.mul_comm _ 1000] at n
  rw [e3.2.1, e3.2.2]
  exact ⟨e3.1, n.1, n.2⟩
end Go.Proofs.Ytjhecgiipajdpaa
