/- Shares: roots, parts, sums. -/
import Derived.Test.YtjhecgiipajdpaaSp10
set_option linter.unusedVariables false
set_option linter.unusedSimpArgs false
namespace Go.Proofs.Ytjhecgiipajdpaa
/-! ### Roots -/
def rt (n : Int) : Nat → Int → Int
  | 0, r => r
  | k + 1, r => rt n k (if (r + 2 ^ k) * (r + 2 ^ k) ≤ n then r + 2 ^ k else r)
theorem sq_lt {a b : Int} (h : a * a < b * b) (hb : 0 ≤ b) : a < b := by
  rcases Int.lt_or_le a b with h1 | h1
  · exact h1
  · have := Int.mul_le_mul h1 h1 hb (by omega); omega
theorem sq_le {a b : Int} (ha : 0 ≤ a) (h : a ≤ b) : a * a ≤ b * b := Int.mul_le_mul h h ha (by omega)
theorem rt_spec {n : Int} : ∀ (k : Nat) (r : Int), 0 ≤ r → r * r ≤ n → n < (r + 2 ^ k) * (r + 2 ^ k) → 0 ≤ rt n k r ∧ rt n k r * rt n k r ≤ n ∧ n < (rt n k r + 1) * (rt n k r + 1)
  | 0, r, h0, h1, h2 => ⟨h0, h1, by show n < (r + 1) * (r + 1); simpa using h2⟩
  | k + 1, r, h0, h1, h2 => by
    have e : (2 : Int) ^ (k + 1) = 2 ^ k + 2 ^ k := by rw [Int.pow_succ]; omega
    have p : (0 : Int) < 2 ^ k := Int.pow_pos (by decide)
    unfold rt
    split
    · rename_i h
      refine rt_spec k _ (by omega) h ?_
      rw [e] at h2
      rw [Int.add_assoc]; exact h2
    · rename_i h
      exact rt_spec k r h0 h1 (by omega)
abbrev root17 (n : Int) : Int := rt n 17 0
theorem root17_spec {n : Int} (h0 : 0 ≤ n) (h1 : n < 17179869184) : 0 ≤ root17 n ∧ root17 n * root17 n ≤ n ∧ n < (root17 n + 1) * (root17 n + 1) :=
  rt_spec 17 0 (Int.le_refl _) (by simpa using h0) (by simpa using h1)
theorem root_unique {n a b : Int} (ha : 0 ≤ a) (hb : 0 ≤ b) (a1 : a * a ≤ n) (a2 : n < (a + 1) * (a + 1)) (b1 : b * b ≤ n) (b2 : n < (b + 1) * (b + 1)) : a = b := by
  have h1 := sq_lt (a := a) (b := b + 1) (by omega) (by omega)
  have h2 := sq_lt (a := b) (b := a + 1) (by omega) (by omega)
  omega
theorem root17_mono {m n : Int} (h0 : 0 ≤ m) (h : m ≤ n) (h1 : n < 17179869184) : root17 m ≤ root17 n := by
  have a := root17_spec h0 (by omega)
  have b := root17_spec (n := n) (by omega) h1
  have := sq_lt (a := root17 m) (b := root17 n + 1) (by omega) (by omega)
  omega
/-- Rounded up. -/
def rootUp (n : Int) : Int := if root17 n * root17 n < n then root17 n + 1 else root17 n
theorem rootUp_mono {m n : Int} (h0 : 0 ≤ m) (h : m ≤ n) (h1 : n < 17179869184) : rootUp m ≤ rootUp n := by
  have a := root17_spec h0 (by omega)
  have b := root17_spec (n := n) (by omega) h1
  have c := root17_mono h0 h h1
  unfold rootUp
  split
  · rename_i h2
    split
    · omega
    · rename_i h3
      have := sq_lt (a := root17 m) (b := root17 n) (by omega) (by omega)
      omega
  · split <;> omega
theorem root_le_up {m n : Int} (h0 : 0 ≤ m) (h : m ≤ n) (h1 : n < 17179869184) : root17 m ≤ rootUp n := by
  have c := root17_mono h0 h h1
  unfold rootUp
  split <;> omega
theorem root_big {n : Int} (h : 1000000 ≤ n) (h1 : n < 17179869184) : 1000 ≤ root17 n := by
  have b := root17_spec (n := n) (by omega) h1
  have := sq_lt (a := 1000) (b := root17 n + 1) (by omega) (by omega)
  omega
theorem root_small {n : Int} (h0 : 0 ≤ n) (h : n ≤ 60000000) : root17 n ≤ 7746 := by
  have b := root17_spec (n := n) (by omega) (by omega)
  have := sq_lt (a := root17 n) (b := 7747) (by omega) (by omega)
  omega

/-! ### Squares -/
def sqLo (a b : Int) : Int := if a ≤ 0 ∧ 0 ≤ b then 0 else min (a * a) (b * b)
def sqHi (a b : Int) : Int := max (a * a) (b * b)
theorem neg_sq (a : Int) : -a * -a = a * a := by rw [Int.neg_mul_neg]
theorem sqLo_le {a b x : Int} (h1 : a ≤ x) (h2 : x ≤ b) : sqLo a b ≤ x * x := by
  unfold sqLo
  split
  · rcases Int.le_total 0 x with h | h
    · exact Int.mul_nonneg h h
    · rw [← neg_sq]; exact Int.mul_nonneg (by omega) (by omega)
  · rename_i h
    rcases Int.le_total 0 a with h3 | h3
    · have := sq_le h3 h1; omega
    · have := sq_le (a := -b) (b := -x) (by omega) (by omega)
      rw [neg_sq, neg_sq] at this
      omega
theorem sqLo_at {a b : Int} (h : a ≤ b) : ∃ x, a ≤ x ∧ x ≤ b ∧ sqLo a b = x * x := by
  unfold sqLo
  split
  · exact ⟨0, by omega, by omega, rfl⟩
  · rcases Int.le_total (a * a) (b * b) with h3 | h3
    · exact ⟨a, by omega, h, by omega⟩
    · exact ⟨b, h, by omega, by omega⟩
theorem le_sqHi {a b x : Int} (h1 : a ≤ x) (h2 : x ≤ b) : x * x ≤ sqHi a b := by
  unfold sqHi
  rcases Int.le_total 0 x with h | h
  · have := sq_le h h2; omega
  · have := sq_le (a := -x) (b := -a) (by omega) (by omega)
    rw [neg_sq, neg_sq] at this
    omega
theorem sqHi_at {a b : Int} (h : a ≤ b) : ∃ x, a ≤ x ∧ x ≤ b ∧ sqHi a b = x * x := by
  unfold sqHi
  rcases Int.le_total (a * a) (b * b) with h3 | h3
  · exact ⟨b, h, by omega, by omega⟩
  · exact ⟨a, by omega, h, by omega⟩
theorem sqLo_sub {a b c d : Int} (h1 : a ≤ c) (h2 : c ≤ d) (h3 : d ≤ b) : sqLo a b ≤ sqLo c d := by
  obtain ⟨x, k1, k2, k3⟩ := sqLo_at h2
  rw [k3]; exact sqLo_le (by omega) (by omega)
theorem sqHi_sub {a b c d : Int} (h1 : a ≤ c) (h2 : c ≤ d) (h3 : d ≤ b) : sqHi c d ≤ sqHi a b := by
  obtain ⟨x, k1, k2, k3⟩ := sqHi_at h2
  rw [k3]; exact le_sqHi (by omega) (by omega)
theorem sqLo_hi {a b : Int} (h : a ≤ b) : 0 ≤ sqLo a b ∧ sqLo a b ≤ sqHi a b := by
  obtain ⟨x, k1, k2, k3⟩ := sqLo_at h
  refine ⟨?_, by rw [k3]; exact le_sqHi k1 k2⟩
  rw [k3]
  rcases Int.le_total 0 x with h | h
  · exact Int.mul_nonneg h h
  · rw [← neg_sq]; exact Int.mul_nonneg (by omega) (by omega)
theorem sqHi_in {a b : Int} (h1 : -5000 ≤ a) (h2 : a ≤ b) (h3 : b ≤ 5000) : sqHi a b ≤ 25000000 := by
  obtain ⟨x, k1, k2, k3⟩ := sqHi_at h2
  rw [k3]
  rcases Int.le_total 0 x with h | h
  · have := sq_le h (show x ≤ 5000 by omega); omega
  · have := sq_le (a := -x) (b := 5000) (by omega) (by omega)
    rw [neg_sq] at this; omega

/-! ### A part -/
def cub (n : Int) : Int := n * n * n
theorem cub_mono {a b : Int} (ha : 0 ≤ a) (h : a ≤ b) : cub a ≤ cub b := by
  unfold cub
  exact Int.mul_le_mul (sq_le ha h) h ha (Int.mul_nonneg (by omega) (by omega))
theorem cub_big {a : Int} (h : 1000 ≤ a) : 1000000000 ≤ cub a := cub_mono (a := 1000) (by decide) h
def nearSq (u0 u1 v0 v1 : Int) : Int := sqLo u0 u1 + sqLo v0 v1 + 1000000
def farSq (u0 u1 v0 v1 : Int) : Int := sqHi u0 u1 + sqHi v0 v1 + 1000000
def area (u0 u1 v0 v1 : Int) : Int := (u1 - u0) * (v1 - v0) * 1000
def pieceLo (x u0 u1 v0 v1 : Int) : Int := x * area u0 u1 v0 v1 / cub (rootUp (farSq u0 u1 v0 v1))
def pieceHi (y u0 u1 v0 v1 : Int) : Int := up (y * area u0 u1 v0 v1) (cub (root17 (nearSq u0 u1 v0 v1)))
/-- A range of tangents in the table's bounds. -/
def Rg (u0 u1 : Int) : Prop := -5000 ≤ u0 ∧ u0 ≤ u1 ∧ u1 ≤ 5000
theorem near_in {u0 u1 v0 v1 : Int} (hu : Rg u0 u1) (hv : Rg v0 v1) : 1000000 ≤ nearSq u0 u1 v0 v1 ∧ nearSq u0 u1 v0 v1 ≤ farSq u0 u1 v0 v1 ∧ farSq u0 u1 v0 v1 ≤ 51000000 := by
  have a := sqLo_hi hu.2.1
  have b := sqLo_hi hv.2.1
  have c := sqHi_in hu.1 hu.2.1 hu.2.2
  have d := sqHi_in hv.1 hv.2.1 hv.2.2
  unfold nearSq farSq
  omega
theorem area_in {u0 u1 v0 v1 : Int} (hu : Rg u0 u1) (hv : Rg v0 v1) : 0 ≤ area u0 u1 v0 v1 ∧ area u0 u1 v0 v1 ≤ 100000000000 := by
  unfold area Rg at *
  have := mulN 10000 10000 (a := u1 - u0) (b := v1 - v0) (by omega) (by omega)
  omega
theorem roots_in {u0 u1 v0 v1 : Int} (hu : Rg u0 u1) (hv : Rg v0 v1) : 1000 ≤ root17 (nearSq u0 u1 v0 v1) ∧ root17 (nearSq u0 u1 v0 v1) ≤ rootUp (farSq u0 u1 v0 v1) ∧ rootUp (farSq u0 u1 v0 v1) ≤ 7747 := by
  obtain ⟨h1, h2, h3⟩ := near_in hu hv
  have a := root_big h1 (by omega)
  have b := root_le_up (m := nearSq u0 u1 v0 v1) (by omega) h2 (by omega)
  have c := root_small (n := farSq u0 u1 v0 v1) (by omega) (by omega)
  refine ⟨a, b, ?_⟩
  unfold rootUp
  split <;> omega
theorem div_mono_den {x a b : Int} (hx : 0 ≤ x) (ha : 0 < a) (h : a ≤ b) : x / b ≤ x / a := by
  rw [Int.le_ediv_iff_mul_le ha]
  have h1 : x / b * b ≤ x := Int.ediv_mul_le x (by omega)
  have h2 : 0 ≤ x / b := Int.ediv_nonneg hx (by omega)
  have h3 := Int.mul_le_mul_of_nonneg_left h h2
  omega
theorem up_mono_den {x a b : Int} (hx : 0 ≤ x) (ha : 0 < a) (h : a ≤ b) : up x b ≤ up x a := by
  unfold up
  have h1 : (-x) / a ≤ (-x) / b := by
    rw [Int.le_ediv_iff_mul_le (by omega)]
    have h1 : (-x) / a * a ≤ -x := Int.ediv_mul_le _ (by omega)
    have h2 : (-x) / a ≤ 0 := by
      have := Int.ediv_le_ediv ha (show -x ≤ 0 by omega)
      simpa using this
    have h3 : (-((-x) / a)) * a ≤ (-((-x) / a)) * b := Int.mul_le_mul_of_nonneg_left h (by omega)
    rw [Int.neg_mul, Int.neg_mul] at h3
    omega
  omega
theorem up_mono_num {x y d : Int} (hd : 0 < d) (h : x ≤ y) : up x d ≤ up y d := by
  unfold up
  have := Int.ediv_le_ediv hd (show -y ≤ -x by omega)
  omega
theorem dn_add (x y : Int) {d : Int} (hd : 0 < d) : x / d + y / d ≤ (x + y) / d ∧ (x + y) / d ≤ x / d + y / d + 1 := by
  have a1 : x / d * d ≤ x := Int.ediv_mul_le x (by omega)
  have a2 := Int.lt_ediv_add_one_mul_self x hd
  have b1 : y / d * d ≤ y := Int.ediv_mul_le y (by omega)
  have b2 := Int.lt_ediv_add_one_mul_self y hd
  constructor
  · rw [Int.le_ediv_iff_mul_le hd, Int.add_mul]; omega
  · have : (x + y) / d < x / d + y / d + 2 := by
      rw [Int.ediv_lt_iff_lt_mul hd]
      have e : (x / d + y / d + 2) * d = (x / d + 1) * d + (y / d + 1) * d := by grind
      omega
    omega
theorem up_add (x y : Int) {d : Int} (hd : 0 < d) : up x d + up y d ≤ up (x + y) d + 1 := by
  unfold up
  have := dn_add (-x) (-y) hd
  have e : -(x + y) = -x + -y := by omega
  rw [e]; omega
theorem piece_in {x u0 u1 v0 v1 : Int} (hx : 0 ≤ x ∧ x ≤ 10000000) (hu : Rg u0 u1) (hv : Rg v0 v1) :
    (0 ≤ x * area u0 u1 v0 v1 ∧ x * area u0 u1 v0 v1 ≤ 1000000000000000000) ∧ (0 ≤ pieceLo x u0 u1 v0 v1 ∧ pieceLo x u0 u1 v0 v1 ≤ 1000000000) ∧ (0 ≤ pieceHi x u0 u1 v0 v1 ∧ pieceHi x u0 u1 v0 v1 ≤ 1000000000) := by
  have a := area_in hu hv
  have m := mulN 10000000 100000000000 (a := x) (b := area u0 u1 v0 v1) hx a
  obtain ⟨r1, r2, r3⟩ := roots_in hu hv
  have c1 := cub_big r1
  have c2 := cub_big (show 1000 ≤ rootUp (farSq u0 u1 v0 v1) by omega)
  refine ⟨by omega, ?_, ?_⟩
  · unfold pieceLo
    refine div_in0 (by omega) ⟨m.1, ?_⟩
    have := Int.mul_le_mul_of_nonneg_left c2 (show (0 : Int) ≤ 1000000000 by decide)
    omega
  · unfold pieceHi
    refine up_in0 (by omega) ⟨m.1, ?_⟩
    have := Int.mul_le_mul_of_nonneg_left c1 (show (0 : Int) ≤ 1000000000 by decide)
    omega
theorem piece_le {x y u0 u1 v0 v1 : Int} (hx : 0 ≤ x) (hxy : x ≤ y) (hu : Rg u0 u1) (hv : Rg v0 v1) : pieceLo x u0 u1 v0 v1 ≤ pieceHi y u0 u1 v0 v1 := by
  have a := area_in hu hv
  obtain ⟨r1, r2, r3⟩ := roots_in hu hv
  have c1 := cub_big r1
  have c2 := cub_mono (a := root17 (nearSq u0 u1 v0 v1)) (by omega) r2
  have m0 := Int.mul_nonneg hx a.1
  have m1 := Int.mul_le_mul_of_nonneg_right hxy a.1
  unfold pieceLo pieceHi
  have h1 := div_mono_den m0 (a := cub (root17 (nearSq u0 u1 v0 v1))) (by omega) c2
  have h2 : x * area u0 u1 v0 v1 / cub (root17 (nearSq u0 u1 v0 v1)) ≤ up (y * area u0 u1 v0 v1) (cub (root17 (nearSq u0 u1 v0 v1))) := by
    have b1 : x * area u0 u1 v0 v1 / cub (root17 (nearSq u0 u1 v0 v1)) * cub (root17 (nearSq u0 u1 v0 v1)) ≤ x * area u0 u1 v0 v1 := Int.ediv_mul_le _ (by omega)
    unfold up
    have b2 : -(x * area u0 u1 v0 v1 / cub (root17 (nearSq u0 u1 v0 v1))) * cub (root17 (nearSq u0 u1 v0 v1)) ≥ -(y * area u0 u1 v0 v1) := by rw [Int.neg_mul]; omega
    have b3 : -(y * area u0 u1 v0 v1) / cub (root17 (nearSq u0 u1 v0 v1)) ≤ -(x * area u0 u1 v0 v1 / cub (root17 (nearSq u0 u1 v0 v1))) := by
      have := Int.ediv_le_ediv (a := -(y * area u0 u1 v0 v1)) (c := cub (root17 (nearSq u0 u1 v0 v1))) (by omega) b2
      rwa [Int.mul_ediv_cancel _ (by omega)] at this
    omega
  omega
theorem pieceLo_mono {x y u0 u1 v0 v1 : Int} (hxy : x ≤ y) (hu : Rg u0 u1) (hv : Rg v0 v1) : pieceLo x u0 u1 v0 v1 ≤ pieceLo y u0 u1 v0 v1 := by
  have a := area_in hu hv
  obtain ⟨r1, r2, r3⟩ := roots_in hu hv
  have c2 := cub_big (show 1000 ≤ rootUp (farSq u0 u1 v0 v1) by omega)
  unfold pieceLo
  exact Int.ediv_le_ediv (by omega) (Int.mul_le_mul_of_nonneg_right hxy a.1)
theorem pieceHi_mono {x y u0 u1 v0 v1 : Int} (hxy : x ≤ y) (hu : Rg u0 u1) (hv : Rg v0 v1) : pieceHi x u0 u1 v0 v1 ≤ pieceHi y u0 u1 v0 v1 := by
  have a := area_in hu hv
  obtain ⟨r1, r2, r3⟩ := roots_in hu hv
  have c2 := cub_big r1
  unfold pieceHi
  exact up_mono_num (by omega) (Int.mul_le_mul_of_nonneg_right hxy a.1)
/-- A part of a part, by the denominators of the whole. -/
theorem part_lo {x u0 u1 v0 v1 a0 a1 b0 b1 : Int} (hx : 0 ≤ x) (hu : Rg u0 u1) (hv : Rg v0 v1) (h1 : u0 ≤ a0) (h2 : a0 ≤ a1) (h3 : a1 ≤ u1) (k1 : v0 ≤ b0) (k2 : b0 ≤ b1) (k3 : b1 ≤ v1) :
    x * area a0 a1 b0 b1 / cub (rootUp (farSq u0 u1 v0 v1)) ≤ pieceLo x a0 a1 b0 b1 := by
  have ha : Rg a0 a1 := by unfold Rg at *; omega
  have hb : Rg b0 b1 := by unfold Rg at *; omega
  have f := near_in hu hv
  have f' := near_in ha hb
  have e : farSq a0 a1 b0 b1 ≤ farSq u0 u1 v0 v1 := by
    have := sqHi_sub h1 h2 h3
    have := sqHi_sub k1 k2 k3
    unfold farSq; omega
  have r := roots_in ha hb
  have m := rootUp_mono (m := farSq a0 a1 b0 b1) (by omega) e (by omega)
  have c := cub_mono (a := rootUp (farSq a0 a1 b0 b1)) (by omega) m
  have c2 := cub_big (show 1000 ≤ rootUp (farSq a0 a1 b0 b1) by omega)
  exact div_mono_den (Int.mul_nonneg hx (area_in ha hb).1) (by omega) c
theorem part_hi {x u0 u1 v0 v1 a0 a1 b0 b1 : Int} (hx : 0 ≤ x) (hu : Rg u0 u1) (hv : Rg v0 v1) (h1 : u0 ≤ a0) (h2 : a0 ≤ a1) (h3 : a1 ≤ u1) (k1 : v0 ≤ b0) (k2 : b0 ≤ b1) (k3 : b1 ≤ v1) :
    pieceHi x a0 a1 b0 b1 ≤ up (x * area a0 a1 b0 b1) (cub (root17 (nearSq u0 u1 v0 v1))) := by
  have ha : Rg a0 a1 := by unfold Rg at *; omega
  have hb : Rg b0 b1 := by unfold Rg at *; omega
  have f := near_in hu hv
  have f' := near_in ha hb
  have e : nearSq u0 u1 v0 v1 ≤ nearSq a0 a1 b0 b1 := by
    have := sqLo_sub h1 h2 h3
    have := sqLo_sub k1 k2 k3
    unfold nearSq; omega
  have r := roots_in hu hv
  have m := root17_mono (m := nearSq u0 u1 v0 v1) (by omega) e (by omega)
  have c := cub_mono (a := root17 (nearSq u0 u1 v0 v1)) (by omega) m
  have c2 := cub_big r.1
  exact up_mono_den (Int.mul_nonneg hx (area_in ha hb).1) (by omega) c
/-- Four parts of a part. -/
theorem four {x u0 u1 v0 v1 p q : Int} (hx : 0 ≤ x) (hu : Rg u0 u1) (hv : Rg v0 v1) (hp : u0 ≤ p ∧ p ≤ u1) (hq : v0 ≤ q ∧ q ≤ v1) :
    pieceLo x u0 u1 v0 v1 - 4 ≤ (pieceLo x u0 p v0 q + pieceLo x u0 p q v1) + (pieceLo x p u1 v0 q + pieceLo x p u1 q v1) ∧
    (pieceHi x u0 p v0 q + pieceHi x u0 p q v1) + (pieceHi x p u1 v0 q + pieceHi x p u1 q v1) ≤ pieceHi x u0 u1 v0 v1 + 4 := by
  have r := roots_in hu hv
  have c1 := cub_big r.1
  have c2 := cub_big (show 1000 ≤ rootUp (farSq u0 u1 v0 v1) by omega)
  have e : x * area u0 u1 v0 v1 = (x * area u0 p v0 q + x * area u0 p q v1) + (x * area p u1 v0 q + x * area p u1 q v1) := by unfold area; grind
  have l1 := part_lo (x := x) hx hu hv (Int.le_refl u0) hp.1 hp.2 (Int.le_refl v0) hq.1 hq.2
  have l2 := part_lo (x := x) hx hu hv (Int.le_refl u0) hp.1 hp.2 hq.1 hq.2 (Int.le_refl v1)
  have l3 := part_lo (x := x) hx hu hv hp.1 hp.2 (Int.le_refl u1) (Int.le_refl v0) hq.1 hq.2
  have l4 := part_lo (x := x) hx hu hv hp.1 hp.2 (Int.le_refl u1) hq.1 hq.2 (Int.le_refl v1)
  have h1 := part_hi (x := x) hx hu hv (Int.le_refl u0) hp.1 hp.2 (Int.le_refl v0) hq.1 hq.2
  have h2 := part_hi (x := x) hx hu hv (Int.le_refl u0) hp.1 hp.2 hq.1 hq.2 (Int.le_refl v1)
  have h3 := part_hi (x := x) hx hu hv hp.1 hp.2 (Int.le_refl u1) (Int.le_refl v0) hq.1 hq.2
  have h4 := part_hi (x := x) hx hu hv hp.1 hp.2 (Int.le_refl u1) hq.1 hq.2 (Int.le_refl v1)
  constructor
  · have a1 := dn_add (x * area u0 p v0 q) (x * area u0 p q v1) (d := cub (rootUp (farSq u0 u1 v0 v1))) (by omega)
    have a2 := dn_add (x * area p u1 v0 q) (x * area p u1 q v1) (d := cub (rootUp (farSq u0 u1 v0 v1))) (by omega)
    have a3 := dn_add (x * area u0 p v0 q + x * area u0 p q v1) (x * area p u1 v0 q + x * area p u1 q v1) (d := cub (rootUp (farSq u0 u1 v0 v1))) (by omega)
    have e2 : pieceLo x u0 u1 v0 v1 = ((x * area u0 p v0 q + x * area u0 p q v1) + (x * area p u1 v0 q + x * area p u1 q v1)) / cub (rootUp (farSq u0 u1 v0 v1)) := by unfold pieceLo; rw [e]
    omega
  · have a1 := up_add (x * area u0 p v0 q) (x * area u0 p q v1) (d := cub (root17 (nearSq u0 u1 v0 v1))) (by omega)
    have a2 := up_add (x * area p u1 v0 q) (x * area p u1 q v1) (d := cub (root17 (nearSq u0 u1 v0 v1))) (by omega)
    have a3 := up_add (x * area u0 p v0 q + x * area u0 p q v1) (x * area p u1 v0 q + x * area p u1 q v1) (d := cub (root17 (nearSq u0 u1 v0 v1))) (by omega)
    have e2 : pieceHi x u0 u1 v0 v1 = up ((x * area u0 p v0 q + x * area u0 p q v1) + (x * area p u1 v0 q + x * area p u1 q v1)) (cub (root17 (nearSq u0 u1 v0 v1))) := by unfold pieceHi; rw [e]
    omega

/-! ### Sums -/
def sumN (f : Nat → Int) : Nat → Int
  | 0 => 0
  | n + 1 => sumN f n + f n
theorem sumN_succ (f : Nat → Int) (n : Nat) : sumN f (n + 1) = sumN f n + f n := rfl
theorem sumN_le {f g : Nat → Int} : ∀ {n : Nat}, (∀ j, j < n → f j ≤ g j) → sumN f n ≤ sumN g n
  | 0, _ => Int.le_refl _
  | n + 1, h => by
    have := sumN_le (n := n) fun j hj => h j (by omega)
    have := h n (by omega)
    unfold sumN; omega
theorem sumN_congr {f g : Nat → Int} : ∀ {n : Nat}, (∀ j, j < n → f j = g j) → sumN f n = sumN g n
  | 0, _ => rfl
  | n + 1, h => by
    have := sumN_congr (n := n) fun j hj => h j (by omega)
    have := h n (by omega)
    unfold sumN; omega
theorem sumN_lin (f : Nat → Int) (c : Int) : ∀ n : Nat, sumN (fun j => f j + c) n = sumN f n + n * c
  | 0 => by simp [sumN]
  | n + 1 => by
    unfold sumN
    rw [sumN_lin f c n]
    have : ((n + 1 : Nat) : Int) * c = n * c + c := by rw [Int.natCast_add, Int.add_mul]; simp
    omega
theorem sumN_in {f : Nat → Int} {M : Int} : ∀ {n : Nat}, (∀ j, j < n → 0 ≤ f j ∧ f j ≤ M) → 0 ≤ sumN f n ∧ sumN f n ≤ n * M
  | 0, _ => by simp [sumN]
  | n + 1, h => by
    have a := sumN_in (n := n) fun j hj => h j (by omega)
    have b := h n (by omega)
    unfold sumN
    have : ((n + 1 : Nat) : Int) * M = n * M + M := by rw [Int.natCast_add, Int.add_mul]; simp
    omega
theorem sumN_two (f : Nat → Int) : ∀ n : Nat, sumN f (2 * n) = sumN (fun j => f (2 * j) + f (2 * j + 1)) n
  | 0 => rfl
  | n + 1 => by
    rw [show 2 * (n + 1) = 2 * n + 1 + 1 from by omega, sumN_succ, sumN_succ, sumN_succ, sumN_two f n]
    omega
theorem sumN_append (f : Nat → Int) (m : Nat) : ∀ n : Nat, sumN f (m + n) = sumN f m + sumN (fun j => f (m + j)) n
  | 0 => by simp [sumN]
  | n + 1 => by
    rw [← Nat.add_assoc, sumN_succ, sumN_succ, sumN_append f m n]
    omega
theorem sumN_grid (f : Nat → Nat → Int) (s : Nat) : ∀ m : Nat, sumN (fun j => f (j / s) (j % s)) (m * s) = sumN (fun a => sumN (fun b => f a b) s) m
  | 0 => by rw [Nat.zero_mul]; rfl
  | m + 1 => by
    rw [Nat.succ_mul, sumN_append, sumN_grid f s m]
    show _ = sumN _ m + sumN (fun b => f m b) s
    congr 1
    refine sumN_congr fun j hj => ?_
    have hs : 0 < s := by omega
    rw [show m * s + j = j + s * m from by rw [Nat.mul_comm, Nat.add_comm], Nat.add_mul_div_left _ _ hs, Nat.add_mul_mod_self_left, Nat.div_eq_of_lt hj, Nat.mod_eq_of_lt hj, Nat.zero_add]
end Go.Proofs.Ytjhecgiipajdpaa
