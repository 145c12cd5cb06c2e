/- Shares: the sums, and what a finer division says. -/
import Derived.Test.YtjhecgiipajdpaaSp15
import Derived.Test.YtjhecgiipajdpaaSp18
set_option linter.unusedVariables false
set_option linter.unusedSimpArgs false
namespace Go.Proofs.Ytjhecgiipajdpaa
/-! ### Bits -/
def bitOf : Nat → Int
  | 0 => 0
  | k + 1 => 2 ^ k
theorem bitOf_half (k : Nat) : (bitOf (k + 1)).tdiv 2 = bitOf k := by
  cases k with
  | zero => rfl
  | succ k =>
    show ((2 : Int) ^ (k + 1)).tdiv 2 = 2 ^ k
    rw [Int.pow_succ, Int.mul_tdiv_cancel _ (by decide)]
theorem bitOf_pos (k : Nat) : 0 < bitOf (k + 1) := Int.pow_pos (by decide)
theorem bitOf_le {k : Nat} (h : k ≤ 17) : 0 ≤ bitOf k ∧ bitOf k ≤ 65536 := by
  have h2 : ∀ j : Fin 18, 0 ≤ bitOf j.val ∧ bitOf j.val ≤ 65536 := by decide
  exact h2 ⟨k, by omega⟩
/-! ### Steps -/
def stepAt (a b s : Int) (j : Nat) : Int := a + ((b - a) * (j : Int)).tdiv s
def stepsL (a b s : Int) : List Int := (List.range (s.toNat + 1)).map (stepAt a b s)
theorem stepsL_take {a b s : Int} {k : Nat} : (List.range k).map (stepAt a b s) ++ [stepAt a b s k] = (List.range (k + 1)).map (stepAt a b s) := by
  rw [List.range_succ, List.map_append]; rfl
theorem stepsL_length (a b s : Int) : (stepsL a b s).length = s.toNat + 1 := by unfold stepsL; rw [List.length_map, List.length_range]
theorem stepsL_get {a b s : Int} {j : Nat} (h : j < s.toNat + 1) : (stepsL a b s).getD j 0 = stepAt a b s j := by
  unfold stepsL
  rw [List.getD_eq_getElem?_getD, List.getElem?_map, List.getElem?_range h]
  rfl
theorem stepAt_div {a b s : Int} (hab : a ≤ b) (j : Nat) : stepAt a b s j = a + (b - a) * (j : Int) / s := by
  unfold stepAt
  rw [Int.tdiv_eq_ediv_of_nonneg (Int.mul_nonneg (by omega) (by omega))]
theorem stepAt_mono {a b s : Int} (hab : a ≤ b) (hs : 0 < s) {j k : Nat} (h : j ≤ k) : stepAt a b s j ≤ stepAt a b s k := by
  rw [stepAt_div hab, stepAt_div hab]
  have m := Int.mul_le_mul_of_nonneg_left (show (j : Int) ≤ (k : Int) by omega) (show 0 ≤ b - a by omega)
  have := Int.ediv_le_ediv hs m
  omega
theorem stepAt_in {a b s : Int} (hab : a ≤ b) (hs : 0 < s) {j : Nat} (h : (j : Int) ≤ s) : a ≤ stepAt a b s j ∧ stepAt a b s j ≤ b := by
  rw [stepAt_div hab]
  have m0 := Int.mul_nonneg (show 0 ≤ b - a by omega) (show (0 : Int) ≤ (j : Int) by omega)
  have m := Int.mul_le_mul_of_nonneg_left h (show 0 ≤ b - a by omega)
  have d0 := Int.ediv_nonneg m0 (show 0 ≤ s by omega)
  have d1 := Int.ediv_le_ediv hs m
  rw [Int.mul_ediv_cancel _ (by omega)] at d1
  omega
theorem stepAt_rg {a b s : Int} (ha : -5000 ≤ a) (hab : a ≤ b) (hb : b ≤ 5000) (hs : 0 < s) {j : Nat} (h : (j : Int) + 1 ≤ s) : Rg (stepAt a b s j) (stepAt a b s (j + 1)) := by
  have h1 := stepAt_in hab hs (j := j) (by omega)
  have h2 := stepAt_in hab hs (j := j + 1) (by omega)
  have h3 := stepAt_mono hab hs (j := j) (k := j + 1) (by omega)
  unfold Rg
  omega
theorem stepAt_two {a b s : Int} (hab : a ≤ b) (hs : 0 < s) (j : Nat) : stepAt a b (2 * s) (2 * j) = stepAt a b s j := by
  rw [stepAt_div hab, stepAt_div hab]
  have e : (b - a) * ((2 * j : Nat) : Int) = 2 * ((b - a) * (j : Int)) := by rw [Int.natCast_mul]; grind
  rw [e, Int.mul_ediv_mul_of_pos _ _ (by decide)]
/-! ### The shares -/
section
variable (t : Table) (s : Int)
abbrev uA (i m : Nat) : Int := stepAt (t.us.getD i 0) (t.us.getD (i + 1) 0) s m
abbrev vA (k n : Nat) : Int := stepAt (t.vs.getD k 0) (t.vs.getD (k + 1) 0) s n
def pLo (i k m n : Nat) : Int := pieceLo (min4 t.values i k) (uA t s i m) (uA t s i (m + 1)) (vA t s k n) (vA t s k (n + 1))
def pHi (i k m n : Nat) : Int := pieceHi (max4 t.values i k) (uA t s i m) (uA t s i (m + 1)) (vA t s k n) (vA t s k (n + 1))
def mLo (i k m : Nat) : Int := sumN (pLo t s i k m) s.toNat
def mHi (i k m : Nat) : Int := sumN (pHi t s i k m) s.toNat
def kLo (i k : Nat) : Int := sumN (mLo t s i k) s.toNat
def kHi (i k : Nat) : Int := sumN (mHi t s i k) s.toNat
def iLo (i : Nat) : Int := sumN (kLo t s i) (t.vs.length - 1)
def iHi (i : Nat) : Int := sumN (kHi t s i) (t.vs.length - 1)
def shareLo : Int := sumN (iLo t s) (t.us.length - 1)
def shareHi : Int := sumN (iHi t s) (t.us.length - 1)
end
def Share (c : Cat) (i s : Int) : Int × Int × Int :=
  if tabled c i ≠ 0 then (0, 0, tabled c i)
  else if ¬ (1 ≤ s ∧ s ≤ 4) then (0, 0, 7)
  else (shareLo (c.tables.getD i.toNat default) s / 1000, up (shareHi (c.tables.getD i.toNat default) s) 1000, 0)
theorem min4_in {t : Table} (g : Good t) {i k : Nat} (hi : i + 1 < t.us.length) (hk : k + 1 < t.vs.length) : (0 ≤ min4 t.values i k ∧ min4 t.values i k ≤ max4 t.values i k) ∧ max4 t.values i k ≤ 10000000 := by
  have a := g.vals i k (by omega) (by omega)
  have b := g.vals i (k + 1) (by omega) hk
  have c := g.vals (i + 1) k hi (by omega)
  have d := g.vals (i + 1) (k + 1) hi hk
  unfold min4 max4
  omega
theorem uA_rg {t : Table} (g : Good t) {s : Int} (hs : 0 < s) {i m : Nat} (hi : i + 1 < t.us.length) (hm : (m : Int) + 1 ≤ s) : Rg (uA t s i m) (uA t s i (m + 1)) := by
  have a := ranged_any g.ur i
  have b := ranged_any g.ur (i + 1)
  have c := rising_get g.ui hi
  exact stepAt_rg (by omega) (by omega) (by omega) hs hm
theorem vA_rg {t : Table} (g : Good t) {s : Int} (hs : 0 < s) {k n : Nat} (hk : k + 1 < t.vs.length) (hn : (n : Int) + 1 ≤ s) : Rg (vA t s k n) (vA t s k (n + 1)) := by
  have a := ranged_any g.vr k
  have b := ranged_any g.vr (k + 1)
  have c := rising_get g.vi hk
  exact stepAt_rg (by omega) (by omega) (by omega) hs hn
theorem share_le {t : Table} (g : Good t) {s : Int} (hs : 0 < s) : shareLo t s ≤ shareHi t s := by
  unfold shareLo shareHi
  refine sumN_le fun i hi => ?_
  unfold iLo iHi
  refine sumN_le fun k hk => ?_
  unfold kLo kHi
  refine sumN_le fun m hm => ?_
  unfold mLo mHi
  refine sumN_le fun n hn => ?_
  have v := min4_in g (i := i) (k := k) (by omega) (by omega)
  exact piece_le v.1.1 v.1.2 (uA_rg g hs (by omega) (by omega)) (vA_rg g hs (by omega) (by omega))
theorem share_in {t : Table} (g : Good t) {s : Int} (hs : 1 ≤ s ∧ s ≤ 4) : 0 ≤ shareLo t s ∧ shareHi t s ≤ 2000000000000 := by
  have gu := g.ul
  have gv := g.vl
  have four : ∀ {f : Nat → Int} {M : Int}, 0 ≤ M → (∀ j, j < s.toNat → 0 ≤ f j ∧ f j ≤ M) → 0 ≤ sumN f s.toNat ∧ sumN f s.toNat ≤ 4 * M := fun {f M} hM h => by
    have a := sumN_in h
    have b := Int.mul_le_mul_of_nonneg_right (show (s.toNat : Int) ≤ 4 by omega) hM
    omega
  have elev : ∀ {f : Nat → Int} {M : Int} {n : Nat}, n ≤ 11 → 0 ≤ M → (∀ j, j < n → 0 ≤ f j ∧ f j ≤ M) → 0 ≤ sumN f n ∧ sumN f n ≤ 11 * M := fun {f M n} hn hM h => by
    have a := sumN_in h
    have b := Int.mul_le_mul_of_nonneg_right (show (n : Int) ≤ 11 by omega) hM
    omega
  have lo : 0 ≤ shareLo t s ∧ shareLo t s ≤ 11 * (11 * (4 * (4 * 1000000000))) :=
    elev (by omega) (by decide) fun i hi => elev (by omega) (by decide) fun k hk => four (by decide) fun m hm => four (by decide) fun n hn => by
      have v := min4_in g (i := i) (k := k) (by omega) (by omega)
      exact (piece_in (x := min4 t.values i k) (by omega) (uA_rg g (by omega) (by omega) (by omega)) (vA_rg g (by omega) (by omega) (by omega))).2.1
  have hi : 0 ≤ shareHi t s ∧ shareHi t s ≤ 11 * (11 * (4 * (4 * 1000000000))) :=
    elev (by omega) (by decide) fun i hi => elev (by omega) (by decide) fun k hk => four (by decide) fun m hm => four (by decide) fun n hn => by
      have v := min4_in g (i := i) (k := k) (by omega) (by omega)
      exact (piece_in (x := max4 t.values i k) (by omega) (uA_rg g (by omega) (by omega) (by omega)) (vA_rg g (by omega) (by omega) (by omega))).2.2
  omega
theorem sumN_add (f g : Nat → Int) : ∀ n : Nat, sumN (fun j => f j + g j) n = sumN f n + sumN g n
  | 0 => rfl
  | n + 1 => by
    rw [sumN_succ, sumN_succ, sumN_succ, sumN_add f g n]; omega
/-- The cell of a finer division, against that of the coarser one. -/
theorem finer_k {t : Table} (g : Good t) {s : Int} (hs : 0 < s) {i k : Nat} (hi : i + 1 < t.us.length) (hk : k + 1 < t.vs.length) :
    kLo t s i k - 4 * (s * s) ≤ kLo t (2 * s) i k ∧ kHi t (2 * s) i k ≤ kHi t s i k + 4 * (s * s) := by
  have v := min4_in g hi hk
  have e2 : (2 * s).toNat = 2 * s.toNat := by omega
  have cu := rising_get g.ui hi
  have cv := rising_get g.vi hk
  have hS : ((s.toNat : Nat) : Int) = s := by omega
  -- the four parts
  have part : ∀ m n : Nat, m < s.toNat → n < s.toNat →
      pLo t s i k m n - 4 ≤ (pLo t (2 * s) i k (2 * m) (2 * n) + pLo t (2 * s) i k (2 * m) (2 * n + 1)) + (pLo t (2 * s) i k (2 * m + 1) (2 * n) + pLo t (2 * s) i k (2 * m + 1) (2 * n + 1)) ∧
      (pHi t (2 * s) i k (2 * m) (2 * n) + pHi t (2 * s) i k (2 * m) (2 * n + 1)) + (pHi t (2 * s) i k (2 * m + 1) (2 * n) + pHi t (2 * s) i k (2 * m + 1) (2 * n + 1)) ≤ pHi t s i k m n + 4 := by
    intro m n hm hn
    have ru := uA_rg g hs hi (m := m) (by omega)
    have rv := vA_rg g hs hk (n := n) (by omega)
    have eu0 : uA t (2 * s) i (2 * m) = uA t s i m := stepAt_two (by omega) hs m
    have eu1 : uA t (2 * s) i (2 * m + 1 + 1) = uA t s i (m + 1) := stepAt_two (by omega) hs (m + 1)
    have ev0 : vA t (2 * s) k (2 * n) = vA t s k n := stepAt_two (by omega) hs n
    have ev1 : vA t (2 * s) k (2 * n + 1 + 1) = vA t s k (n + 1) := stepAt_two (by omega) hs (n + 1)
    have p1 : uA t (2 * s) i (2 * m) ≤ uA t (2 * s) i (2 * m + 1) := stepAt_mono (by omega) (by omega) (by omega)
    have p2 : uA t (2 * s) i (2 * m + 1) ≤ uA t (2 * s) i (2 * m + 1 + 1) := stepAt_mono (by omega) (by omega) (by omega)
    have q1 : vA t (2 * s) k (2 * n) ≤ vA t (2 * s) k (2 * n + 1) := stepAt_mono (by omega) (by omega) (by omega)
    have q2 : vA t (2 * s) k (2 * n + 1) ≤ vA t (2 * s) k (2 * n + 1 + 1) := stepAt_mono (by omega) (by omega) (by omega)
    rw [eu0] at p1; rw [eu1] at p2; rw [ev0] at q1; rw [ev1] at q2
    have f1 := (four (x := min4 t.values i k) v.1.1 ru rv ⟨p1, p2⟩ ⟨q1, q2⟩).1
    have f2 := (four (x := max4 t.values i k) (by omega) ru rv ⟨p1, p2⟩ ⟨q1, q2⟩).2
    unfold pLo pHi
    rw [eu0, eu1, ev0, ev1]
    exact ⟨f1, f2⟩
  have e : (s.toNat : Int) * ((s.toNat : Int) * 4) = 4 * (s * s) := by rw [hS]; grind
  constructor
  · unfold kLo
    rw [e2, sumN_two]
    have h1 : sumN (fun m => mLo t s i k m + -((s.toNat : Int) * 4)) s.toNat ≤ sumN (fun m => mLo t (2 * s) i k (2 * m) + mLo t (2 * s) i k (2 * m + 1)) s.toNat := by
      refine sumN_le fun m hm => ?_
      unfold mLo
      rw [e2, sumN_two, sumN_two, ← sumN_add]
      have h2 : sumN (fun n => pLo t s i k m n + -4) s.toNat ≤ sumN (fun n => (pLo t (2 * s) i k (2 * m) (2 * n) + pLo t (2 * s) i k (2 * m) (2 * n + 1)) + (pLo t (2 * s) i k (2 * m + 1) (2 * n) + pLo t (2 * s) i k (2 * m + 1) (2 * n + 1))) s.toNat :=
        sumN_le fun n hn => by have := (part m n hm hn).1; omega
      rw [sumN_lin] at h2
      have h3 : sumN (fun n => pLo t s i k m n) s.toNat = sumN (pLo t s i k m) s.toNat := rfl
      omega
    rw [sumN_lin] at h1
    have h3 : sumN (fun m => mLo t s i k m) s.toNat = sumN (mLo t s i k) s.toNat := rfl
    have h4 : (s.toNat : Int) * -((s.toNat : Int) * 4) = -((s.toNat : Int) * ((s.toNat : Int) * 4)) := Int.mul_neg ..
    omega
  · unfold kHi
    rw [e2, sumN_two]
    have h1 : sumN (fun m => mHi t (2 * s) i k (2 * m) + mHi t (2 * s) i k (2 * m + 1)) s.toNat ≤ sumN (fun m => mHi t s i k m + ((s.toNat : Int) * 4)) s.toNat := by
      refine sumN_le fun m hm => ?_
      unfold mHi
      rw [e2, sumN_two, sumN_two, ← sumN_add]
      have h2 : sumN (fun n => (pHi t (2 * s) i k (2 * m) (2 * n) + pHi t (2 * s) i k (2 * m) (2 * n + 1)) + (pHi t (2 * s) i k (2 * m + 1) (2 * n) + pHi t (2 * s) i k (2 * m + 1) (2 * n + 1))) s.toNat ≤ sumN (fun n => pHi t s i k m n + 4) s.toNat :=
        sumN_le fun n hn => (part m n hm hn).2
      rw [sumN_lin] at h2
      have h3 : sumN (fun n => pHi t s i k m n) s.toNat = sumN (pHi t s i k m) s.toNat := rfl
      omega
    rw [sumN_lin] at h1
    have h3 : sumN (fun m => mHi t s i k m) s.toNat = sumN (mHi t s i k) s.toNat := rfl
    omega
theorem finer_sum {t : Table} (g : Good t) {s : Int} (hs : 0 < s) :
    shareLo t s - (t.us.length : Int) * ((t.vs.length : Int) * (4 * (s * s))) ≤ shareLo t (2 * s) ∧ shareHi t (2 * s) ≤ shareHi t s + (t.us.length : Int) * ((t.vs.length : Int) * (4 * (s * s))) := by
  have hss : 0 ≤ 4 * (s * s) := by have := Int.mul_nonneg (show 0 ≤ s by omega) (show 0 ≤ s by omega); omega
  have gu := g.ul
  have gv := g.vl
  have lev : ((t.vs.length - 1 : Nat) : Int) * (4 * (s * s)) ≤ (t.vs.length : Int) * (4 * (s * s)) := Int.mul_le_mul_of_nonneg_right (by omega) hss
  have p0 : 0 ≤ (t.vs.length : Int) * (4 * (s * s)) := Int.mul_nonneg (by omega) hss
  have leu : ((t.us.length - 1 : Nat) : Int) * ((t.vs.length : Int) * (4 * (s * s))) ≤ (t.us.length : Int) * ((t.vs.length : Int) * (4 * (s * s))) := Int.mul_le_mul_of_nonneg_right (by omega) p0
  have hi : ∀ i, i < t.us.length - 1 → iLo t s i + -((t.vs.length : Int) * (4 * (s * s))) ≤ iLo t (2 * s) i ∧ iHi t (2 * s) i ≤ iHi t s i + (t.vs.length : Int) * (4 * (s * s)) := by
    intro i hi
    constructor
    · unfold iLo
      have h := sumN_le (f := fun k => kLo t s i k + -(4 * (s * s))) (g := kLo t (2 * s) i) (n := t.vs.length - 1) fun k hk => by
        have := (finer_k g hs (i := i) (k := k) (by omega) (by omega)).1; omega
      rw [sumN_lin] at h
      have h3 : sumN (fun k => kLo t s i k) (t.vs.length - 1) = sumN (kLo t s i) (t.vs.length - 1) := rfl
      rw [Int.mul_neg] at h
      omega
    · unfold iHi
      have h := sumN_le (f := kHi t (2 * s) i) (g := fun k => kHi t s i k + 4 * (s * s)) (n := t.vs.length - 1) fun k hk => (finer_k g hs (i := i) (k := k) (by omega) (by omega)).2
      rw [sumN_lin] at h
      have h3 : sumN (fun k => kHi t s i k) (t.vs.length - 1) = sumN (kHi t s i) (t.vs.length - 1) := rfl
      omega
  constructor
  · unfold shareLo
    have h := sumN_le (f := fun i => iLo t s i + -((t.vs.length : Int) * (4 * (s * s)))) (g := iLo t (2 * s)) (n := t.us.length - 1) fun i h => (hi i h).1
    rw [sumN_lin] at h
    have h3 : sumN (fun i => iLo t s i) (t.us.length - 1) = sumN (iLo t s) (t.us.length - 1) := rfl
    rw [Int.mul_neg] at h
    omega
  · unfold shareHi
    have h := sumN_le (f := iHi t (2 * s)) (g := fun i => iHi t s i + (t.vs.length : Int) * (4 * (s * s))) (n := t.us.length - 1) fun i h => (hi i h).2
    rw [sumN_lin] at h
    have h3 : sumN (fun i => iHi t s i) (t.us.length - 1) = sumN (iHi t s) (t.us.length - 1) := rfl
    omega
theorem share_eq {c : Cat} {i s : Int} (h1 : tabled c i = 0) (h2 : 1 ≤ s ∧ s ≤ 4) : (Share c i s).2.2 = 0 ∧ (Share c i s).1 = shareLo (c.tables.getD i.toNat default) s / 1000 ∧ (Share c i s).2.1 = up (shareHi (c.tables.getD i.toNat default) s) 1000 := by
  unfold Share
  rw [if_neg (by omega), if_neg (by omega)]
  exact ⟨rfl, rfl, rfl⟩
theorem share_ok {c : Cat} {i s : Int} (h : (Share c i s).2.2 = 0) : tabled c i = 0 := by
  unfold Share at h
  split at h
  · rename_i h1; exact absurd h h1
  · rename_i h1; exact Decidable.not_not.1 h1
theorem share_err {c : Cat} {i s s' : Int} (h1 : 1 ≤ s ∧ s ≤ 4) (h2 : 1 ≤ s' ∧ s' ≤ 4) : (Share c i s).2.2 = (Share c i s').2.2 := by
  unfold Share
  rw [if_neg (show ¬ ¬ (1 ≤ s ∧ s ≤ 4) by omega), if_neg (show ¬ ¬ (1 ≤ s' ∧ s' ≤ 4) by omega)]
  split <;> rfl
theorem finer {c : Cat} {i s s2 : Int} (hs : 1 ≤ s ∧ s ≤ 2) (h2 : s2 = 2 * s) (h : (Share c i s).2.2 = 0) {p : Int} (hp : p = (((c.tables.getD i.toNat default).us.length : Int) * ((c.tables.getD i.toNat default).vs.length : Int)) * s2 * s2) :
    ((0 ≤ (c.tables.getD i.toNat default).us.length * (c.tables.getD i.toNat default).vs.length ∧ ((c.tables.getD i.toNat default).us.length : Int) * ((c.tables.getD i.toNat default).vs.length : Int) ≤ 144) ∧ (0 ≤ p ∧ p ≤ 2304) ∧ (0 ≤ (2 * (p + 999)).tdiv 1000 ∧ (2 * (p + 999)).tdiv 1000 ≤ 10000)) ∧ ((0 ≤ (Share c i s).1 ∧ (Share c i s).2.1 ≤ 10000000000) ∧ (0 ≤ (Share c i s2).1 ∧ (Share c i s2).2.1 ≤ 10000000000)) ∧ (Share c i s).1 ≤ (Share c i s).2.1 ∧ (Share c i s2).1 ≤ (Share c i s2).2.1 ∧
    (Share c i s).1 - (2 + (2 * (p + 999)).tdiv 1000) ≤ (Share c i s2).1 ∧ (Share c i s2).2.1 ≤ (Share c i s).2.1 + (2 + (2 * (p + 999)).tdiv 1000) := by
  subst h2
  have hT := share_ok h
  obtain ⟨t1, t2, t3⟩ := tabled_ok hT
  have g := (check_ok t1).2.2.1 i.toNat (by omega)
  have e1 := share_eq hT (s := s) (by omega)
  have e2 := share_eq hT (s := 2 * s) (by omega)
  have f := finer_sum g (s := s) (by omega)
  have i1 := share_in g (s := s) (by omega)
  have i2 := share_in g (s := 2 * s) (by omega)
  have l1 := share_le g (s := s) (by omega)
  have l2 := share_le g (s := 2 * s) (by omega)
  have gu := g.ul
  have gv := g.vl
  have m := mulN 12 12 (a := ((c.tables.getD i.toNat default).us.length : Int)) (b := ((c.tables.getD i.toNat default).vs.length : Int)) (by omega) (by omega)
  have m1 := mulN 144 4 (b := 2 * s) m (by omega)
  have m2 := mulN 576 4 (b := 2 * s) m1 (by omega)
  have ep : p = ((c.tables.getD i.toNat default).us.length : Int) * (((c.tables.getD i.toNat default).vs.length : Int) * (4 * (s * s))) := by rw [hp]; grind
  rw [← ep] at f
  rw [e1.2.1, e1.2.2, e2.2.1, e2.2.2]
  have hp0 : 0 ≤ p ∧ p ≤ 2304 := by omega
  have d : ∀ x y : Int, x ≤ y → x / 1000 ≤ up y 1000 := fun x y hxy => dn_up (by decide) hxy
  rw [Int.tdiv_eq_ediv_of_nonneg (by omega)]
  refine ⟨⟨⟨Nat.zero_le _, m.2⟩, hp0, by omega⟩, by unfold up; omega, d _ _ l1, d _ _ l2, ?_, ?_⟩
  · omega
  · unfold up; omega
end Go.Proofs.Ytjhecgiipajdpaa
