import Derived.OpenShut
import Derived.ChangeOld
import Derived.DataReads
import Derived.WideShapes
import Derived.Laws.StructEq
import Derived.MapKept
import Derived.Test.YtjhecgiipajdpaaZLampBrighter1
set_option linter.unusedVariables false
set_option linter.unusedSimpArgs false
section

namespace Go.Proofs.Ytjhecgiipajdpaa
def rt (n : Int) : Nat → Int → Int
  | 0, r => r
  | k + 1, r => rt n k (if (r + 2 ^ k) * (r + 2 ^ k) ≤ n then r + 2 ^ k else r)
theorem sq_lt {a b : Int} (h : a * a < b * b) (hb : 0 ≤ b) : a < b := by
  rcases Int.lt_or_le a b with h1 | h1
  · exact h1
  · have := Int.mul_le_mul h1 h1 hb (by omega); omega
theorem sq_le {a b : Int} (ha : 0 ≤ a) (h : a ≤ b) : a * a ≤ b * b := Int.mul_le_mul h h ha (by omega)
theorem rt_spec {n : Int} : ∀ (k : Nat) (r : Int), 0 ≤ r → r * r ≤ n → n < (r + 2 ^ k) * (r + 2 ^ k) → 0 ≤ rt n k r ∧ rt n k r * rt n k r ≤ n ∧ n < (rt n k r + 1) * (rt n k r + 1)
  | 0, r, h0, h1, h2 => ⟨h0, h1, by show n < (r + 1) * (r + 1); simpa using h2⟩
  | k + 1, r, h0, h1, h2 => by
    have e : (2 : Int) ^ (k + 1) = 2 ^ k + 2 ^ k := by rw [Int.pow_succ]; omega
    have p : (0 : Int) < 2 ^ k := Int.pow_pos (by decide)
    unfold rt
    split
    · rename_i h
      refine rt_spec k _ (by omega) h ?_
      rw [e] at h2
      rw [Int.add_assoc]; exact h2
    · rename_i h
      exact rt_spec k r h0 h1 (by omega)
abbrev root17 (n : Int) : Int := rt n 17 0
theorem root17_spec {n : Int} (h0 : 0 ≤ n) (h1 : n < 17179869184) : 0 ≤ root17 n ∧ root17 n * root17 n ≤ n ∧ n < (root17 n + 1) * (root17 n + 1) :=
  rt_spec 17 0 (Int.le_refl _) (by simpa using h0) (by simpa using h1)
theorem root17_mono {m n : Int} (h0 : 0 ≤ m) (h : m ≤ n) (h1 : n < 17179869184) : root17 m ≤ root17 n := by
  have a := root17_spec h0 (by omega)
  have b := root17_spec (n := n) (by omega) h1
  have := sq_lt (a := root17 m) (b := root17 n + 1) (by omega) (by omega)
  omega
def rootUp (n : Int) : Int := if root17 n * root17 n < n then root17 n + 1 else root17 n
theorem root_le_up {m n : Int} (h0 : 0 ≤ m) (h : m ≤ n) (h1 : n < 17179869184) : root17 m ≤ rootUp n := by
  have c := root17_mono h0 h h1
  unfold rootUp
  split <;> omega
theorem root_big {n : Int} (h : 1000000 ≤ n) (h1 : n < 17179869184) : 1000 ≤ root17 n := by
  have b := root17_spec (n := n) (by omega) h1
  have := sq_lt (a := 1000) (b := root17 n + 1) (by omega) (by omega)
  omega
theorem root_small {n : Int} (h0 : 0 ≤ n) (h : n ≤ 60000000) : root17 n ≤ 7746 := by
  have b := root17_spec (n := n) (by omega) (by omega)
  have := sq_lt (a := root17 n) (b := 7747) (by omega) (by omega)
  omega
def sqLo (a b : Int) : Int := if a ≤ 0 ∧ 0 ≤ b then 0 else min (a * a) (b * b)
def sqHi (a b : Int) : Int := max (a * a) (b * b)
theorem neg_sq (a : Int) : -a * -a = a * a := by rw [Int.neg_mul_neg]
theorem sqLo_at {a b : Int} (h : a ≤ b) : ∃ x, a ≤ x ∧ x ≤ b ∧ sqLo a b = x * x := by
  unfold sqLo
  split
  · exact ⟨0, by omega, by omega, rfl⟩
  · rcases Int.le_total (a * a) (b * b) with h3 | h3
    · exact ⟨a, by omega, h, by omega⟩
    · exact ⟨b, h, by omega, by omega⟩
theorem le_sqHi {a b x : Int} (h1 : a ≤ x) (h2 : x ≤ b) : x * x ≤ sqHi a b := by
  unfold sqHi
  rcases Int.le_total 0 x with h | h
  · have := sq_le h h2; omega
  · have := sq_le (a := -x) (b := -a) (by omega) (by omega)
    rw [neg_sq, neg_sq] at this
    omega
theorem sqHi_at {a b : Int} (h : a ≤ b) : ∃ x, a ≤ x ∧ x ≤ b ∧ sqHi a b = x * x := by
  unfold sqHi
  rcases Int.le_total (a * a) (b * b) with h3 | h3
  · exact ⟨b, h, by omega, by omega⟩
  · exact ⟨a, by omega, h, by omega⟩
theorem sqLo_hi {a b : Int} (h : a ≤ b) : 0 ≤ sqLo a b ∧ sqLo a b ≤ sqHi a b := by
  obtain ⟨x, k1, k2, k3⟩ := sqLo_at h
  refine ⟨?_, by rw [k3]; exact le_sqHi k1 k2⟩
  rw [k3]
  rcases Int.le_total 0 x with h | h
  · exact Int.mul_nonneg h h
  · rw [← neg_sq]; exact Int.mul_nonneg (by omega) (by omega)
theorem sqHi_in {a b : Int} (h1 : -5000 ≤ a) (h2 : a ≤ b) (h3 : b ≤ 5000) : sqHi a b ≤ 25000000 := by
  obtain ⟨x, k1, k2, k3⟩ := sqHi_at h2
  rw [k3]
  rcases Int.le_total 0 x with h | h
  · have := sq_le h (show x ≤ 5000 by omega); omega
  · have := sq_le (a := -x) (b := 5000) (by omega) (by omega)
    rw [neg_sq] at this; omega
def cub (n : Int) : Int := n * n * n
theorem cub_mono {a b : Int} (ha : 0 ≤ a) (h : a ≤ b) : cub a ≤ cub b := by
  unfold cub
  exact Int.mul_le_mul (sq_le ha h) h ha (Int.mul_nonneg (by omega) (by omega))
theorem cub_big {a : Int} (h : 1000 ≤ a) : 1000000000 ≤ cub a := cub_mono (a := 1000) (by decide) h
def nearSq (u0 u1 v0 v1 : Int) : Int := sqLo u0 u1 + sqLo v0 v1 + 1000000
def farSq (u0 u1 v0 v1 : Int) : Int := sqHi u0 u1 + sqHi v0 v1 + 1000000
def area (u0 u1 v0 v1 : Int) : Int := (u1 - u0) * (v1 - v0) * 1000
def pieceLo (x u0 u1 v0 v1 : Int) : Int := x * area u0 u1 v0 v1 / cub (rootUp (farSq u0 u1 v0 v1))
def pieceHi (y u0 u1 v0 v1 : Int) : Int := up (y * area u0 u1 v0 v1) (cub (root17 (nearSq u0 u1 v0 v1)))
def Rg (u0 u1 : Int) : Prop := -5000 ≤ u0 ∧ u0 ≤ u1 ∧ u1 ≤ 5000
theorem near_in {u0 u1 v0 v1 : Int} (hu : Rg u0 u1) (hv : Rg v0 v1) : 1000000 ≤ nearSq u0 u1 v0 v1 ∧ nearSq u0 u1 v0 v1 ≤ farSq u0 u1 v0 v1 ∧ farSq u0 u1 v0 v1 ≤ 51000000 := by
  have a := sqLo_hi hu.2.1
  have b := sqLo_hi hv.2.1
  have c := sqHi_in hu.1 hu.2.1 hu.2.2
  have d := sqHi_in hv.1 hv.2.1 hv.2.2
  unfold nearSq farSq
  omega
theorem area_in {u0 u1 v0 v1 : Int} (hu : Rg u0 u1) (hv : Rg v0 v1) : 0 ≤ area u0 u1 v0 v1 ∧ area u0 u1 v0 v1 ≤ 100000000000 := by
  unfold area Rg at *
  have := mulN 10000 10000 (a := u1 - u0) (b := v1 - v0) (by omega) (by omega)
  omega
theorem roots_in {u0 u1 v0 v1 : Int} (hu : Rg u0 u1) (hv : Rg v0 v1) : 1000 ≤ root17 (nearSq u0 u1 v0 v1) ∧ root17 (nearSq u0 u1 v0 v1) ≤ rootUp (farSq u0 u1 v0 v1) ∧ rootUp (farSq u0 u1 v0 v1) ≤ 7747 := by
  obtain ⟨h1, h2, h3⟩ := near_in hu hv
  have a := root_big h1 (by omega)
  have b := root_le_up (m := nearSq u0 u1 v0 v1) (by omega) h2 (by omega)
  have c := root_small (n := farSq u0 u1 v0 v1) (by omega) (by omega)
  refine ⟨a, b, ?_⟩
  unfold rootUp
  split <;> omega
theorem up_mono_num {x y d : Int} (hd : 0 < d) (h : x ≤ y) : up x d ≤ up y d := by
  unfold up
  have := Int.ediv_le_ediv hd (show -y ≤ -x by omega)
  omega
theorem piece_in {x u0 u1 v0 v1 : Int} (hx : 0 ≤ x ∧ x ≤ 10000000) (hu : Rg u0 u1) (hv : Rg v0 v1) :
    (0 ≤ x * area u0 u1 v0 v1 ∧ x * area u0 u1 v0 v1 ≤ 1000000000000000000) ∧ (0 ≤ pieceLo x u0 u1 v0 v1 ∧ pieceLo x u0 u1 v0 v1 ≤ 1000000000) ∧ (0 ≤ pieceHi x u0 u1 v0 v1 ∧ pieceHi x u0 u1 v0 v1 ≤ 1000000000) := by
  have a := area_in hu hv
  have m := mulN 10000000 100000000000 (a := x) (b := area u0 u1 v0 v1) hx a
  obtain ⟨r1, r2, r3⟩ := roots_in hu hv
  have c1 := cub_big r1
  have c2 := cub_big (show 1000 ≤ rootUp (farSq u0 u1 v0 v1) by omega)
  refine ⟨by omega, ?_, ?_⟩
  · unfold pieceLo
    refine div_in0 (by omega) ⟨m.1, ?_⟩
    have := Int.mul_le_mul_of_nonneg_left c2 (show (0 : Int) ≤ 1000000000 by decide)
    omega
  · unfold pieceHi
    refine up_in0 (by omega) ⟨m.1, ?_⟩
    have := Int.mul_le_mul_of_nonneg_left c1 (show (0 : Int) ≤ 1000000000 by decide)
    omega
theorem pieceLo_mono {x y u0 u1 v0 v1 : Int} (hxy : x ≤ y) (hu : Rg u0 u1) (hv : Rg v0 v1) : pieceLo x u0 u1 v0 v1 ≤ pieceLo y u0 u1 v0 v1 := by
  have a := area_in hu hv
  obtain ⟨r1, r2, r3⟩ := roots_in hu hv
  have c2 := cub_big (show 1000 ≤ rootUp (farSq u0 u1 v0 v1) by omega)
  unfold pieceLo
  exact Int.ediv_le_ediv (by omega) (Int.mul_le_mul_of_nonneg_right hxy a.1)
theorem pieceHi_mono {x y u0 u1 v0 v1 : Int} (hxy : x ≤ y) (hu : Rg u0 u1) (hv : Rg v0 v1) : pieceHi x u0 u1 v0 v1 ≤ pieceHi y u0 u1 v0 v1 := by
  have a := area_in hu hv
  obtain ⟨r1, r2, r3⟩ := roots_in hu hv
  have c2 := cub_big r1
  unfold pieceHi
  exact up_mono_num (by omega) (Int.mul_le_mul_of_nonneg_right hxy a.1)
def sumN (f : Nat → Int) : Nat → Int
  | 0 => 0
  | n + 1 => sumN f n + f n
theorem sumN_succ (f : Nat → Int) (n : Nat) : sumN f (n + 1) = sumN f n + f n := rfl
theorem sumN_le {f g : Nat → Int} : ∀ {n : Nat}, (∀ j, j < n → f j ≤ g j) → sumN f n ≤ sumN g n
  | 0, _ => Int.le_refl _
  | n + 1, h => by
    have := sumN_le (n := n) fun j hj => h j (by omega)
    have := h n (by omega)
    unfold sumN; omega
end Go.Proofs.Ytjhecgiipajdpaa
end
section

namespace Go.Proofs.Ytjhecgiipajdpaa
def Cov (t : Table) (us vs : List Int) (o : Int × Int) (S : Int → Int → Prop) : Prop :=
  (∃ u v, S u v ∧ o.1 = atLo t us vs u v) ∧ (∃ u v, S u v ∧ o.2 = atHi t us vs u v) ∧ ∀ u v, S u v → o.1 ≤ atLo t us vs u v ∧ atHi t us vs u v ≤ o.2
theorem Cov.unique {t : Table} {us vs : List Int} {o o' : Int × Int} {S S' : Int → Int → Prop} (h : Cov t us vs o S) (k : Cov t us vs o' S') (e : ∀ u v, S u v ↔ S' u v) : o = o' := by
  obtain ⟨⟨u1, v1, a1, a2⟩, ⟨u2, v2, a3, a4⟩, a5⟩ := h
  obtain ⟨⟨u3, v3, b1, b2⟩, ⟨u4, v4, b3, b4⟩, b5⟩ := k
  have c1 := a5 u3 v3 ((e _ _).2 b1)
  have c2 := a5 u4 v4 ((e _ _).2 b3)
  have c3 := b5 u1 v1 ((e _ _).1 a1)
  have c4 := b5 u2 v2 ((e _ _).1 a3)
  apply Prod.ext
  · omega
  · omega
theorem Cov.same {t : Table} {us vs : List Int} {o : Int × Int} {S S' : Int → Int → Prop} (h : Cov t us vs o S) (e : ∀ u v, S u v ↔ S' u v) : Cov t us vs o S' := by
  obtain ⟨⟨u1, v1, a1, a2⟩, ⟨u2, v2, a3, a4⟩, a5⟩ := h
  exact ⟨⟨u1, v1, (e _ _).1 a1, a2⟩, ⟨u2, v2, (e _ _).1 a3, a4⟩, fun u v h => a5 u v ((e _ _).2 h)⟩
theorem Cov.one (t : Table) (us vs : List Int) (u v : Int) : Cov t us vs (atLo t us vs u v, atHi t us vs u v) (fun a b => a = u ∧ b = v) :=
  ⟨⟨u, v, ⟨rfl, rfl⟩, rfl⟩, ⟨u, v, ⟨rfl, rfl⟩, rfl⟩, fun a b ⟨h1, h2⟩ => by subst h1; subst h2; exact ⟨Int.le_refl _, Int.le_refl _⟩⟩
theorem Cov.add {t : Table} {us vs : List Int} {o : Int × Int} {S : Int → Int → Prop} (h : Cov t us vs o S) (u v : Int) : Cov t us vs (min o.1 (atLo t us vs u v), max o.2 (atHi t us vs u v)) (fun a b => S a b ∨ (a = u ∧ b = v)) := by
  obtain ⟨⟨u1, v1, a1, a2⟩, ⟨u2, v2, a3, a4⟩, a5⟩ := h
  refine ⟨?_, ?_, fun a b hab => ?_⟩
  · rcases Decidable.em (o.1 ≤ atLo t us vs u v) with hl | hl
    · exact ⟨u1, v1, .inl a1, by show min _ _ = _; omega⟩
    · exact ⟨u, v, .inr ⟨rfl, rfl⟩, by show min _ _ = _; omega⟩
  · rcases Decidable.em (atHi t us vs u v ≤ o.2) with hl | hl
    · exact ⟨u2, v2, .inl a3, by show max _ _ = _; omega⟩
    · exact ⟨u, v, .inr ⟨rfl, rfl⟩, by show max _ _ = _; omega⟩
  · show min _ _ ≤ _ ∧ _ ≤ max _ _
    rcases hab with hab | ⟨rfl, rfl⟩
    · have := a5 a b hab; omega
    · omega
theorem Cov.inner {t : Table} {us vs : List Int} (u : Int) : ∀ (l : List Int) {o : Int × Int} {S : Int → Int → Prop}, Cov t us vs o S → Cov t us vs (innerE t us vs u o l) (fun a b => S a b ∨ (a = u ∧ b ∈ l ∧ hasB us vs u b = true))
  | [], o, S, h => h.same fun a b => by simp
  | v :: r, o, S, h => by
    unfold innerE
    rw [List.foldl_cons]
    by_cases hb : hasB us vs u v = true
    · have h1 : stepE t us vs u o v = (min o.1 (atLo t us vs u v), max o.2 (atHi t us vs u v)) := by unfold stepE; rw [if_pos hb]
      rw [h1]
      refine (Cov.inner u r (h.add u v)).same fun a b => ?_
      constructor
      · rintro ((h | ⟨rfl, rfl⟩) | ⟨rfl, h2, h3⟩)
        · exact .inl h
        · exact .inr ⟨rfl, List.mem_cons_self, hb⟩
        · exact .inr ⟨rfl, List.mem_cons_of_mem _ h2, h3⟩
      · rintro (h | ⟨rfl, h2, h3⟩)
        · exact .inl (.inl h)
        · rcases List.mem_cons.1 h2 with rfl | h2
          · exact .inl (.inr ⟨rfl, rfl⟩)
          · exact .inr ⟨rfl, h2, h3⟩
    · have h1 : stepE t us vs u o v = o := by unfold stepE; rw [if_neg hb]
      rw [h1]
      refine (Cov.inner u r h).same fun a b => ?_
      constructor
      · rintro (h | ⟨rfl, h2, h3⟩)
        · exact .inl h
        · exact .inr ⟨rfl, List.mem_cons_of_mem _ h2, h3⟩
      · rintro (h | ⟨rfl, h2, h3⟩)
        · exact .inl h
        · rcases List.mem_cons.1 h2 with rfl | h2
          · exact absurd h3 hb
          · exact .inr ⟨rfl, h2, h3⟩
theorem Cov.outer {t : Table} {us vs : List Int} (ys : List Int) : ∀ (l : List Int) {o : Int × Int} {S : Int → Int → Prop}, Cov t us vs o S → Cov t us vs (l.foldl (fun o u => innerE t us vs u o ys) o) (fun a b => S a b ∨ (a ∈ l ∧ b ∈ ys ∧ hasB us vs a b = true))
  | [], o, S, h => h.same fun a b => by simp
  | u :: r, o, S, h => by
    rw [List.foldl_cons]
    refine (Cov.outer ys r (h.inner u ys)).same fun a b => ?_
    constructor
    · rintro ((h | ⟨rfl, h2, h3⟩) | ⟨h1, h2, h3⟩)
      · exact .inl h
      · exact .inr ⟨List.mem_cons_self, h2, h3⟩
      · exact .inr ⟨List.mem_cons_of_mem _ h1, h2, h3⟩
    · rintro (h | ⟨h1, h2, h3⟩)
      · exact .inl (.inl h)
      · rcases List.mem_cons.1 h1 with rfl | h1
        · exact .inl (.inr ⟨rfl, h2, h3⟩)
        · exact .inr ⟨h1, h2, h3⟩
def Pts (us vs : List Int) (x0 x1 y0 y1 u v : Int) : Prop := ((u = x0 ∨ u = x1) ∧ (v = y0 ∨ v = y1)) ∨ (u ∈ cross us x0 x1 ∧ v ∈ cross vs y0 y1 ∧ hasB us vs u v = true)
theorem Cov.over (t : Table) (us vs : List Int) (x0 x1 y0 y1 : Int) : Cov t us vs (over t us vs x0 x1 y0 y1) (Pts us vs x0 x1 y0 y1) := by
  have h0 : Cov t us vs (cornerE t us vs x0 x1 y0 y1) (fun u v => (u = x0 ∨ u = x1) ∧ (v = y0 ∨ v = y1)) := by
    have := (((Cov.one t us vs x0 y0).add x0 y1).add x1 y0).add x1 y1
    refine Cov.same (S := fun a b => (((a = x0 ∧ b = y0) ∨ (a = x0 ∧ b = y1)) ∨ (a = x1 ∧ b = y0)) ∨ (a = x1 ∧ b = y1)) this fun u v => ?_
    constructor
    · rintro (((⟨h, k⟩ | ⟨h, k⟩) | ⟨h, k⟩) | ⟨h, k⟩)
      · exact ⟨.inl h, .inl k⟩
      · exact ⟨.inl h, .inr k⟩
      · exact ⟨.inr h, .inl k⟩
      · exact ⟨.inr h, .inr k⟩
    · rintro ⟨h | h, k | k⟩
      · exact .inl (.inl (.inl ⟨h, k⟩))
      · exact .inl (.inl (.inr ⟨h, k⟩))
      · exact .inl (.inr ⟨h, k⟩)
      · exact .inr ⟨h, k⟩
  have h1 := Cov.outer (cross vs y0 y1) (cross us x0 x1) h0
  unfold Go.Proofs.Ytjhecgiipajdpaa.over ov
  rw [List.take_length]
  exact h1
end Go.Proofs.Ytjhecgiipajdpaa
end
section

namespace Go.Proofs.Ytjhecgiipajdpaa
def adm (us vs C D : List Int) (a c : Nat) : Prop := hasB us vs (C.getD a 0) (D.getD c 0) = true ∨ (a ≤ 1 ∧ c ≤ 1)
def Done (us vs C D : List Int) (i : Nat) (u v : Int) : Prop := ∃ a c : Nat, a < i ∧ c < D.length ∧ adm us vs C D a c ∧ u = C.getD a 0 ∧ v = D.getD c 0
def Done2 (us vs C D : List Int) (i j : Nat) (u v : Int) : Prop := Done us vs C D i u v ∨ ∃ c : Nat, c < j ∧ adm us vs C D i c ∧ u = C.getD i 0 ∧ v = D.getD c 0
theorem mem_cross2 {l : List Int} {a b x : Int} (hab : a ≤ b) : x ∈ cross2 l a b ↔ x ∈ cross l a b := by
  unfold cross2 cross
  simp only [List.mem_append, List.mem_cons, List.not_mem_nil, or_false, List.mem_filter, Bool.and_eq_true, decide_eq_true_eq]
  constructor
  · rintro (h | ⟨h, h1, h2⟩)
    · exact .inl h
    · rcases Decidable.em (x = a) with e | e
      · exact .inl (.inl e)
      · rcases Decidable.em (x = b) with e2 | e2
        · exact .inl (.inr e2)
        · exact .inr ⟨h, by omega, by omega⟩
  · rintro (h | ⟨h, h1, h2⟩)
    · exact .inl h
    · exact .inr ⟨h, by omega, by omega⟩
theorem getD_of_mem {l : List Int} {x : Int} (h : x ∈ l) : ∃ j : Nat, j < l.length ∧ l.getD j 0 = x := by
  obtain ⟨j, hj⟩ := List.getElem?_of_mem h
  exact ⟨j, (List.getElem?_eq_some_iff.1 hj).1, by rw [List.getD_eq_getElem?_getD, hj]; rfl⟩
theorem done_all {us vs : List Int} {x0 x1 y0 y1 u v : Int} (hx : x0 ≤ x1) (hy : y0 ≤ y1) :
    Done us vs (cross2 us x0 x1) (cross2 vs y0 y1) (cross2 us x0 x1).length u v ↔ Pts us vs x0 x1 y0 y1 u v := by
  constructor
  · rintro ⟨a, c, ha, hc, h | ⟨h1, h2⟩, rfl, rfl⟩
    · exact .inr ⟨(mem_cross2 hx).1 (getD_mem ha), (mem_cross2 hy).1 (getD_mem hc), h⟩
    · left
      have e : ∀ (l : List Int) (p q : Int) (j : Nat), j ≤ 1 → (cross2 l p q).getD j 0 = p ∨ (cross2 l p q).getD j 0 = q := by
        intro l p q j hj
        match j, hj with
        | 0, _ => left; rfl
        | 1, _ => right; rfl
      exact ⟨e us x0 x1 a h1, e vs y0 y1 c h2⟩
  · rintro (⟨h1, h2⟩ | ⟨h1, h2, h3⟩)
    · have e : ∀ (l : List Int) (p q x : Int), x = p ∨ x = q → ∃ j : Nat, j < (cross2 l p q).length ∧ j ≤ 1 ∧ (cross2 l p q).getD j 0 = x := by
        intro l p q x h
        have hlen : 2 ≤ (cross2 l p q).length := by unfold cross2; simp
        rcases h with rfl | rfl
        · exact ⟨0, by omega, by omega, rfl⟩
        · exact ⟨1, by omega, by omega, rfl⟩
      obtain ⟨a, a1, a2, a3⟩ := e us x0 x1 u h1
      obtain ⟨c, c1, c2, c3⟩ := e vs y0 y1 v h2
      exact ⟨a, c, a1, c1, .inr ⟨a2, c2⟩, a3.symm, c3.symm⟩
    · obtain ⟨a, a1, a2⟩ := getD_of_mem ((mem_cross2 hx).2 h1)
      obtain ⟨c, c1, c2⟩ := getD_of_mem ((mem_cross2 hy).2 h2)
      exact ⟨a, c, a1, c1, .inl (by rw [a2, c2]; exact h3), a2.symm, c2.symm⟩
def Far (t : Table) (us vs C D : List Int) (i j : Nat) (f : Bool) (lo hi : Int) : Prop := (f = true ∧ i = 0 ∧ j = 0) ∨ (f = false ∧ Cov t us vs (lo, hi) (Done2 us vs C D i j))
section
variable {t : Table} {us vs C D : List Int} {i j : Nat} {f : Bool} {lo hi : Int}
theorem Far.skip (h : Far t us vs C D i j f lo hi) (hn : ¬ adm us vs C D i j) : Far t us vs C D i (j + 1) f lo hi := by
  rcases h with ⟨_, h1, h2⟩ | ⟨h1, h2⟩
  · exact absurd (.inr ⟨by omega, by omega⟩) hn
  · refine .inr ⟨h1, h2.same fun u v => ?_⟩
    constructor
    · rintro (h | ⟨c, h3, h4⟩)
      · exact .inl h
      · exact .inr ⟨c, by omega, h4⟩
    · rintro (h | ⟨c, h3, h4, h5⟩)
      · exact .inl h
      · rcases Decidable.em (c = j) with e | e
        · subst e; exact absurd h4 hn
        · exact .inr ⟨c, by omega, h4, h5⟩
theorem Far.first (h : Far t us vs C D i j true lo hi) (ha : adm us vs C D i j) : Far t us vs C D i (j + 1) false (min (atLo t us vs (C.getD i 0) (D.getD j 0)) (atLo t us vs (C.getD i 0) (D.getD j 0))) (max (atHi t us vs (C.getD i 0) (D.getD j 0)) (atHi t us vs (C.getD i 0) (D.getD j 0))) := by
  rcases h with ⟨_, h1, h2⟩ | ⟨h1, h2⟩
  · refine .inr ⟨rfl, ?_⟩
    rw [Int.min_self, Int.max_self]
    refine (Cov.one t us vs _ _).same fun u v => ?_
    constructor
    · rintro ⟨rfl, rfl⟩; exact .inr ⟨j, by omega, ha, rfl, rfl⟩
    · rintro (⟨a, c, h3, _⟩ | ⟨c, h3, h4, h5, h6⟩)
      · omega
      · have : c = j := by omega
        subst this; exact ⟨h5, h6⟩
  · cases h1
theorem Far.next (h : Far t us vs C D i j false lo hi) (ha : adm us vs C D i j) : Far t us vs C D i (j + 1) false (min lo (atLo t us vs (C.getD i 0) (D.getD j 0))) (max hi (atHi t us vs (C.getD i 0) (D.getD j 0))) := by
  rcases h with ⟨h1, _⟩ | ⟨h1, h2⟩
  · cases h1
  · refine .inr ⟨rfl, (h2.add (C.getD i 0) (D.getD j 0)).same fun u v => ?_⟩
    constructor
    · rintro ((h | ⟨c, h3, h4⟩) | ⟨rfl, rfl⟩)
      · exact .inl h
      · exact .inr ⟨c, by omega, h4⟩
      · exact .inr ⟨j, by omega, ha, rfl, rfl⟩
    · rintro (h | ⟨c, h3, h4, h5, h6⟩)
      · exact .inl (.inl h)
      · rcases Decidable.em (c = j) with e | e
        · subst e; exact .inr ⟨h5, h6⟩
        · exact .inl (.inr ⟨c, by omega, h4, h5, h6⟩)
theorem Far.row (h : Far t us vs C D i D.length f lo hi) (hD : 2 ≤ D.length) : Far t us vs C D (i + 1) 0 f lo hi := by
  rcases h with ⟨_, h1, h2⟩ | ⟨h1, h2⟩
  · omega
  · refine .inr ⟨h1, h2.same fun u v => ?_⟩
    constructor
    · rintro (⟨a, c, h3, h4⟩ | ⟨c, h3, h4, h5, h6⟩)
      · exact .inl ⟨a, c, by omega, h4⟩
      · exact .inl ⟨i, c, by omega, h3, h4, h5, h6⟩
    · rintro (⟨a, c, h3, h4, h5, h6, h7⟩ | ⟨c, h3, _⟩)
      · rcases Decidable.em (a = i) with e | e
        · subst e; exact .inr ⟨c, h4, h5, h6, h7⟩
        · exact .inl ⟨a, c, by omega, h4, h5, h6, h7⟩
      · omega
end
theorem Far.over {t : Table} {us vs : List Int} {x0 x1 y0 y1 : Int} {f : Bool} {lo hi : Int} (hx : x0 ≤ x1) (hy : y0 ≤ y1) (h : Far t us vs (cross2 us x0 x1) (cross2 vs y0 y1) (cross2 us x0 x1).length 0 f lo hi) : (lo, hi) = over t us vs x0 x1 y0 y1 := by
  rcases h with ⟨_, h1, _⟩ | ⟨h1, h2⟩
  · have hlen : 2 ≤ (cross2 us x0 x1).length := by unfold cross2; simp
    omega
  · refine h2.unique (Cov.over t us vs x0 x1 y0 y1) fun u v => ?_
    rw [← done_all hx hy]
    constructor
    · rintro (h | ⟨c, h3, _⟩)
      · exact h
      · omega
    · exact .inl
end Go.Proofs.Ytjhecgiipajdpaa
end
section

namespace Go.Proofs.Ytjhecgiipajdpaa
theorem ip_left (x y a b : Int) : ip x y a b a = x * (b - a) := by unfold ip; grind
theorem ip_right (x y a b : Int) : ip x y a b b = y * (b - a) := by unfold ip; grind
theorem ip_scale (x y a b n c : Int) : ip (x * c) (y * c) a b n = ip x y a b n * c := by unfold ip; grind
theorem ip_neg (x y a b n : Int) : ip (-x) (-y) a b n = -ip x y a b n := by unfold ip; grind
theorem ip_lin (x y a b n m : Int) : ip x y a b n = ip x y a b m + (y - x) * (n - m) := by unfold ip; grind
theorem ip_swap (p q r s x y a b u v : Int) : ip (ip p q x y v) (ip r s x y v) a b u = ip (ip p r a b u) (ip q s a b u) x y v := by unfold ip; grind
theorem ip_mono {x y x' y' a b n : Int} (hx : x ≤ x') (hy : y ≤ y') (h1 : a ≤ n) (h2 : n ≤ b) : ip x y a b n ≤ ip x' y' a b n := by
  unfold ip
  have p1 : x * (b - n) ≤ x' * (b - n) := Int.mul_le_mul_of_nonneg_right hx (by omega)
  have p2 : y * (n - a) ≤ y' * (n - a) := Int.mul_le_mul_of_nonneg_right hy (by omega)
  omega
theorem dn_le (x : Int) {d : Int} (hd : 0 < d) : x / d * d ≤ x := Int.ediv_mul_le x (by omega)
theorem dn_lt (x : Int) {d : Int} (hd : 0 < d) : x < (x / d + 1) * d := Int.lt_ediv_add_one_mul_self x hd
theorem dn2 {S0 S1 a b u d : Int} (hd : 0 < d) (hab : a < b) (h1 : a ≤ u) (h2 : u ≤ b) :
    ip (S0 / d) (S1 / d) a b u / (b - a) * ((b - a) * d) ≤ ip S0 S1 a b u ∧ ip S0 S1 a b u < (ip (S0 / d) (S1 / d) a b u / (b - a) + 2) * ((b - a) * d) := by
  have hw : 0 < b - a := by omega
  have e1 := dn_le S0 hd
  have e2 := dn_le S1 hd
  have e3 := dn_lt S0 hd
  have e4 := dn_lt S1 hd
  generalize hq0 : S0 / d = q0 at *
  generalize hq1 : S1 / d = q1 at *
  have f1 := dn_le (ip q0 q1 a b u) hw
  have f2 := dn_lt (ip q0 q1 a b u) hw
  generalize hQ : ip q0 q1 a b u = Q at *
  generalize hL : Q / (b - a) = L at *
  have g1 : ip (q0 * d) (q1 * d) a b u ≤ ip S0 S1 a b u := ip_mono e1 e2 h1 h2
  rw [ip_scale, hQ] at g1
  have g2 : ip S0 S1 a b u ≤ ip ((q0 + 1) * d - 1) ((q1 + 1) * d - 1) a b u := ip_mono (by omega) (by omega) h1 h2
  have g3 : ip ((q0 + 1) * d - 1) ((q1 + 1) * d - 1) a b u = Q * d + (b - a) * d - (b - a) := by rw [← hQ]; unfold ip; grind
  rw [g3] at g2
  have k1 : L * (b - a) * d ≤ Q * d := Int.mul_le_mul_of_nonneg_right f1 (by omega)
  have k2 : Q * d ≤ ((L + 1) * (b - a) - 1) * d := Int.mul_le_mul_of_nonneg_right (by omega) (by omega)
  have k3 : L * ((b - a) * d) = L * (b - a) * d := by rw [Int.mul_assoc]
  have k4 : (L + 2) * ((b - a) * d) = ((L + 1) * (b - a) - 1) * d + (b - a) * d + d := by grind
  exact ⟨by omega, by omega⟩
theorem up2 {S0 S1 a b u d : Int} (hd : 0 < d) (hab : a < b) (h1 : a ≤ u) (h2 : u ≤ b) :
    ip S0 S1 a b u ≤ up (ip (up S0 d) (up S1 d) a b u) (b - a) * ((b - a) * d) ∧ (up (ip (up S0 d) (up S1 d) a b u) (b - a) - 2) * ((b - a) * d) < ip S0 S1 a b u := by
  have h := dn2 (S0 := -S0) (S1 := -S1) hd hab h1 h2
  have e : up (ip (up S0 d) (up S1 d) a b u) (b - a) = -(ip (-S0 / d) (-S1 / d) a b u / (b - a)) := by
    unfold up
    rw [ip_neg, Int.neg_neg]
  rw [e]
  rw [ip_neg] at h
  generalize ip (-S0 / d) (-S1 / d) a b u / (b - a) = L at *
  have k1 : -L * ((b - a) * d) = -(L * ((b - a) * d)) := Int.neg_mul ..
  have k2 : (-L - 2) * ((b - a) * d) = -((L + 2) * ((b - a) * d)) := by grind
  omega
def cellN (vals : List (List Int)) (us vs : List Int) (i k : Nat) (u v : Int) : Int := ip (sideN vals vs i k v) (sideN vals vs (i + 1) k v) (us.getD i 0) (us.getD (i + 1) 0) u
abbrev cellD (us vs : List Int) (i k : Nat) : Int := stepD us i * stepD vs k
def In1 (l : List Int) (i : Nat) (u : Int) : Prop := i + 1 < l.length ∧ l.getD i 0 ≤ u ∧ u ≤ l.getD (i + 1) 0
theorem In1.adj {l : List Int} (hr : rising l = true) {i j : Nat} {u : Int} (h : In1 l i u) (k : In1 l j u) : i = j ∨ (j = i + 1 ∧ u = l.getD j 0) ∨ (i = j + 1 ∧ u = l.getD i 0) := by
  obtain ⟨h1, h2, h3⟩ := h
  obtain ⟨k1, k2, k3⟩ := k
  rcases Nat.lt_trichotomy i j with e | e | e
  · have a := rising_le hr (i := i + 1) (j := j) (by omega) (by omega)
    rcases Nat.lt_or_ge (i + 1) j with e2 | e2
    · have b := rising_lt hr j (i + 1) e2 (by omega)
      omega
    · have e3 : j = i + 1 := by omega
      subst e3
      exact .inr (.inl ⟨rfl, by omega⟩)
  · exact .inl e
  · have a := rising_le hr (i := j + 1) (j := i) (by omega) (by omega)
    rcases Nat.lt_or_ge (j + 1) i with e2 | e2
    · have b := rising_lt hr i (j + 1) e2 (by omega)
      omega
    · have e3 : i = j + 1 := by omega
      subst e3
      exact .inr (.inr ⟨rfl, by omega⟩)
theorem ip_shared {l : List Int} (hr : rising l = true) {f : Nat → Int} {i j : Nat} {u : Int} (h : In1 l i u) (k : In1 l j u) :
    ip (f i) (f (i + 1)) (l.getD i 0) (l.getD (i + 1) 0) u * stepD l j = ip (f j) (f (j + 1)) (l.getD j 0) (l.getD (j + 1) 0) u * stepD l i := by
  rcases h.adj hr k with e | ⟨e, e2⟩ | ⟨e, e2⟩
  · rw [e]
  · subst e; rw [e2, ip_left, ip_right]; unfold stepD; grind
  · subst e; rw [e2, ip_left, ip_right]; unfold stepD; grind
theorem cell_same {vals : List (List Int)} {us vs : List Int} (hu : rising us = true) (hv : rising vs = true) {i k j m : Nat} {u v : Int} (h1 : In1 us i u) (h2 : In1 vs k v) (h3 : In1 us j u) (h4 : In1 vs m v) :
    cellN vals us vs i k u v * cellD us vs j m = cellN vals us vs j m u v * cellD us vs i k := by
  have s : ∀ a, sideN vals vs a k v * stepD vs m = sideN vals vs a m v * stepD vs k := fun a => ip_shared hv (f := fun k => val vals a k) h2 h4
  have e1 : cellN vals us vs i k u v * stepD vs m = cellN vals us vs i m u v * stepD vs k := by
    unfold cellN
    rw [← ip_scale, ← ip_scale, s, s]
  have e2 : cellN vals us vs i m u v * stepD us j = cellN vals us vs j m u v * stepD us i := ip_shared hu (f := fun a => sideN vals vs a m v) h1 h3
  unfold cellD
  calc cellN vals us vs i k u v * (stepD us j * stepD vs m) = cellN vals us vs i k u v * stepD vs m * stepD us j := by grind
    _ = cellN vals us vs i m u v * stepD vs k * stepD us j := by rw [e1]
    _ = cellN vals us vs i m u v * stepD us j * stepD vs k := by grind
    _ = cellN vals us vs j m u v * stepD us i * stepD vs k := by rw [e2]
    _ = _ := by grind
section
variable {t : Table} {us vs : List Int}
theorem In1.step {l : List Int} (hr : rising l = true) {i : Nat} {u : Int} (h : In1 l i u) : 0 < stepD l i := by
  have := rising_get hr h.1
  unfold stepD; omega
theorem In1.has (g : GoodV t us vs) {i k : Nat} {u v : Int} (h1 : In1 us i u) (h2 : In1 vs k v) : hasB us vs u v = true := by
  rw [hasB_iff]
  have a := rising_le g.ui (i := 0) (j := i) (by omega) (by have := h1.1; omega)
  have b := rising_le g.ui (i := i + 1) (j := us.length - 1) (by have := h1.1; omega) (by have := h1.1; omega)
  have c := rising_le g.vi (i := 0) (j := k) (by omega) (by have := h2.1; omega)
  have d := rising_le g.vi (i := k + 1) (j := vs.length - 1) (by have := h2.1; omega) (by have := h2.1; omega)
  have h3 := h1.2
  have h4 := h2.2
  omega
theorem In1.of_has (g : GoodV t us vs) {u v : Int} (h : hasB us vs u v = true) : In1 us (fld us u) u ∧ In1 vs (fld vs v) v := by
  rw [hasB_iff] at h
  exact ⟨fld_spec g.ul.1 h.1.1 h.1.2, fld_spec g.vl.1 h.2.1 h.2.2⟩
theorem at_holds (g : GoodV t us vs) {i k : Nat} {u v : Int} (h1 : In1 us i u) (h2 : In1 vs k v) :
    (atLo t us vs u v * cellD us vs i k ≤ cellN t.values us vs i k u v ∧ cellN t.values us vs i k u v < (atLo t us vs u v + 2) * cellD us vs i k) ∧
    (cellN t.values us vs i k u v ≤ atHi t us vs u v * cellD us vs i k ∧ (atHi t us vs u v - 2) * cellD us vs i k < cellN t.values us vs i k u v) := by
  have hb := In1.has g h1 h2
  obtain ⟨k1, k2⟩ := In1.of_has g hb
  have hs := cell_same (vals := t.values) g.ui g.vi h1 h2 k1 k2
  have p1 := k1.step g.ui
  have p2 := k2.step g.vi
  have q1 := h1.step g.ui
  have q2 := h2.step g.vi
  have P : 0 < cellD us vs (fld us u) (fld vs v) := Int.mul_pos p1 p2
  have Q : 0 < cellD us vs i k := Int.mul_pos q1 q2
  have hu : us.getD (fld us u) 0 < us.getD (fld us u + 1) 0 := rising_get g.ui k1.1
  have L := dn2 (S0 := sideN t.values vs (fld us u) (fld vs v) v) (S1 := sideN t.values vs (fld us u + 1) (fld vs v) v) p2 hu k1.2.1 k1.2.2
  have H := up2 (S0 := sideN t.values vs (fld us u) (fld vs v) v) (S1 := sideN t.values vs (fld us u + 1) (fld vs v) v) p2 hu k1.2.1 k1.2.2
  have eL : atLo t us vs u v = ip (sideN t.values vs (fld us u) (fld vs v) v / stepD vs (fld vs v)) (sideN t.values vs (fld us u + 1) (fld vs v) v / stepD vs (fld vs v)) (us.getD (fld us u) 0) (us.getD (fld us u + 1) 0) u / stepD us (fld us u) := by
    unfold atLo; rw [if_pos hb]; rfl
  have eH : atHi t us vs u v = up (ip (up (sideN t.values vs (fld us u) (fld vs v) v) (stepD vs (fld vs v))) (up (sideN t.values vs (fld us u + 1) (fld vs v) v) (stepD vs (fld vs v))) (us.getD (fld us u) 0) (us.getD (fld us u + 1) 0) u) (stepD us (fld us u)) := by
    unfold atHi; rw [if_pos hb]; rfl
  have L' : atLo t us vs u v * cellD us vs (fld us u) (fld vs v) ≤ cellN t.values us vs (fld us u) (fld vs v) u v ∧ cellN t.values us vs (fld us u) (fld vs v) u v < (atLo t us vs u v + 2) * cellD us vs (fld us u) (fld vs v) := by
    rw [eL]; exact L
  have H' : cellN t.values us vs (fld us u) (fld vs v) u v ≤ atHi t us vs u v * cellD us vs (fld us u) (fld vs v) ∧ (atHi t us vs u v - 2) * cellD us vs (fld us u) (fld vs v) < cellN t.values us vs (fld us u) (fld vs v) u v := by
    rw [eH]; exact H
  clear L H eL eH
  generalize cellN t.values us vs (fld us u) (fld vs v) u v = N' at *
  generalize cellN t.values us vs i k u v = N at *
  generalize cellD us vs (fld us u) (fld vs v) = D' at *
  generalize cellD us vs i k = D at *
  generalize atLo t us vs u v = lo at *
  generalize atHi t us vs u v = hi at *
  have m1 := Int.mul_le_mul_of_nonneg_right L'.1 (Int.le_of_lt Q)
  have m2 := Int.mul_lt_mul_of_pos_right L'.2 Q
  have m3 := Int.mul_le_mul_of_nonneg_right H'.1 (Int.le_of_lt Q)
  have m4 := Int.mul_lt_mul_of_pos_right H'.2 Q
  rw [← hs] at m1 m2 m3 m4
  have c : ∀ x : Int, x * D' * D = x * D * D' := fun x => by rw [Int.mul_assoc, Int.mul_assoc, Int.mul_comm D']
  rw [c] at m1 m2 m3 m4
  exact ⟨⟨Int.le_of_mul_le_mul_right m1 P, Int.lt_of_mul_lt_mul_right m2 (Int.le_of_lt P)⟩, ⟨Int.le_of_mul_le_mul_right m3 P, Int.lt_of_mul_lt_mul_right m4 (Int.le_of_lt P)⟩⟩
theorem cross_fst (l : List Int) (a b : Int) : a ∈ cross l a b := by unfold cross; simp
theorem cross_snd (l : List Int) (a b : Int) : b ∈ cross l a b := by unfold cross; simp
theorem cross_mid {l : List Int} {a b : Int} {i : Nat} (hi : i < l.length) (h1 : a ≤ l.getD i 0) (h2 : l.getD i 0 ≤ b) : l.getD i 0 ∈ cross l a b := by
  rcases Decidable.em (l.getD i 0 = a) with e | e
  · rw [e]; exact cross_fst ..
  rcases Decidable.em (l.getD i 0 = b) with e2 | e2
  · rw [e2]; exact cross_snd ..
  unfold cross
  exact List.mem_append_right _ (List.mem_filter.2 ⟨getD_mem hi, by rw [Bool.and_eq_true, decide_eq_true_eq, decide_eq_true_eq]; omega⟩)
theorem least1 {l : List Int} {i : Nat} {u a b : Int} (h : In1 l i u) (ha : a ≤ u) (hb : u ≤ b) : ∃ m, m ∈ cross l a b ∧ In1 l i m ∧ m ≤ u := by
  rcases Decidable.em (a ≤ l.getD i 0) with e | e
  · exact ⟨l.getD i 0, cross_mid (by have := h.1; omega) e (by have := h.2.1; omega), ⟨h.1, Int.le_refl _, by have := h.2; omega⟩, h.2.1⟩
  · exact ⟨a, cross_fst .., ⟨h.1, by omega, by have := h.2.2; omega⟩, ha⟩
theorem most1 {l : List Int} {i : Nat} {u a b : Int} (h : In1 l i u) (ha : a ≤ u) (hb : u ≤ b) : ∃ m, m ∈ cross l a b ∧ In1 l i m ∧ u ≤ m := by
  rcases Decidable.em (l.getD (i + 1) 0 ≤ b) with e | e
  · exact ⟨l.getD (i + 1) 0, cross_mid h.1 (by have := h.2.2; omega) e, ⟨h.1, by have := h.2; omega, Int.le_refl _⟩, h.2.2⟩
  · exact ⟨b, cross_snd .., ⟨h.1, by have := h.2.1; omega, by omega⟩, hb⟩
theorem less1 {l : List Int} {i : Nat} {u a b : Int} (x y p q : Int) (h : In1 l i u) (ha : a ≤ u) (hb : u ≤ b) : ∃ m, m ∈ cross l a b ∧ In1 l i m ∧ ip x y p q m ≤ ip x y p q u := by
  rcases Decidable.em (x ≤ y) with e | e
  · obtain ⟨m, h1, h2, h3⟩ := least1 h ha hb
    have := Int.mul_nonneg (show 0 ≤ y - x by omega) (show 0 ≤ u - m by omega)
    exact ⟨m, h1, h2, by rw [ip_lin x y p q u m]; omega⟩
  · obtain ⟨m, h1, h2, h3⟩ := most1 h ha hb
    have := Int.mul_nonneg (show 0 ≤ x - y by omega) (show 0 ≤ m - u by omega)
    have e2 : (y - x) * (u - m) = (x - y) * (m - u) := by grind
    exact ⟨m, h1, h2, by rw [ip_lin x y p q u m]; omega⟩
theorem more1 {l : List Int} {i : Nat} {u a b : Int} (x y p q : Int) (h : In1 l i u) (ha : a ≤ u) (hb : u ≤ b) : ∃ m, m ∈ cross l a b ∧ In1 l i m ∧ ip x y p q u ≤ ip x y p q m := by
  obtain ⟨m, h1, h2, h3⟩ := less1 (-x) (-y) p q h ha hb
  rw [ip_neg, ip_neg] at h3
  exact ⟨m, h1, h2, by omega⟩
theorem cellN_swap (vals : List (List Int)) (us vs : List Int) (i k : Nat) (u v : Int) : cellN vals us vs i k u v =
    ip (ip (val vals i k) (val vals (i + 1) k) (us.getD i 0) (us.getD (i + 1) 0) u) (ip (val vals i (k + 1)) (val vals (i + 1) (k + 1)) (us.getD i 0) (us.getD (i + 1) 0) u) (vs.getD k 0) (vs.getD (k + 1) 0) v := ip_swap ..
theorem corner_less (vals : List (List Int)) {i k : Nat} {u v x0 x1 y0 y1 : Int} (h1 : In1 us i u) (h2 : In1 vs k v) (hx : x0 ≤ u ∧ u ≤ x1) (hy : y0 ≤ v ∧ v ≤ y1) :
    ∃ p q, p ∈ cross us x0 x1 ∧ q ∈ cross vs y0 y1 ∧ In1 us i p ∧ In1 vs k q ∧ cellN vals us vs i k p q ≤ cellN vals us vs i k u v := by
  obtain ⟨p, a1, a2, a3⟩ := less1 (sideN vals vs i k v) (sideN vals vs (i + 1) k v) (us.getD i 0) (us.getD (i + 1) 0) h1 hx.1 hx.2
  obtain ⟨q, b1, b2, b3⟩ := less1 (ip (val vals i k) (val vals (i + 1) k) (us.getD i 0) (us.getD (i + 1) 0) p) (ip (val vals i (k + 1)) (val vals (i + 1) (k + 1)) (us.getD i 0) (us.getD (i + 1) 0) p) (vs.getD k 0) (vs.getD (k + 1) 0) h2 hy.1 hy.2
  rw [← cellN_swap, ← cellN_swap] at b3
  exact ⟨p, q, a1, b1, a2, b2, Int.le_trans b3 a3⟩
theorem corner_more (vals : List (List Int)) {i k : Nat} {u v x0 x1 y0 y1 : Int} (h1 : In1 us i u) (h2 : In1 vs k v) (hx : x0 ≤ u ∧ u ≤ x1) (hy : y0 ≤ v ∧ v ≤ y1) :
    ∃ p q, p ∈ cross us x0 x1 ∧ q ∈ cross vs y0 y1 ∧ In1 us i p ∧ In1 vs k q ∧ cellN vals us vs i k u v ≤ cellN vals us vs i k p q := by
  obtain ⟨p, a1, a2, a3⟩ := more1 (sideN vals vs i k v) (sideN vals vs (i + 1) k v) (us.getD i 0) (us.getD (i + 1) 0) h1 hx.1 hx.2
  obtain ⟨q, b1, b2, b3⟩ := more1 (ip (val vals i k) (val vals (i + 1) k) (us.getD i 0) (us.getD (i + 1) 0) p) (ip (val vals i (k + 1)) (val vals (i + 1) (k + 1)) (us.getD i 0) (us.getD (i + 1) 0) p) (vs.getD k 0) (vs.getD (k + 1) 0) h2 hy.1 hy.2
  rw [← cellN_swap, ← cellN_swap] at b3
  exact ⟨p, q, a1, b1, a2, b2, Int.le_trans a3 b3⟩
theorem over_holds (g : GoodV t us vs) {i k : Nat} {u v x0 x1 y0 y1 : Int} (h1 : In1 us i u) (h2 : In1 vs k v) (hx : x0 ≤ u ∧ u ≤ x1) (hy : y0 ≤ v ∧ v ≤ y1) :
    (over t us vs x0 x1 y0 y1).1 * cellD us vs i k ≤ cellN t.values us vs i k u v ∧ cellN t.values us vs i k u v ≤ (over t us vs x0 x1 y0 y1).2 * cellD us vs i k := by
  have C := (Cov.over t us vs x0 x1 y0 y1).2.2
  have Q : 0 ≤ cellD us vs i k := Int.le_of_lt (Int.mul_pos (h1.step g.ui) (h2.step g.vi))
  obtain ⟨p, q, a1, a2, a3, a4, a5⟩ := corner_less t.values h1 h2 hx hy
  obtain ⟨r, s, b1, b2, b3, b4, b5⟩ := corner_more t.values h1 h2 hx hy
  have c1 := (C p q (.inr ⟨a1, a2, In1.has g a3 a4⟩)).1
  have c2 := (C r s (.inr ⟨b1, b2, In1.has g b3 b4⟩)).2
  have d1 := (at_holds g a3 a4).1.1
  have d2 := (at_holds g b3 b4).2.1
  have e1 := Int.mul_le_mul_of_nonneg_right c1 Q
  have e2 := Int.mul_le_mul_of_nonneg_right c2 Q
  omega
theorem over_out {u v x0 x1 y0 y1 : Int} (hx : x0 ≤ u ∧ u ≤ x1) (hy : y0 ≤ v ∧ v ≤ y1) (h : hasB us vs u v = false) : (over t us vs x0 x1 y0 y1).1 ≤ 0 ∧ t.side ≤ (over t us vs x0 x1 y0 y1).2 := by
  have C := (Cov.over t us vs x0 x1 y0 y1).2.2
  have hn : ¬ ((us.getD 0 0 ≤ u ∧ u ≤ us.getD (us.length - 1) 0) ∧ (vs.getD 0 0 ≤ v ∧ v ≤ vs.getD (vs.length - 1) 0)) := fun hh => by
    rw [hasB_iff.2 hh] at h; cases h
  have key : ∃ p q, (p = x0 ∨ p = x1) ∧ (q = y0 ∨ q = y1) ∧ hasB us vs p q = false := by
    have nb : ∀ p q, ¬ ((us.getD 0 0 ≤ p ∧ p ≤ us.getD (us.length - 1) 0) ∧ (vs.getD 0 0 ≤ q ∧ q ≤ vs.getD (vs.length - 1) 0)) → hasB us vs p q = false := fun p q hh => by
      rw [Bool.eq_false_iff]; exact fun h2 => hh (hasB_iff.1 h2)
    rcases Decidable.em (us.getD 0 0 ≤ u) with e1 | e1
    · rcases Decidable.em (u ≤ us.getD (us.length - 1) 0) with e2 | e2
      · rcases Decidable.em (vs.getD 0 0 ≤ v) with e3 | e3
        · exact ⟨x0, y1, .inl rfl, .inr rfl, nb _ _ (by omega)⟩
        · exact ⟨x0, y0, .inl rfl, .inl rfl, nb _ _ (by omega)⟩
      · exact ⟨x1, y0, .inr rfl, .inl rfl, nb _ _ (by omega)⟩
    · exact ⟨x0, y0, .inl rfl, .inl rfl, nb _ _ (by omega)⟩
  obtain ⟨p, q, k1, k2, k3⟩ := key
  have c := C p q (.inl ⟨k1, k2⟩)
  unfold atLo atHi at c
  rw [k3] at c
  simpa using c
end
end Go.Proofs.Ytjhecgiipajdpaa
end
section

namespace Go.Proofs.Ytjhecgiipajdpaa
theorem up_le {x d : Int} (hd : 0 < d) {M : Int} (h : x ≤ M * d) : up x d ≤ M := by
  unfold up
  have : -M ≤ (-x) / d := by rw [Int.le_ediv_iff_mul_le hd, Int.neg_mul]; omega
  omega
theorem le_dn {x d : Int} (hd : 0 < d) {m : Int} (h : m * d ≤ x) : m ≤ x / d := by
  rw [Int.le_ediv_iff_mul_le hd]; exact h
theorem dn_up {x y d : Int} (hd : 0 < d) (h : x ≤ y) : x / d ≤ up y d := by
  unfold up
  have h1 := dn_le x hd
  have h2 := dn_le (-y) hd
  rcases Int.lt_or_le (-(-y / d)) (x / d) with h3 | h3
  · have h4 : (-(-y / d)) * d < x / d * d := Int.mul_lt_mul_of_pos_right h3 hd
    rw [Int.neg_mul] at h4
    omega
  · exact h3
theorem ip_bound {x y a b n m M : Int} (hx : m ≤ x ∧ x ≤ M) (hy : m ≤ y ∧ y ≤ M) (h1 : a ≤ n) (h2 : n ≤ b) : m * (b - a) ≤ ip x y a b n ∧ ip x y a b n ≤ M * (b - a) := by
  have e : ∀ c : Int, ip c c a b n = c * (b - a) := fun c => by unfold ip; grind
  exact ⟨by rw [← e]; exact ip_mono hx.1 hy.1 h1 h2, by rw [← e]; exact ip_mono hx.2 hy.2 h1 h2⟩
theorem ip_any {l : List Int} (hr : rising l = true) {f : Nat → Int} {i j : Nat} {u m M : Int} (h : In1 l i u) (k : In1 l j u) (h1 : m ≤ f i ∧ f i ≤ M) (h2 : m ≤ f (i + 1) ∧ f (i + 1) ≤ M) :
    m * stepD l j ≤ ip (f j) (f (j + 1)) (l.getD j 0) (l.getD (j + 1) 0) u ∧ ip (f j) (f (j + 1)) (l.getD j 0) (l.getD (j + 1) 0) u ≤ M * stepD l j := by
  have s := ip_shared hr (f := f) h k
  have b := ip_bound h1 h2 h.2.1 h.2.2
  have p : 0 < stepD l i := by have := rising_get hr h.1; unfold stepD; omega
  have q : 0 < stepD l j := by have := rising_get hr k.1; unfold stepD; omega
  have m1 := Int.mul_le_mul_of_nonneg_right b.1 (Int.le_of_lt q)
  have m2 := Int.mul_le_mul_of_nonneg_right b.2 (Int.le_of_lt q)
  rw [s] at m1 m2
  have c : ∀ x : Int, x * stepD l i * stepD l j = x * stepD l j * stepD l i := fun x => by rw [Int.mul_assoc, Int.mul_assoc, Int.mul_comm (stepD l i)]
  rw [show l.getD (i + 1) 0 - l.getD i 0 = stepD l i from rfl] at m1 m2
  rw [c] at m1 m2
  exact ⟨Int.le_of_mul_le_mul_right m1 p, Int.le_of_mul_le_mul_right m2 p⟩
section
variable {t : Table} {us vs : List Int}
theorem side_between (g : GoodV t us vs) {a k j : Nat} {v m M : Int} (h : In1 vs k v) (h' : In1 vs j v) (h1 : m ≤ val t.values a k ∧ val t.values a k ≤ M) (h2 : m ≤ val t.values a (k + 1) ∧ val t.values a (k + 1) ≤ M) :
    (m ≤ sideLo t.values vs a j v ∧ sideLo t.values vs a j v ≤ M) ∧ (m ≤ sideHi t.values vs a j v ∧ sideHi t.values vs a j v ≤ M) ∧ sideLo t.values vs a j v ≤ sideHi t.values vs a j v := by
  have b := ip_any g.vi (f := fun k => val t.values a k) h h' h1 h2
  have q := h'.step g.vi
  have e1 : m ≤ sideLo t.values vs a j v := le_dn q b.1
  have e2 : sideHi t.values vs a j v ≤ M := up_le q b.2
  have e3 : sideLo t.values vs a j v ≤ sideHi t.values vs a j v := dn_up q (Int.le_refl _)
  omega
theorem atLo_has {u v : Int} (hb : hasB us vs u v = true) : atLo t us vs u v = ip (sideLo t.values vs (fld us u) (fld vs v) v) (sideLo t.values vs (fld us u + 1) (fld vs v) v) (us.getD (fld us u) 0) (us.getD (fld us u + 1) 0) u / stepD us (fld us u) := by
  unfold atLo; rw [if_pos hb]
theorem atHi_has {u v : Int} (hb : hasB us vs u v = true) : atHi t us vs u v = up (ip (sideHi t.values vs (fld us u) (fld vs v) v) (sideHi t.values vs (fld us u + 1) (fld vs v) v) (us.getD (fld us u) 0) (us.getD (fld us u + 1) 0) u) (stepD us (fld us u)) := by
  unfold atHi; rw [if_pos hb]
theorem at_le (g : GoodV t us vs) (u v : Int) : atLo t us vs u v ≤ atHi t us vs u v := by
  by_cases hb : hasB us vs u v = true
  · obtain ⟨k1, k2⟩ := In1.of_has g hb
    rw [atLo_has hb, atHi_has hb]
    have q := k2.step g.vi
    exact dn_up (k1.step g.ui) (ip_mono (dn_up q (Int.le_refl _)) (dn_up q (Int.le_refl _)) k1.2.1 k1.2.2)
  · unfold atLo atHi
    rw [if_neg hb, if_neg hb]
    exact g.side.1
theorem at_between (g : GoodV t us vs) {i k : Nat} {u v m M : Int} (h1 : In1 us i u) (h2 : In1 vs k v)
    (c1 : m ≤ val t.values i k ∧ val t.values i k ≤ M) (c2 : m ≤ val t.values i (k + 1) ∧ val t.values i (k + 1) ≤ M) (c3 : m ≤ val t.values (i + 1) k ∧ val t.values (i + 1) k ≤ M) (c4 : m ≤ val t.values (i + 1) (k + 1) ∧ val t.values (i + 1) (k + 1) ≤ M) :
    m ≤ atLo t us vs u v ∧ atHi t us vs u v ≤ M := by
  have hb := In1.has g h1 h2
  obtain ⟨k1, k2⟩ := In1.of_has g hb
  rw [atLo_has hb, atHi_has hb]
  have s1 := side_between g h2 k2 c1 c2
  have s2 := side_between g h2 k2 c3 c4
  have q := k1.step g.ui
  exact ⟨le_dn q (ip_any g.ui (f := fun a => sideLo t.values vs a (fld vs v) v) h1 k1 s1.1 s2.1).1, up_le q (ip_any g.ui (f := fun a => sideHi t.values vs a (fld vs v) v) h1 k1 s1.2.1 s2.2.1).2⟩
end
def findI {β : Type} (p : Nat → Option β) (n : Nat) : Option β := (List.range n).findSome? p
theorem findI_of {β : Type} {p : Nat → Option β} {n : Nat} {x : β} (h : findI p n = some x) : ∃ i, i < n ∧ p i = some x := by
  unfold findI at h
  obtain ⟨i, hi, h2⟩ := List.exists_of_findSome?_eq_some h
  exact ⟨i, List.mem_range.1 hi, h2⟩
theorem findI_no {β : Type} {p : Nat → Option β} {n : Nat} (h : findI p n = none) : ∀ i, i < n → p i = none := by
  unfold findI at h
  rw [List.findSome?_eq_none_iff] at h
  exact fun i hi => h i (List.mem_range.2 hi)
def in1B (l : List Int) (i : Nat) (u : Int) : Bool := decide (l.getD i 0 ≤ u) && decide (u ≤ l.getD (i + 1) 0)
def firstK (us vs : List Int) (u v : Int) (i : Nat) (k : Nat) : Option (Nat × Nat) := if (in1B us i u && in1B vs k v) = true then some (i, k) else none
def firstI (us vs : List Int) (u v : Int) (i : Nat) : Option (Nat × Nat) := findI (firstK us vs u v i) (vs.length - 1)
def firstC (us vs : List Int) (u v : Int) : Option (Nat × Nat) := findI (firstI us vs u v) (us.length - 1)
theorem in1B_iff {l : List Int} {i : Nat} {u : Int} : in1B l i u = true ↔ l.getD i 0 ≤ u ∧ u ≤ l.getD (i + 1) 0 := by
  unfold in1B; simp only [Bool.and_eq_true, decide_eq_true_eq]
theorem firstC_some {us vs : List Int} {u v : Int} {i k : Nat} (h : firstC us vs u v = some (i, k)) : In1 us i u ∧ In1 vs k v := by
  obtain ⟨j, hj, h1⟩ := findI_of h
  obtain ⟨m, hm, h2⟩ := findI_of h1
  unfold firstK at h2
  split at h2
  · rename_i hb
    injection h2 with h2
    injection h2 with e1 e2
    subst e1; subst e2
    rw [Bool.and_eq_true, in1B_iff, in1B_iff] at hb
    exact ⟨⟨by omega, hb.1⟩, ⟨by omega, hb.2⟩⟩
  · cases h2
theorem firstC_none {t : Table} {us vs : List Int} (g : GoodV t us vs) {u v : Int} (h : firstC us vs u v = none) : hasB us vs u v = false := by
  rw [Bool.eq_false_iff]
  intro hb
  obtain ⟨k1, k2⟩ := In1.of_has g hb
  have h1 := findI_no (findI_no h (fld us u) (by have := k1.1; omega)) (fld vs v) (by have := k2.1; omega)
  unfold firstK at h1
  rw [if_pos (by rw [Bool.and_eq_true, in1B_iff, in1B_iff]; exact ⟨k1.2, k2.2⟩)] at h1
  cases h1
end Go.Proofs.Ytjhecgiipajdpaa
end
section

namespace Go.Proofs.Ytjhecgiipajdpaa
def Intensity (c : Cat) (i dx dy H : Int) : Int × Int × Int :=
  if tabled c i ≠ 0 then (0, 0, tabled c i)
  else if rectErr dx dx dy dy H ≠ 0 then (0, 0, rectErr dx dx dy dy H)
  else (atLo (c.tables.getD i.toNat default) (sc (c.tables.getD i.toNat default).us H) (sc (c.tables.getD i.toNat default).vs H) (1000 * dx) (1000 * dy),
    atHi (c.tables.getD i.toNat default) (sc (c.tables.getD i.toNat default).us H) (sc (c.tables.getD i.toNat default).vs H) (1000 * dx) (1000 * dy), 0)
abbrev ovr (t : Table) (X0 X1 Y0 Y1 h : Int) : Int × Int := over t (sc t.us h) (sc t.vs h) (1000 * X0) (1000 * X1) (1000 * Y0) (1000 * Y1)
end Go.Proofs.Ytjhecgiipajdpaa
end
section

namespace Go.Proofs.Ytjhecgiipajdpaa
open Go.RowKit
def g0 (w : World) : Gh := { base := w.heap.size, imm := fun b _ => b < w.heap.size, sy := fun _ => .free }
theorem inv0 (w : World) : Inv (g0 w) w [] := ⟨fun e he => (by cases he), fun i j ei ej b h => (by simp at h), Nat.le_refl _, fun b o h => h, 0, fun _ _ => rfl⟩
def RepL (w : World) (cs : List Value) (l : List AV) : Prop := cs.length = l.length ∧ ∀ (i : Nat) v a, cs[i]? = some v → l[i]? = some a → Rep (g0 w) w v a
section
variable {H : Type} {enc : TypeId × Value → H} {P : Program} {w : World}
def Opens (enc : TypeId × Value → H) (P : Program) (w : World) (t n : Nat) (α : Type) (f : α → List AV) (ok : α → Prop) : Prop :=
  P.cellsOf t = n ∧ ∀ fuel cs x, DataW.trod enc P w 0 (fun _ => true) true fuel t cs = some x → ∃ a, ok a ∧ RepL w cs (f a)
theorem RepL.one {v : Value} {a : AV} (h : Rep (g0 w) w v a) : RepL w [v] [a] := ⟨rfl, fun i v' a' h1 h2 => by
  match i with
  | 0 => simp at h1 h2; subst h1; subst h2; exact h
  | i + 1 => simp at h1⟩
theorem RepL.app {c1 c2 : List Value} {l1 l2 : List AV} (h : RepL w c1 l1) (k : RepL w c2 l2) : RepL w (c1 ++ c2) (l1 ++ l2) := by
  refine ⟨by rw [List.length_append, List.length_append, h.1, k.1], fun i v a h1 h2 => ?_⟩
  by_cases hi : i < c1.length
  · rw [List.getElem?_append_left hi] at h1
    rw [List.getElem?_append_left (by rw [← h.1]; exact hi)] at h2
    exact h.2 i v a h1 h2
  · rw [List.getElem?_append_right (by omega)] at h1
    rw [List.getElem?_append_right (by rw [← h.1]; omega), ← h.1] at h2
    exact k.2 _ v a h1 h2
theorem Opens.int {t : TypeId} {k : IntKind} (ht : P.underlying t = some (.int k)) (hc : P.cellsOf t = 1) : Opens enc P w t 1 Int (fun n => [.int k n]) (fun n => (Lit.int k n).wf = true) :=
  ⟨hc, fun fuel cs x h => by
    obtain ⟨n, rfl, _, hw⟩ := DataW.trod_int ht h
    exact ⟨n, hw, .one (.int k n)⟩⟩
theorem Opens.bool {t : TypeId} (ht : P.underlying t = some .bool) (hc : P.cellsOf t = 1) : Opens enc P w t 1 Bool (fun b => [.bool b]) (fun _ => True) :=
  ⟨hc, fun fuel cs x h => by
    obtain ⟨n, rfl, _⟩ := DataW.trod_bool ht h
    exact ⟨n, trivial, .one (.bool n)⟩⟩
theorem Opens.str {t : TypeId} (ht : P.underlying t = some .string) (hc : P.cellsOf t = 1) : Opens enc P w t 1 ByteArray (fun s => [.str s]) (fun s => s.size ≤ maxLen) :=
  ⟨hc, fun fuel cs x h => by
    obtain ⟨n, rfl, _, hw⟩ := DataW.trod_string ht h
    exact ⟨n, hw, .one (.str n)⟩⟩
theorem Opens.map {t n : Nat} {α β : Type} {f : α → List AV} {ok : α → Prop} (h : Opens enc P w t n α f ok) (φ : α → β) (f' : β → List AV) (ok' : β → Prop) (hf : ∀ a, f a = f' (φ a)) (hok : ∀ a, ok a → ok' (φ a)) : Opens enc P w t n β f' ok' :=
  ⟨h.1, fun fuel cs x hx => by
    obtain ⟨a, h1, h2⟩ := h.2 fuel cs x hx
    exact ⟨φ a, hok a h1, by rw [← hf]; exact h2⟩⟩
inductive OpensF (enc : TypeId × Value → H) (P : Program) (w : World) : List Field → Nat → (α : Type) → (α → List AV) → (α → Prop) → Prop
  | nil (off : Nat) : OpensF enc P w [] off Unit (fun _ => []) (fun _ => True)
  | cons {fd : Field} {fs : List Field} {off n : Nat} {α β : Type} {f : α → List AV} {f' : β → List AV} {ok : α → Prop} {ok' : β → Prop} (ho : fd.offset = off) (h : Opens enc P w fd.type n α f ok)
      (r : OpensF enc P w fs (off + n) β f' ok') : OpensF enc P w (fd :: fs) off (α × β) (fun x => f x.1 ++ f' x.2) (fun x => ok x.1 ∧ ok' x.2)
theorem OpensF.get {fs : List Field} {off : Nat} {α : Type} {f : α → List AV} {ok : α → Prop} (h : OpensF enc P w fs off α f ok) : ∀ (cs : List Value),
    (∀ (i : Nat) fd, fs[i]? = some fd → ∃ fuel x, DataW.trod enc P w 0 (fun _ => true) true fuel fd.type ((cs.drop fd.offset).take (P.cellsOf fd.type)) = some x) → ∃ a k, ok a ∧ (f a).length = k ∧ RepL w ((cs.drop off).take k) (f a) := by
  induction h with
  | nil off => exact fun cs _ => ⟨(), 0, trivial, rfl, by rw [List.take_zero]; exact ⟨rfl, fun i v a h => by simp at h⟩⟩
  | cons ho h r ih =>
    rename_i fd fs off n α β f f' ok ok'
    intro cs hcs
    obtain ⟨fuel, x, hx⟩ := hcs 0 fd rfl
    rw [ho, h.1] at hx
    obtain ⟨a, h1, h2⟩ := h.2 fuel _ x hx
    obtain ⟨b, k, h3, h4, h5⟩ := ih cs (fun i fd' hi => hcs (i + 1) fd' (by simpa using hi))
    refine ⟨(a, b), (f a).length + k, ⟨h1, h3⟩, by simp [h4], ?_⟩
    have hl : ((cs.drop off).take n).length = (f a).length := h2.1
    have hsplit : (cs.drop off).take ((f a).length + k) = (cs.drop off).take n ++ (cs.drop (off + n)).take k := by
      rcases Nat.lt_or_ge (cs.drop off).length n with hlt | hge
      ·
        have hlen : (f a).length = (cs.drop off).length := by rw [← hl, List.length_take]; omega
        have hnil : cs.drop (off + n) = [] := by
          apply List.drop_eq_nil_of_le
          rw [List.length_drop] at hlt
          omega
        have hk : k = 0 := by
          have := h5.1
          rw [hnil, List.take_nil] at this
          rw [← h4]; simpa using this.symm
        rw [hnil, hk, List.take_nil, List.append_nil, Nat.add_zero, hlen, List.take_length, List.take_of_length_le (by omega)]
      · have hlen : (f a).length = n := by rw [← hl, List.length_take]; omega
        rw [hlen, List.take_add, List.drop_drop]
    rw [hsplit]
    exact h2.app h5
theorem Opens.struct {t n : Nat} {fs : Array Field} {α : Type} {f : α → List AV} {ok : α → Prop} (ht : P.underlying t = some (.struct fs)) (hc : P.cellsOf t = n) (h : OpensF enc P w fs.toList 0 α f ok) (hn : ∀ a, (f a).length = n) : Opens enc P w t n α f ok :=
  ⟨hc, fun fuel cs x hx => by
    obtain ⟨xs, m, rfl, rfl, hl, hlen, hf⟩ := DataW.trod_struct ht hx
    obtain ⟨a, k, h1, h2, h3⟩ := h.get cs fun i fd hi => by
      rw [Array.getElem?_toList] at hi
      have := hf i fd hi
      have hlt : i < xs.length := by rw [hlen]; exact (Array.getElem?_eq_some_iff.1 hi).1
      exact ⟨m, xs[i], by rw [this]; exact List.getElem?_eq_getElem hlt⟩
    refine ⟨a, h1, ?_⟩
    rw [hn] at h2
    subst h2
    rw [List.drop_zero, List.take_of_length_le (by rw [hl, hc]; exact Nat.le_refl _)] at h3
    exact h3⟩
theorem Opens.slice {t e n : Nat} {α : Type} {f : α → List AV} {ok : α → Prop} (g : α → AV) (ht : P.underlying t = some (.slice e)) (hc : P.cellsOf t = 1) (h : Opens enc P w e n α f ok) (hn : 0 < n) (hg : ∀ a, (g a).cells = f a) (hfl : ∀ a, (f a).length = n) :
    Opens enc P w t 1 (List α) (fun l => [.slice (l.map g) none]) (fun l => l.length ≤ maxLen ∧ ∀ a ∈ l, ok a) := by
  refine ⟨hc, fun fuel cs x hx => ?_⟩
  rcases DataW.trod_slice ht hx with ⟨rfl, _⟩ | ⟨a, len, cap, elems, rest, m, _, rfl, _, hb, hl, hm, hlen, hel, _⟩
  · exact ⟨[], ⟨by simp, fun a ha => by cases ha⟩, .one (.slice 0 0 (fun _ _ => undef) rfl (fun h => absurd rfl h) (sz := 0) (fun e he => by cases he) (fun i e j c h => by simp at h) (fun i e j c h => by simp at h) (Nat.le_refl _) (fun s hs => by cases hs))⟩
  ·
    have each : ∀ i, i < len → ∃ (a' : α) (cs' : List Value), ok a' ∧ RepL w cs' (f a') ∧ cs'.length = n ∧ ∀ j, j < n → w.cell? ((a.add (i * n)).add j) = cs'[j]? := by
      intro i hi
      have h1 := hel i hi
      rw [List.getElem?_eq_getElem (by omega), h.1, Option.bind_eq_some_iff] at h1
      obtain ⟨cs', h2, h3⟩ := h1
      obtain ⟨a', h4, h5⟩ := h.2 m cs' _ h3
      obtain ⟨h6, h7, h8⟩ := World.cells?_some h2
      exact ⟨a', cs', h4, h5, h7, h8⟩
    have hlist : ∀ k, k ≤ len → ∃ L : List (α × List Value), L.length = k ∧ ∀ (i : Nat) p, L[i]? = some p → ok p.1 ∧ RepL w p.2 (f p.1) ∧ p.2.length = n ∧ ∀ j, j < n → w.cell? ((a.add (i * n)).add j) = p.2[j]? := by
      intro k
      induction k with
      | zero => exact fun _ => ⟨[], rfl, fun i p h => by simp at h⟩
      | succ k ih =>
        intro hk
        obtain ⟨L, h1, h2⟩ := ih (by omega)
        obtain ⟨a', cs', h3⟩ := each k (by omega)
        refine ⟨L ++ [(a', cs')], by simp [h1], fun i p hp => ?_⟩
        rw [List.getElem?_append] at hp
        split at hp
        · exact h2 i p hp
        · rename_i hge
          have hi : i - L.length = 0 := by
            rcases Nat.eq_zero_or_pos (i - L.length) with h | h
            · exact h
            · rw [List.getElem?_eq_none (by simp; omega)] at hp; cases hp
          have hik : i = k := by omega
          rw [hi] at hp
          simp at hp
          subst hp
          rw [hik]
          exact h3
    obtain ⟨L, hL1, hL2⟩ := hlist len (Nat.le_refl _)
    have spot : 0 < len → a = ⟨a.block, a.off, none⟩ := by
      intro h0
      obtain ⟨a0, c0, _, _, h3, h4⟩ := each 0 h0
      have h5 := h4 0 hn
      rw [List.getElem?_eq_getElem (by omega), Nat.zero_mul] at h5
      have h6 : w.cell? a = some c0[0] := by simpa [Addr.add] using h5
      unfold World.cell? at h6
      split at h6
      · split at h6
        · cases h6
        · rename_i hs
          have : a.spot = none := by cases hs' : a.spot <;> simp_all
          cases a
          simp_all
      · cases h6
    refine ⟨L.map (·.1), ⟨by simp [hL1]; omega, fun x hx => ?_⟩, .one ?_⟩
    · obtain ⟨p, hp, rfl⟩ := List.mem_map.1 hx
      obtain ⟨i, hi⟩ := List.getElem?_of_mem hp
      exact (hL2 i p hi).1
    · have getp : ∀ (i : Nat) el, ((L.map (·.1)).map g)[i]? = some el → ∃ p, L[i]? = some p ∧ el = g p.1 := by
        intro i el h1
        rw [List.getElem?_map, List.getElem?_map] at h1
        cases hp : L[i]? with
        | none => rw [hp] at h1; cases h1
        | some p => rw [hp] at h1; simp at h1; exact ⟨p, rfl, h1.symm⟩
      refine .slice a.block a.off (fun i j => (((L[i]?).map (·.2)).getD []).getD j undef) (sz := n) (by simp [hL1]) (fun h => congrArg some (spot ?_)) (fun e he => ?_) (fun i el j c h1 h2 => ?_) (fun i el j c h1 h2 => ?_) hl (fun s hs => by cases hs)
      · rcases Nat.eq_zero_or_pos len with h0 | h0
        · exfalso
          apply h
          have : L = [] := List.eq_nil_of_length_eq_zero (by omega)
          rw [this]; rfl
        · exact h0
      · obtain ⟨x, _, rfl⟩ := List.mem_map.1 he
        rw [hg, hfl]
      · obtain ⟨p, hp, rfl⟩ := getp i el h1
        obtain ⟨k1, k2, k3, k4⟩ := hL2 i p hp
        rw [hg] at h2
        have hj : j < n := by rw [← hfl p.1]; exact (List.getElem?_eq_some_iff.1 h2).1
        have hlen0 : 0 < len := by have := (List.getElem?_eq_some_iff.1 hp).1; omega
        have h5 := k4 j hj
        rw [List.getElem?_eq_getElem (by omega)] at h5
        have hsp := spot hlen0
        rw [hsp, add_addr, add_addr] at h5
        refine ⟨?_, ?_⟩
        · rw [show a.off + (i * n + j) = a.off + i * n + j from by omega, h5, hp]
          simp [List.getD_eq_getElem?_getD, List.getElem?_eq_getElem (show j < p.2.length by omega)]
        · show a.block < w.heap.size
          have h9 := World.block_lt_of_cell? w _ h5
          exact h9
      · obtain ⟨p, hp, rfl⟩ := getp i el h1
        obtain ⟨k1, k2, k3, k4⟩ := hL2 i p hp
        rw [hg] at h2
        have hj : j < n := by rw [← hfl p.1]; exact (List.getElem?_eq_some_iff.1 h2).1
        rw [hp]
        refine k2.2 j _ c ?_ h2
        simp [List.getD_eq_getElem?_getD, List.getElem?_eq_getElem (show j < p.2.length by omega)]
theorem Opens.array {t e n m : Nat} {α : Type} {f : α → List AV} {ok : α → Prop} (ht : P.underlying t = some (.array m e)) (hc : P.cellsOf t = m * n) (h : Opens enc P w e n α f ok) (hfl : ∀ a, (f a).length = n) :
    Opens enc P w t (m * n) (List α) (fun l => l.flatMap f) (fun l => l.length = m ∧ ∀ a ∈ l, ok a) :=
  ⟨hc, fun fuel cs x hx => by
    obtain ⟨xs, k, rfl, rfl, hl, hlen, hf⟩ := DataW.trod_array ht hx
    have key : ∀ j, j ≤ m → ∃ l : List α, (l.length = j ∧ ∀ a ∈ l, ok a) ∧ RepL w (cs.take (j * n)) (l.flatMap f) := by
      intro j
      induction j with
      | zero => exact fun _ => ⟨[], ⟨rfl, fun a ha => (by cases ha)⟩, by rw [Nat.zero_mul, List.take_zero]; exact ⟨rfl, fun i v a h => by simp at h⟩⟩
      | succ j ih =>
        intro hj
        obtain ⟨l, ⟨h1, h2⟩, h3⟩ := ih (by omega)
        have h4 := hf j (by omega)
        rw [h.1, List.getElem?_eq_getElem (by omega)] at h4
        obtain ⟨a, h5, h6⟩ := h.2 k _ _ h4
        refine ⟨l ++ [a], ⟨by simp [h1], fun b hb => ?_⟩, ?_⟩
        · rcases List.mem_append.1 hb with hb | hb
          · exact h2 b hb
          · rw [List.mem_singleton.1 hb]; exact h5
        · rw [Nat.add_mul, Nat.one_mul, List.take_add, List.flatMap_append, List.flatMap_singleton]
          exact h3.app h6
    obtain ⟨l, h1, h2⟩ := key m (Nat.le_refl _)
    rw [List.take_of_length_le (by rw [hl, hc]; exact Nat.le_refl _)] at h2
    exact ⟨l, h1, h2⟩⟩
theorem Opens.agg {t n : Nat} {α : Type} {f : α → List AV} {ok : α → Prop} (h : Opens enc P w t n α f ok) {fs : Array Field} (ht : P.underlying t = some (.struct fs)) {W : World} {r : Reach} {b0 : Nat} {v : Value} {d : DataW H} {ps : List MemPlace}
    (hval : Value.okWide P W r b0 t v) (hd : DataW.Trod enc P w 0 (fun _ => true) true t v d ps) : ∃ a, ok a ∧ Rep (g0 w) w v (.agg (f a)) := by
  obtain ⟨fuel, hf⟩ := hd
  obtain ⟨a, h1, h2⟩ := h.2 fuel _ _ hf
  unfold Value.okWide at hval
  rw [ht] at hval
  obtain ⟨cs, rfl, _⟩ := hval
  refine ⟨a, h1, .agg ?_ fun i v c hv hc => ?_⟩
  · have := h2.1
    simpa [Value.cells] using this
  · exact h2.2 i v c (by simpa [Value.cells] using hv) hc
theorem walk_of {f : FuncId} {args : List AV} {vs : Array Value} (h : Pure P f args (.bool true)) (ha : RepAll (g0 w) w vs args) : Calls P f vs w fun e w' => e = .returned (.bool true) ∧ Below w.heap.size w w' :=
  (h [] (g0 w) w vs (inv0 w) ha).mono fun e w' ⟨v, r, mem', g', he, ⟨hr, _⟩, hv, _, hx⟩ => by
    subst hr
    cases hv
    exact ⟨he, hx.below⟩
end
end Go.Proofs.Ytjhecgiipajdpaa
end
section

namespace Go.Proofs.Ytjhecgiipajdpaa
open Go.RowKit
section
variable {H : Type} {enc : TypeId × Value → H} {P : Program} {w : World}
theorem wf_u8 {n : Int} (h : (Lit.int .u8 n).wf = true) : 0 ≤ n ∧ n ≤ 255 := by
  simp only [Lit.wf, Bool.and_eq_true, decide_eq_true_eq] at h
  exact h
theorem Opens.one {t n : Nat} {α : Type} {a1 : α → AV} {ok : α → Prop} (h : Opens enc P w t n α (fun a => [a1 a]) ok) {e : TypeId} (ht : P.underlying t = some (.slice e)) {W : World} {r : Reach} {b0 : Nat} {v : Value} {d : DataW H} {ps : List MemPlace}
    (hval : Value.okWide P W r b0 t v) (hd : DataW.Trod enc P w 0 (fun _ => true) true t v d ps) : ∃ a, ok a ∧ Rep (g0 w) w v (a1 a) := by
  obtain ⟨A, len, cap, rfl⟩ := Go.WideShapes.okWide_slice ht hval
  obtain ⟨fuel, hf⟩ := hd
  obtain ⟨a, h1, h2⟩ := h.2 fuel _ _ hf
  exact ⟨a, h1, h2.2 0 _ _ rfl rfl⟩
end
end Go.Proofs.Ytjhecgiipajdpaa
end
section

namespace Go.Proofs.Ytjhecgiipajdpaa
theorem over_ok {c : Cat} {i X0 X1 Y0 Y1 H : Int} (h : (Over c i X0 X1 Y0 Y1 H).2.2 = 0) : tabled c i = 0 ∧ rectErr X0 X1 Y0 Y1 H = 0 := by
  unfold Over at h
  split at h
  · rename_i h1; exact absurd h h1
  · rename_i h1
    split at h
    · rename_i h2; exact absurd h h2
    · rename_i h2; exact ⟨Decidable.not_not.1 h1, Decidable.not_not.1 h2⟩
theorem over_eq {c : Cat} {i X0 X1 Y0 Y1 H : Int} (h1 : tabled c i = 0) (h2 : rectErr X0 X1 Y0 Y1 H = 0) :
    (Over c i X0 X1 Y0 Y1 H).2.2 = 0 ∧ (Over c i X0 X1 Y0 Y1 H).1 = (ovr (c.tables.getD i.toNat default) X0 X1 Y0 Y1 H).1 ∧ (Over c i X0 X1 Y0 Y1 H).2.1 = (ovr (c.tables.getD i.toNat default) X0 X1 Y0 Y1 H).2 := by
  unfold Over
  rw [if_neg (by omega), if_neg (by omega)]
  exact ⟨rfl, rfl, rfl⟩
theorem intensity_eq {c : Cat} {i X Y H : Int} (h1 : tabled c i = 0) (h2 : rectErr X X Y Y H = 0) :
    (Intensity c i X Y H).2.2 = 0 ∧ (Intensity c i X Y H).1 = atLo (c.tables.getD i.toNat default) (sc (c.tables.getD i.toNat default).us H) (sc (c.tables.getD i.toNat default).vs H) (1000 * X) (1000 * Y) ∧
      (Intensity c i X Y H).2.1 = atHi (c.tables.getD i.toNat default) (sc (c.tables.getD i.toNat default).us H) (sc (c.tables.getD i.toNat default).vs H) (1000 * X) (1000 * Y) := by
  unfold Intensity
  rw [if_neg (by omega), if_neg (by omega)]
  exact ⟨rfl, rfl, rfl⟩
theorem rectErr_of {X0 X1 Y0 Y1 H : Int} (h0 : 1 ≤ H ∧ H ≤ 30000) (h1 : -200000 ≤ X0 ∧ X0 ≤ X1 ∧ X1 ≤ 200000) (h2 : -200000 ≤ Y0 ∧ Y0 ≤ Y1 ∧ Y1 ≤ 200000) : rectErr X0 X1 Y0 Y1 H = 0 := by
  unfold rectErr
  rw [if_neg (by omega), if_neg (by omega)]
end Go.Proofs.Ytjhecgiipajdpaa
end
section

namespace Go.Proofs.Ytjhecgiipajdpaa
def min4 (v : List (List Int)) (i k : Nat) : Int := min (min (min (val v i k) (val v i (k + 1))) (val v (i + 1) k)) (val v (i + 1) (k + 1))
def max4 (v : List (List Int)) (i k : Nat) : Int := max (max (max (val v i k) (val v i (k + 1))) (val v (i + 1) k)) (val v (i + 1) (k + 1))
def exactR (t : Table) (u v h : Int) : Int × Int :=
  match firstC (sc t.us h) (sc t.vs h) u v with
  | some (i, k) => (cellN t.values (sc t.us h) (sc t.vs h) i k u v, cellD (sc t.us h) (sc t.vs h) i k)
  | none => (0, 0)
def smallB (t : Table) : Bool := (t.values.all fun r => r.all fun x => decide (x ≤ 5000)) && decide (t.side ≤ 5000)
theorem small_get {t : Table} (h : smallB t = true) {a b : Nat} (ha : a < t.values.length) (hb : b < (t.values.getD a []).length) : val t.values a b ≤ 5000 := by
  unfold smallB at h
  rw [Bool.and_eq_true, List.all_eq_true] at h
  have := h.1 _ (getD_mem (d := []) ha)
  rw [List.all_eq_true] at this
  exact of_decide_eq_true (this _ (getD_mem hb))
theorem small_side {t : Table} (h : smallB t = true) : t.side ≤ 5000 := by
  unfold smallB at h
  rw [Bool.and_eq_true] at h
  exact of_decide_eq_true h.2
section
variable {t : Table} {us vs : List Int}
theorem at_small (g : GoodV t us vs) (h : smallB t = true) (u v : Int) : (0 ≤ atLo t us vs u v ∧ atLo t us vs u v ≤ 5000) ∧ (0 ≤ atHi t us vs u v ∧ atHi t us vs u v ≤ 5000) := by
  have b := g.at_in u v
  have l := at_le g u v
  have key : atHi t us vs u v ≤ 5000 := by
    by_cases hb : hasB us vs u v = true
    · obtain ⟨k1, k2⟩ := In1.of_has g hb
      have gv := g.vn
      have va : ∀ a k : Nat, a < us.length → k < vs.length → 0 ≤ val t.values a k ∧ val t.values a k ≤ 5000 := fun a k ha hk => ⟨(g.vals a k ha hk).1, small_get h (by omega) (by rw [g.rows a ha]; exact hk)⟩
      have c1 := k1.1
      have c2 := k2.1
      exact (at_between g k1 k2 (m := 0) (va _ _ (by omega) (by omega)) (va _ _ (by omega) c2) (va _ _ c1 (by omega)) (va _ _ c1 c2)).2
    · unfold atHi; rw [if_neg hb]; exact small_side h
  omega
theorem over_small (g : GoodV t us vs) (h : smallB t = true) (x0 x1 y0 y1 : Int) : (0 ≤ (over t us vs x0 x1 y0 y1).1 ∧ (over t us vs x0 x1 y0 y1).1 ≤ 5000) ∧ (0 ≤ (over t us vs x0 x1 y0 y1).2 ∧ (over t us vs x0 x1 y0 y1).2 ≤ 5000) := by
  obtain ⟨⟨u, v, _, h1⟩, ⟨u', v', _, h2⟩, _⟩ := Cov.over t us vs x0 x1 y0 y1
  have a := at_small g h u v
  have b := at_small g h u' v'
  omega
end
theorem step_small {l : List Int} {h : Int} (hr : ranged l (-5000) 5000 = true) (hh : 1 ≤ h ∧ h ≤ 1000) (i : Nat) : -5000000 ≤ (sc l h).getD i 0 ∧ (sc l h).getD i 0 ≤ 5000000 := by
  rw [sc_get]
  have h1 := ranged_any hr i
  have h2 := mulB 5000 1000 (a := l.getD i 0) (b := h) (by omega) (by omega)
  omega
theorem holds {c : Cat} {i X0 X1 Y0 Y1 H px py : Int} (h : (Over c i X0 X1 Y0 Y1 H).2.2 = 0) (hH : H ≤ 1000) (hs : smallB (c.tables.getD i.toNat default) = true) (hx : X0 ≤ px ∧ px ≤ X1) (hy : Y0 ≤ py ∧ py ≤ Y1) :
    (Intensity c i px py H).2.2 = 0 ∧
    ((exactR (c.tables.getD i.toNat default) (1000 * px) (1000 * py) H).2 = 0 → (Over c i X0 X1 Y0 Y1 H).1 ≤ 0 ∧ (c.tables.getD i.toNat default).side ≤ (Over c i X0 X1 Y0 Y1 H).2.1) ∧
    ((exactR (c.tables.getD i.toNat default) (1000 * px) (1000 * py) H).2 ≠ 0 →
      (Intensity c i px py H).1 * (exactR (c.tables.getD i.toNat default) (1000 * px) (1000 * py) H).2 ≤ (exactR (c.tables.getD i.toNat default) (1000 * px) (1000 * py) H).1 ∧
      (exactR (c.tables.getD i.toNat default) (1000 * px) (1000 * py) H).1 ≤ (Intensity c i px py H).2.1 * (exactR (c.tables.getD i.toNat default) (1000 * px) (1000 * py) H).2 ∧
      (Over c i X0 X1 Y0 Y1 H).1 * (exactR (c.tables.getD i.toNat default) (1000 * px) (1000 * py) H).2 ≤ (exactR (c.tables.getD i.toNat default) (1000 * px) (1000 * py) H).1 ∧
      (exactR (c.tables.getD i.toNat default) (1000 * px) (1000 * py) H).1 ≤ (Over c i X0 X1 Y0 Y1 H).2.1 * (exactR (c.tables.getD i.toNat default) (1000 * px) (1000 * py) H).2 ∧
      (Intensity c i px py H).2.1 - (Intensity c i px py H).1 ≤ 3) ∧
    ((0 ≤ (Intensity c i px py H).1 ∧ (Intensity c i px py H).1 ≤ 5000) ∧ (0 ≤ (Intensity c i px py H).2.1 ∧ (Intensity c i px py H).2.1 ≤ 5000) ∧ (0 ≤ (Over c i X0 X1 Y0 Y1 H).1 ∧ (Over c i X0 X1 Y0 Y1 H).1 ≤ 5000) ∧ (0 ≤ (Over c i X0 X1 Y0 Y1 H).2.1 ∧ (Over c i X0 X1 Y0 Y1 H).2.1 ≤ 5000)) ∧
    (0 ≤ (exactR (c.tables.getD i.toNat default) (1000 * px) (1000 * py) H).2 ∧ (exactR (c.tables.getD i.toNat default) (1000 * px) (1000 * py) H).2 ≤ 100000000000000) := by
  obtain ⟨hT, hR⟩ := over_ok h
  have hrr := rectErr_ok hR
  obtain ⟨t1, t2, t3⟩ := tabled_ok hT
  have g := (check_ok t1).2.2.1 i.toNat (by omega)
  have gv := g.view hrr.1
  have e1 := over_eq hT hR
  have e3 := intensity_eq hT (rectErr_of hrr.1 (X0 := px) (X1 := px) (Y0 := py) (Y1 := py) (by omega) (by omega))
  have s1 := over_small gv hs (1000 * X0) (1000 * X1) (1000 * Y0) (1000 * Y1)
  have s2 := at_small gv hs (1000 * px) (1000 * py)
  rw [e1.2.1, e1.2.2, e3.2.1, e3.2.2]
  refine ⟨e3.1, ?_⟩
  generalize c.tables.getD i.toNat default = t at *
  unfold exactR
  cases hf : firstC (sc t.us H) (sc t.vs H) (1000 * px) (1000 * py) with
  | none =>
    have hb := firstC_none gv hf
    have o := over_out (t := t) (x0 := 1000 * X0) (x1 := 1000 * X1) (y0 := 1000 * Y0) (y1 := 1000 * Y1) (by omega) (by omega) hb
    exact ⟨fun _ => o, fun h => absurd rfl h, ⟨s2.1, s2.2, s1.1, s1.2⟩, by show (0 : Int) ≤ 0 ∧ (0 : Int) ≤ _; omega⟩
  | some p =>
    obtain ⟨a, k⟩ := p
    obtain ⟨k1, k2⟩ := firstC_some hf
    have p1 := k1.step gv.ui
    have p2 := k2.step gv.vi
    have P : 0 < cellD (sc t.us H) (sc t.vs H) a k := Int.mul_pos p1 p2
    have o := over_holds gv k1 k2 (x0 := 1000 * X0) (x1 := 1000 * X1) (y0 := 1000 * Y0) (y1 := 1000 * Y1) (by omega) (by omega)
    have at' := at_holds gv k1 k2
    have u0 := step_small g.ur (by omega : 1 ≤ H ∧ H ≤ 1000) a
    have u1 := step_small g.ur (by omega : 1 ≤ H ∧ H ≤ 1000) (a + 1)
    have v0 := step_small g.vr (by omega : 1 ≤ H ∧ H ≤ 1000) k
    have v1 := step_small g.vr (by omega : 1 ≤ H ∧ H ≤ 1000) (k + 1)
    have m := mulN 10000000 10000000 (a := stepD (sc t.us H) a) (b := stepD (sc t.vs H) k) (by unfold stepD; unfold stepD at p1; omega) (by unfold stepD; unfold stepD at p2; omega)
    have d3 : atHi t (sc t.us H) (sc t.vs H) (1000 * px) (1000 * py) - 2 < atLo t (sc t.us H) (sc t.vs H) (1000 * px) (1000 * py) + 2 :=
      Int.lt_of_mul_lt_mul_right (Int.lt_trans at'.2.2 at'.1.2) (Int.le_of_lt P)
    refine ⟨fun h0 => ?_, fun _ => ⟨at'.1.1, at'.2.1, o.1, o.2, by omega⟩, ⟨s2.1, s2.2, s1.1, s1.2⟩, ⟨m.1, by show stepD (sc t.us H) a * stepD (sc t.vs H) k ≤ _; omega⟩⟩
    exact absurd h0 (by show cellD (sc t.us H) (sc t.vs H) a k ≠ 0; omega)
end Go.Proofs.Ytjhecgiipajdpaa
end
section

namespace Go.Proofs.Ytjhecgiipajdpaa
def bitOf : Nat → Int
  | 0 => 0
  | k + 1 => 2 ^ k
theorem bitOf_half (k : Nat) : (bitOf (k + 1)).tdiv 2 = bitOf k := by
  cases k with
  | zero => rfl
  | succ k =>
    show ((2 : Int) ^ (k + 1)).tdiv 2 = 2 ^ k
    rw [Int.pow_succ, Int.mul_tdiv_cancel _ (by decide)]
theorem bitOf_pos (k : Nat) : 0 < bitOf (k + 1) := Int.pow_pos (by decide)
theorem bitOf_le {k : Nat} (h : k ≤ 17) : 0 ≤ bitOf k ∧ bitOf k ≤ 65536 := by
  have h2 : ∀ j : Fin 18, 0 ≤ bitOf j.val ∧ bitOf j.val ≤ 65536 := by decide
  exact h2 ⟨k, by omega⟩
def stepAt (a b s : Int) (j : Nat) : Int := a + ((b - a) * (j : Int)).tdiv s
def stepsL (a b s : Int) : List Int := (List.range (s.toNat + 1)).map (stepAt a b s)
theorem stepsL_take {a b s : Int} {k : Nat} : (List.range k).map (stepAt a b s) ++ [stepAt a b s k] = (List.range (k + 1)).map (stepAt a b s) := by
  rw [List.range_succ, List.map_append]; rfl
theorem stepsL_length (a b s : Int) : (stepsL a b s).length = s.toNat + 1 := by unfold stepsL; rw [List.length_map, List.length_range]
theorem stepsL_get {a b s : Int} {j : Nat} (h : j < s.toNat + 1) : (stepsL a b s).getD j 0 = stepAt a b s j := by
  unfold stepsL
  rw [List.getD_eq_getElem?_getD, List.getElem?_map, List.getElem?_range h]
  rfl
theorem stepAt_div {a b s : Int} (hab : a ≤ b) (j : Nat) : stepAt a b s j = a + (b - a) * (j : Int) / s := by
  unfold stepAt
  rw [Int.tdiv_eq_ediv_of_nonneg (Int.mul_nonneg (by omega) (by omega))]
theorem stepAt_mono {a b s : Int} (hab : a ≤ b) (hs : 0 < s) {j k : Nat} (h : j ≤ k) : stepAt a b s j ≤ stepAt a b s k := by
  rw [stepAt_div hab, stepAt_div hab]
  have m := Int.mul_le_mul_of_nonneg_left (show (j : Int) ≤ (k : Int) by omega) (show 0 ≤ b - a by omega)
  have := Int.ediv_le_ediv hs m
  omega
theorem stepAt_in {a b s : Int} (hab : a ≤ b) (hs : 0 < s) {j : Nat} (h : (j : Int) ≤ s) : a ≤ stepAt a b s j ∧ stepAt a b s j ≤ b := by
  rw [stepAt_div hab]
  have m0 := Int.mul_nonneg (show 0 ≤ b - a by omega) (show (0 : Int) ≤ (j : Int) by omega)
  have m := Int.mul_le_mul_of_nonneg_left h (show 0 ≤ b - a by omega)
  have d0 := Int.ediv_nonneg m0 (show 0 ≤ s by omega)
  have d1 := Int.ediv_le_ediv hs m
  rw [Int.mul_ediv_cancel _ (by omega)] at d1
  omega
theorem stepAt_rg {a b s : Int} (ha : -5000 ≤ a) (hab : a ≤ b) (hb : b ≤ 5000) (hs : 0 < s) {j : Nat} (h : (j : Int) + 1 ≤ s) : Rg (stepAt a b s j) (stepAt a b s (j + 1)) := by
  have h1 := stepAt_in hab hs (j := j) (by omega)
  have h2 := stepAt_in hab hs (j := j + 1) (by omega)
  have h3 := stepAt_mono hab hs (j := j) (k := j + 1) (by omega)
  unfold Rg
  omega
section
variable (t : Table) (s : Int)
abbrev uA (i m : Nat) : Int := stepAt (t.us.getD i 0) (t.us.getD (i + 1) 0) s m
abbrev vA (k n : Nat) : Int := stepAt (t.vs.getD k 0) (t.vs.getD (k + 1) 0) s n
def pLo (i k m n : Nat) : Int := pieceLo (min4 t.values i k) (uA t s i m) (uA t s i (m + 1)) (vA t s k n) (vA t s k (n + 1))
def pHi (i k m n : Nat) : Int := pieceHi (max4 t.values i k) (uA t s i m) (uA t s i (m + 1)) (vA t s k n) (vA t s k (n + 1))
def mLo (i k m : Nat) : Int := sumN (pLo t s i k m) s.toNat
def mHi (i k m : Nat) : Int := sumN (pHi t s i k m) s.toNat
def kLo (i k : Nat) : Int := sumN (mLo t s i k) s.toNat
def kHi (i k : Nat) : Int := sumN (mHi t s i k) s.toNat
def iLo (i : Nat) : Int := sumN (kLo t s i) (t.vs.length - 1)
def iHi (i : Nat) : Int := sumN (kHi t s i) (t.vs.length - 1)
def shareLo : Int := sumN (iLo t s) (t.us.length - 1)
def shareHi : Int := sumN (iHi t s) (t.us.length - 1)
end
def Share (c : Cat) (i s : Int) : Int × Int × Int :=
  if tabled c i ≠ 0 then (0, 0, tabled c i)
  else if ¬ (1 ≤ s ∧ s ≤ 4) then (0, 0, 7)
  else (shareLo (c.tables.getD i.toNat default) s / 1000, up (shareHi (c.tables.getD i.toNat default) s) 1000, 0)
theorem min4_in {t : Table} (g : Good t) {i k : Nat} (hi : i + 1 < t.us.length) (hk : k + 1 < t.vs.length) : (0 ≤ min4 t.values i k ∧ min4 t.values i k ≤ max4 t.values i k) ∧ max4 t.values i k ≤ 10000000 := by
  have a := g.vals i k (by omega) (by omega)
  have b := g.vals i (k + 1) (by omega) hk
  have c := g.vals (i + 1) k hi (by omega)
  have d := g.vals (i + 1) (k + 1) hi hk
  unfold min4 max4
  omega
theorem uA_rg {t : Table} (g : Good t) {s : Int} (hs : 0 < s) {i m : Nat} (hi : i + 1 < t.us.length) (hm : (m : Int) + 1 ≤ s) : Rg (uA t s i m) (uA t s i (m + 1)) := by
  have a := ranged_any g.ur i
  have b := ranged_any g.ur (i + 1)
  have c := rising_get g.ui hi
  exact stepAt_rg (by omega) (by omega) (by omega) hs hm
theorem vA_rg {t : Table} (g : Good t) {s : Int} (hs : 0 < s) {k n : Nat} (hk : k + 1 < t.vs.length) (hn : (n : Int) + 1 ≤ s) : Rg (vA t s k n) (vA t s k (n + 1)) := by
  have a := ranged_any g.vr k
  have b := ranged_any g.vr (k + 1)
  have c := rising_get g.vi hk
  exact stepAt_rg (by omega) (by omega) (by omega) hs hn
theorem share_eq {c : Cat} {i s : Int} (h1 : tabled c i = 0) (h2 : 1 ≤ s ∧ s ≤ 4) : (Share c i s).2.2 = 0 ∧ (Share c i s).1 = shareLo (c.tables.getD i.toNat default) s / 1000 ∧ (Share c i s).2.1 = up (shareHi (c.tables.getD i.toNat default) s) 1000 := by
  unfold Share
  rw [if_neg (by omega), if_neg (by omega)]
  exact ⟨rfl, rfl, rfl⟩
end Go.Proofs.Ytjhecgiipajdpaa
end
section

namespace Go.Proofs.Ytjhecgiipajdpaa
structure Brighter (t : Table) (V : List (List Int)) : Prop where
  len : V.length = t.values.length
  rows : ∀ a : Nat, a < t.values.length → (V.getD a []).length = (t.values.getD a []).length
  vals : ∀ a b : Nat, a < t.values.length → b < (t.values.getD a []).length → val t.values a b ≤ val V a b ∧ val V a b ≤ 10000000
abbrev Table.withV (t : Table) (V : List (List Int)) : Table := ⟨t.name, t.us, t.vs, V, t.side, t.sky⟩
abbrev brc (c : Cat) (n : Nat) (V : List (List Int)) : Cat := ⟨c.tables.set n ((c.tables.getD n default).withV V), c.lamps⟩
theorem Brighter.good {t : Table} {V : List (List Int)} (h : Brighter t V) (g : Good t) : Good (t.withV V) where
  ul := g.ul
  vl := g.vl
  ur := g.ur
  vr := g.vr
  ui := g.ui
  vi := g.vi
  vn := h.len.trans g.vn
  rows a ha := by
    have ha' : a < t.us.length := ha
    show (V.getD a []).length = t.vs.length
    rw [h.rows a (by rw [g.vn]; exact ha'), g.rows a ha']
  vals a b ha hb := by
    have ha' : a < t.us.length := ha
    have hb' : b < t.vs.length := hb
    have := g.vals a b ha' hb'
    have := h.vals a b (by rw [g.vn]; exact ha') (by rw [g.rows a ha']; exact hb')
    show 0 ≤ val V a b ∧ val V a b ≤ 10000000
    omega
  side := g.side
theorem Brighter.err {t : Table} {V : List (List Int)} (h : Brighter t V) (he : tableErr t = 0) : tableErr (t.withV V) = 0 := by
  have g := h.good (Good.of he)
  unfold tableErr at he ⊢
  split at he; · omega
  split at he; · omega
  split at he; · omega
  split at he; · omega
  split at he; · omega
  rename_i h1 h2 h3 h4 h5
  rw [if_neg h1, if_neg h2, if_neg h3, if_neg ?_, if_neg ?_]
  · rintro (h6 | h6)
    · have := (rows_any (v := V) (m := t.vs.length) fun a ha => g.rows a (by rw [← g.vn]; exact ha)).2 fun a b ha hb => g.vals a b (by rw [← g.vn]; exact ha) hb
      rw [this] at h6; cases h6
    · exact h5 (.inr h6)
  · rintro (h6 | h6)
    · exact h6 (by have := g.vn; exact congrArg _ this)
    · rw [List.any_eq_true] at h6
      obtain ⟨l, hl, h7⟩ := h6
      obtain ⟨a, ha⟩ := List.getElem?_of_mem (show l ∈ V from hl)
      have hal := (List.getElem?_eq_some_iff.1 ha).1
      have := g.rows a (by rw [← g.vn]; exact hal)
      have e : V.getD a [] = l := by rw [List.getD_eq_getElem?_getD, ha]; rfl
      have e2 : (t.withV V).values.getD a [] = l := e
      rw [e2] at this
      have := of_decide_eq_true h7
      omega
theorem getD_setT (l : List Table) (i q : Nat) (v : Table) (hi : i < l.length) : (l.set i v).getD q default = if q = i then v else l.getD q default := by
  rw [List.getD_eq_getElem?_getD, List.getElem?_set]
  by_cases h : q = i
  · subst h
    rw [if_pos rfl, if_pos rfl, if_pos hi]; rfl
  · rw [if_neg (Ne.symm h), if_neg h, List.getD_eq_getElem?_getD]
theorem any_nameT (l : List Table) (m : ByteArray) : l.any (fun y => decide (y.name = m)) = (l.map Table.name).any fun z => decide (z = m) := by
  rw [List.any_map]; rfl
theorem errOf_zero' {n : ByteArray} {b : Bool} {e : Int} (h : errOf n b e = 0) : e = 0 := by
  unfold errOf at h
  split at h; · omega
  split at h; · omega
  exact h
theorem Brighter.check {c : Cat} {n : Nat} {V : List (List Int)} (hn : n < c.tables.length) (h : Brighter (c.tables.getD n default) V) (hc : (check c).2.2 = 0) : (check (brc c n V)).2.2 = 0 := by
  unfold Go.Proofs.Ytjhecgiipajdpaa.check at hc
  split at hc; · exact absurd hc (by decide)
  split at hc; · rename_i h1; exact absurd hc h1
  split at hc; · rename_i h1; exact absurd hc h1
  rename_i h1 h2 h3
  have ln : (brc c n V).tables.length = c.tables.length := List.length_set
  have n0 := firstErr_zero _ _ (Decidable.not_not.1 h2)
  have names : (brc c n V).tables.map Table.name = c.tables.map Table.name := by
    show (c.tables.set n _).map Table.name = _
    rw [List.map_set]
    apply List.ext_getElem?
    intro q
    by_cases hq : n = q
    · subst hq
      rw [List.getElem?_set_self (by rw [List.length_map]; exact hn), List.getElem?_map, List.getD_eq_getElem?_getD, List.getElem?_eq_getElem hn]
      rfl
    · rw [List.getElem?_set_ne hq]
  have e2 : (tabsErr (brc c n V).tables).2 = 0 := by
    unfold tabsErr
    rw [firstErr_none _ _ fun i _ hi => ?_]
    have hif : i < c.tables.length := by rw [← ln]; omega
    have hz := n0 i (Nat.zero_le _) (by omega)
    have hg : (brc c n V).tables.getD i default = if i = n then (c.tables.getD n default).withV V else c.tables.getD i default := getD_setT _ _ _ _ hn
    have hname : ((brc c n V).tables.getD i default).name = (c.tables.getD i default).name := by
      rw [hg]
      split
      · rename_i e; subst e; rfl
      · rfl
    have hdup : (((brc c n V).tables.take i).any fun y => decide (y.name = ((brc c n V).tables.getD i default).name)) = ((c.tables.take i).any fun y => decide (y.name = (c.tables.getD i default).name)) := by
      rw [any_nameT, any_nameT, List.map_take, List.map_take, names, hname]
    unfold tabErr at hz ⊢
    rw [hdup, hname]
    have hn0 := errOf_zero' hz
    have key : tableErr ((brc c n V).tables.getD i default) = 0 := by
      rw [hg]
      split
      · rename_i e; subst e; exact h.err hn0
      · exact hn0
    rw [key, ← hn0]
    exact hz.trans hn0.symm
  unfold Go.Proofs.Ytjhecgiipajdpaa.check
  rw [ln, if_neg h1, if_neg (fun hh => hh e2)]
  show (if (lmpsErr (c.tables.length : Int) c.lamps).2 ≠ 0 then _ else _ : Int × Int × Int).2.2 = 0
  rw [if_neg h3]
theorem brc_get (c : Cat) {n : Nat} (V : List (List Int)) (hn : n < c.tables.length) : (brc c n V).tables.getD n default = (c.tables.getD n default).withV V := by
  show (c.tables.set n _).getD n default = _
  rw [getD_setT _ _ _ _ hn, if_pos rfl]
theorem Brighter.tabled {c : Cat} {n : Nat} {V : List (List Int)} (hn : n < c.tables.length) (h : Brighter (c.tables.getD n default) V) (hc : (Go.Proofs.Ytjhecgiipajdpaa.check c).2.2 = 0) : Go.Proofs.Ytjhecgiipajdpaa.tabled c (n : Int) = 0 ∧ Go.Proofs.Ytjhecgiipajdpaa.tabled (brc c n V) (n : Int) = 0 := by
  have ln : (brc c n V).tables.length = c.tables.length := List.length_set
  unfold Go.Proofs.Ytjhecgiipajdpaa.tabled
  rw [if_neg (by omega), if_neg (by rw [ln]; omega)]
  exact ⟨hc, h.check hn hc⟩
theorem side_mono {t : Table} {us vs : List Int} (g : GoodV t us vs) {V : List (List Int)} (h : Brighter t V) {a k : Nat} {v : Int} (ha : a < us.length) (hk : In1 vs k v) :
    sideLo t.values vs a k v ≤ sideLo V vs a k v ∧ sideHi t.values vs a k v ≤ sideHi V vs a k v := by
  have st := hk.step g.vi
  have r := g.rows a ha
  have v0 := h.vals a k (by rw [g.vn]; exact ha) (by rw [r]; have := hk.1; omega)
  have v1 := h.vals a (k + 1) (by rw [g.vn]; exact ha) (by rw [r]; exact hk.1)
  have m : sideN t.values vs a k v ≤ sideN V vs a k v := ip_mono v0.1 v1.1 hk.2.1 hk.2.2
  exact ⟨Int.ediv_le_ediv st m, up_mono_num st m⟩
theorem at_mono {t : Table} {us vs : List Int} (g : GoodV t us vs) {V : List (List Int)} (h : Brighter t V) (u v : Int) : atLo t us vs u v ≤ atLo (t.withV V) us vs u v ∧ atHi t us vs u v ≤ atHi (t.withV V) us vs u v := by
  unfold atLo atHi
  by_cases hb : hasB us vs u v = true
  · rw [if_pos hb, if_pos hb, if_pos hb, if_pos hb]
    obtain ⟨iu, iv⟩ := In1.of_has g hb
    have su := iu.step g.ui
    have a0 := side_mono g h (a := fld us u) (by have := iu.1; omega) iv
    have a1 := side_mono g h (a := fld us u + 1) iu.1 iv
    exact ⟨Int.ediv_le_ediv su (ip_mono a0.1 a1.1 iu.2.1 iu.2.2), up_mono_num su (ip_mono a0.2 a1.2 iu.2.1 iu.2.2)⟩
  · rw [if_neg hb, if_neg hb, if_neg hb, if_neg hb]
    exact ⟨Int.le_refl _, Int.le_refl _⟩
theorem brighter_int {c : Cat} {n : Nat} {V : List (List Int)} (hn : n < c.tables.length) (h : Brighter (c.tables.getD n default) V) (hc : (check c).2.2 = 0) (X Y H : Int) :
    (Intensity c (n : Int) X Y H).2.2 = (Intensity (brc c n V) (n : Int) X Y H).2.2 ∧ (Intensity c (n : Int) X Y H).1 ≤ (Intensity (brc c n V) (n : Int) X Y H).1 ∧ (Intensity c (n : Int) X Y H).2.1 ≤ (Intensity (brc c n V) (n : Int) X Y H).2.1 := by
  obtain ⟨t1, t2⟩ := h.tabled hn hc
  have g := (check_ok hc).2.2.1 n hn
  unfold Intensity
  rw [if_neg (show ¬ (tabled c (n : Int) ≠ 0) from fun hh => hh t1), if_neg (show ¬ (tabled (brc c n V) (n : Int) ≠ 0) from fun hh => hh t2)]
  by_cases hr : rectErr X X Y Y H ≠ 0
  · rw [if_pos hr, if_pos hr]
    exact ⟨rfl, Int.le_refl _, Int.le_refl _⟩
  · rw [if_neg hr, if_neg hr, show ((n : Int)).toNat = n from rfl, brc_get c V hn]
    have hH : 1 ≤ H ∧ H ≤ 30000 := by
      have e := Decidable.not_not.1 hr
      unfold rectErr at e
      split at e
      · omega
      · rename_i h1
        exact Decidable.not_not.1 fun h2 => h1 (.inl h2)
    exact ⟨rfl, at_mono (g.view hH) h _ _⟩
theorem Brighter.min4 {t : Table} {V : List (List Int)} (h : Brighter t V) (g : Good t) {i k : Nat} (hi : i + 1 < t.us.length) (hk : k + 1 < t.vs.length) : min4 t.values i k ≤ min4 V i k ∧ max4 t.values i k ≤ max4 V i k := by
  have r0 := g.rows i (by omega)
  have r1 := g.rows (i + 1) hi
  have n := g.vn
  have a := h.vals i k (by omega) (by omega)
  have b := h.vals i (k + 1) (by omega) (by omega)
  have c := h.vals (i + 1) k (by omega) (by omega)
  have d := h.vals (i + 1) (k + 1) (by omega) (by omega)
  unfold Go.Proofs.Ytjhecgiipajdpaa.min4 max4
  omega
theorem share_mono {t : Table} {V : List (List Int)} (h : Brighter t V) (g : Good t) {s : Int} (hs : 0 < s) : shareLo t s ≤ shareLo (t.withV V) s ∧ shareHi t s ≤ shareHi (t.withV V) s := by
  have p : ∀ i k m n : Nat, i < t.us.length - 1 → k < t.vs.length - 1 → m < s.toNat → n < s.toNat → pLo t s i k m n ≤ pLo (t.withV V) s i k m n ∧ pHi t s i k m n ≤ pHi (t.withV V) s i k m n := by
    intro i k m n hi hk hm hn
    have v := h.min4 g (i := i) (k := k) (by omega) (by omega)
    have ru := uA_rg g hs (i := i) (m := m) (by omega) (by omega)
    have rv := vA_rg g hs (k := k) (n := n) (by omega) (by omega)
    exact ⟨pieceLo_mono v.1 ru rv, pieceHi_mono v.2 ru rv⟩
  constructor
  · unfold shareLo
    refine sumN_le fun i hi => ?_
    unfold iLo
    refine sumN_le fun k hk => ?_
    unfold kLo
    refine sumN_le fun m hm => ?_
    unfold mLo
    exact sumN_le fun n hn => (p i k m n hi hk hm hn).1
  · unfold shareHi
    refine sumN_le fun i hi => ?_
    unfold iHi
    refine sumN_le fun k hk => ?_
    unfold kHi
    refine sumN_le fun m hm => ?_
    unfold mHi
    exact sumN_le fun n hn => (p i k m n hi hk hm hn).2
theorem brighter_share {c : Cat} {n : Nat} {V : List (List Int)} (hn : n < c.tables.length) (h : Brighter (c.tables.getD n default) V) (hc : (check c).2.2 = 0) :
    (Share c (n : Int) 1).2.2 = 0 ∧ (Share (brc c n V) (n : Int) 1).2.2 = 0 ∧ (Share c (n : Int) 1).1 ≤ (Share (brc c n V) (n : Int) 1).1 ∧ (Share c (n : Int) 1).2.1 ≤ (Share (brc c n V) (n : Int) 1).2.1 := by
  obtain ⟨t1, t2⟩ := h.tabled hn hc
  have g := (check_ok hc).2.2.1 n hn
  have e1 := share_eq t1 (s := 1) (by decide)
  have e2 := share_eq t2 (s := 1) (by decide)
  have m := share_mono h g (s := 1) (by decide)
  rw [e1.2.1, e1.2.2, e2.2.1, e2.2.2, show ((n : Int)).toNat = n from rfl, brc_get c V hn]
  exact ⟨e1.1, e2.1, Int.ediv_le_ediv (by decide) m.1, up_mono_num (by decide) m.2⟩
theorem brc_ok {c : Cat} (hok : c.ok) {n : Nat} {V : List (List Int)} (hn : n < c.tables.length) (h : Brighter (c.tables.getD n default) V) : (brc c n V).ok := by
  obtain ⟨h1, h2, h3, h4⟩ := hok
  refine ⟨by show ((c.tables.set n _).length : Int) ≤ _; rw [List.length_set]; exact h1, h2, fun t ht => ?_, h4⟩
  rcases List.mem_or_eq_of_mem_set (show t ∈ c.tables.set n _ from ht) with h5 | rfl
  · exact h3 t h5
  · obtain ⟨k1, k2, k3, k4, k5⟩ := h3 _ (getD_mem (d := default) hn)
    refine ⟨k1, k2, k3, by show (V.length : Int) ≤ _; rw [h.len]; exact k4, fun l hl => ?_⟩
    obtain ⟨a, ha⟩ := List.getElem?_of_mem (show l ∈ V from hl)
    have hal := (List.getElem?_eq_some_iff.1 ha).1
    have hat : a < (c.tables.getD n default).values.length := by rw [← h.len]; exact hal
    have e : V.getD a [] = l := by rw [List.getD_eq_getElem?_getD, ha]; rfl
    have := h.rows a hat
    rw [e] at this
    rw [this]
    exact k5 _ (getD_mem (d := []) hat)
def SoFar (t : Table) (V : List (List Int)) (i : Nat) : Prop := V.length = i ∧ ∀ a : Nat, a < i → (V.getD a []).length = (t.values.getD a []).length ∧ ∀ b : Nat, b < (t.values.getD a []).length → val t.values a b ≤ val V a b ∧ val V a b ≤ 10000000
def RowSo (t : Table) (i : Nat) (l : List Int) (k : Nat) : Prop := l.length = k ∧ ∀ b : Nat, b < k → val t.values i b ≤ l.getD b 0 ∧ l.getD b 0 ≤ 10000000
theorem row_zero (t : Table) (i : Nat) : RowSo t i [] 0 := ⟨rfl, fun b hb => by omega⟩
theorem row_step {t : Table} {i k : Nat} {l : List Int} {x : Int} (h : RowSo t i l k) (hx : val t.values i k ≤ x ∧ x ≤ 10000000) : RowSo t i (l ++ [x]) (k + 1) := by
  obtain ⟨h1, h2⟩ := h
  refine ⟨by simp [h1], fun b hb => ?_⟩
  rcases Nat.lt_or_ge b k with h3 | h3
  · have := h2 b h3
    rw [List.getD_eq_getElem?_getD, List.getElem?_append_left (by omega), ← List.getD_eq_getElem?_getD]
    exact this
  · have : b = k := by omega
    subst this
    rw [List.getD_eq_getElem?_getD, List.getElem?_append_right (by omega), h1]
    simpa using hx
theorem so_zero (t : Table) : SoFar t [] 0 := ⟨rfl, fun a ha => by omega⟩
theorem so_step {t : Table} {V : List (List Int)} {i k : Nat} {l : List Int} (h : SoFar t V i) (hl : RowSo t i l k) (hk : k = (t.values.getD i []).length) : SoFar t (V ++ [l]) (i + 1) := by
  obtain ⟨h1, h2⟩ := h
  refine ⟨by simp [h1], fun a ha => ?_⟩
  rcases Nat.lt_or_ge a i with h3 | h3
  · have e : (V ++ [l]).getD a [] = V.getD a [] := by
      rw [List.getD_eq_getElem?_getD, List.getElem?_append_left (by omega), ← List.getD_eq_getElem?_getD]
    have := h2 a h3
    unfold val at this ⊢
    rw [e]
    exact this
  · have : a = i := by omega
    subst this
    have e : (V ++ [l]).getD a [] = l := by
      rw [List.getD_eq_getElem?_getD, List.getElem?_append_right (by omega), h1]; simp
    unfold val
    rw [e]
    exact ⟨hl.1.trans hk, fun b hb => hl.2 b (by omega)⟩
theorem so_end {t : Table} {V : List (List Int)} {i : Nat} (h : SoFar t V i) (hi : i = t.values.length) : Brighter t V := by
  subst hi
  exact ⟨h.1, fun a ha => (h.2 a ha).1, fun a b ha hb => (h.2 a ha).2 b hb⟩
end Go.Proofs.Ytjhecgiipajdpaa
end
section

namespace Go.Proofs.Ytjhecgiipajdpaa
open Go.RowKit
section
variable {F : Fence} {P : Program} {nt : Nat} {S : St} {Q : Exit → St → Prop}
theorem AC.sealed {c : Code} (t p s off : Nat) (cs : List AV) (h : getT S.env t = .ptr s off) (hp : S.mem[p]? = some (.box s cs)) (k : AC F P nt c ⟨(t, .eptr (.agg cs) off) :: S.env, S.mem.set p .hole⟩ Q) (ht : Nat.blt t nt = true) : AC F P nt c S Q := by
  intro g w a hid hr
  have hpl : p < S.mem.length := (List.getElem?_eq_some_iff.1 hp).1
  have hat : (S.mem ++ hid.map Ent.mark)[p]? = some (.box s cs) := by rw [List.getElem?_append_left hpl]; exact hp
  have h0 := hr.eval (c := t) (by simpa [Nat.blt_eq] using ht)
  rw [h] at h0
  generalize a.eval (.tmp t) = u at h0
  cases h0 with
  | ptr hs =>
    rename_i b
    obtain ⟨R1, R2, R3, R4⟩ := hr
    obtain ⟨arr, tt, k1, k2, k3, k4, k5⟩ := box_cell R4 hat hs
    have hext : Ext g w (g.sealed b) w := ⟨rfl, Below.refl _ _, fun b o ho => ⟨.inl ho, rfl⟩, fun s _ _ => rfl, fun s hs => by cases hs⟩
    have hlt := (Array.getElem?_eq_some_iff.1 k1).1
    have hinv := R4.set hext p .hole (fun i ei b' hi hne hb => ⟨rfl, fun o ho => by
        rcases ho with ho | ho
        · exact ho
        · subst ho
          exact absurd (R4.apart i p ei _ _ hi hat hb (by simp [Ent.block, hs, symBlock])) hne, by simp [Ent.block]⟩) trivial
      (fun b' o ho => by
        rcases ho with ho | ho
        · exact R4.lt _ _ ho
        · subst ho; exact hlt) R4.room
    rw [List.set_append_left _ _ hpl] at hinv
    have hr' : Rel nt (g.sealed b) w a ⟨(t, .eptr (.agg cs) off) :: S.env, S.mem.set p .hole⟩ hid := by
      refine ⟨R1, R2, fun x v hx => ?_, hinv⟩
      show Rep (g.sealed b) w v (if x = t then _ else getT S.env x)
      have h0 := R3 x v hx
      split
      · rename_i hxt
        rw [hxt, h] at h0
        cases h0 with
        | ptr hs2 =>
          rename_i b2
          rw [hs] at hs2
          injection hs2 with hs2
          subst hs2
          have := Rep.eptr (g := g.sealed b) (w := w) (b := b) (o := 0) (off := off) (e := .agg cs) (fun j => arr.getD j undef) (fun j c hj => ⟨?_, .inr rfl⟩) (fun j c hj => ?_)
          · rw [Nat.zero_add] at this; exact this
          · have hlt : j < arr.size := by rw [k3.1]; exact (List.getElem?_eq_some_iff.1 hj).1
            rw [Nat.zero_add, k5 j arr[j] (Array.getElem?_eq_getElem hlt)]
            simp [Array.getD_eq_getD_getElem?, hlt]
          · have hlt : j < arr.size := by rw [k3.1]; exact (List.getElem?_eq_some_iff.1 hj).1
            have := (k3.stab hext).2 j arr[j] c (Array.getElem?_eq_getElem hlt) hj
            simpa [Array.getD_eq_getD_getElem?, hlt] using this
      · exact h0.stab hext
    exact wpIn_mono (k _ w a hid hr') fun ex a' w' ⟨g2, S2, hid2, h1, h2, h3⟩ => ⟨g2, S2, hid2, h1, hext.trans h2, h3⟩
end
section
variable {P : Program} {ops : Array Oper} {ty : TypeId} {pos : String} {aft : Array Edge} {d : Nat}
def rows (cs : List AV) (off n : Nat) : Nat → List AV
  | 0 => []
  | k + 1 => .agg ((cs.drop off).take n) :: rows cs (off + n) n k
end
section
variable {P : Program}
def EqD (P : Program) (d : Nat) (t : TypeId) (x y : Value) (r : Bool) : Prop := ∀ w, (Op.equalIn d t x y).run P w = .ok r w
theorem EqD.int {t : TypeId} {k : IntKind} (h : P.underlying t = some (.int k)) (d : Nat) (k' : IntKind) (a b : Int) : EqD P (d + 1) t (.int k' a) (.int k' b) (decide (a = b)) := fun w => by
  rw [run_eq_int h d k' a b w]
  congr 1
theorem EqD.bool {t : TypeId} (h : P.underlying t = some .bool) (d : Nat) (a b : Bool) : EqD P (d + 1) t (.bool a) (.bool b) (a == b) := fun w => run_eq_bool h d a b w
theorem EqD.str {t : TypeId} (h : P.underlying t = some .string) (d : Nat) (a b : ByteArray) : EqD P (d + 1) t (.string a) (.string b) (decide (a = b)) := fun w => by
  rw [run_equalIn_string w d t a b h, bytes_beq]
def PartD (P : Program) (t : TypeId) (xs : Array Value) (off : Nat) (v : Value) : Prop := ∀ w, (part t xs off).run P w = .ok v w
theorem PartD.one {t : TypeId} (ht : TyS P t) {xs : Array Value} {off : Nat} {v : Value} (h : xs[off]? = some v) : PartD P t xs off v := fun w => run_part1 ht h w
theorem PartD.agg {t n : Nat} (ht : TyA P t n) {xs : Array Value} {off : Nat} {v : Array Value} (h : xs.extract off (off + n) = v) (hl : Nat.ble (off + n) xs.size = true) : PartD P t xs off (.agg v) := fun w => by
  have hl' := Nat.le_of_ble_eq_true hl
  obtain ⟨ds, h1, h2, h3⟩ := ht
  unfold part
  simp only [Sem.run_bind, run_aggr ⟨ds, h1, h2, h3⟩, run_size h3, Result.andThen_ok, if_true]
  simp [hl', h]
inductive EqFs (P : Program) (d : Nat) (xs ys : Array Value) : List Field → Bool → Prop
  | nil : EqFs P d xs ys [] true
  | cons {f : Field} {fs : List Field} {a b : Value} {r1 r2 : Bool} (hn : f.name ≠ "_") (h1 : PartD P f.type xs f.offset a) (h2 : PartD P f.type ys f.offset b) (h3 : EqD P d f.type a b r1) (h4 : EqFs P d xs ys fs r2) : EqFs P d xs ys (f :: fs) (r1 && r2)
theorem EqFs.run {d : Nat} {xs ys : Array Value} {fs : List Field} {r : Bool} (h : EqFs P d xs ys fs r) (w : World) : (Op.eqFields d xs ys fs).run P w = .ok r w := by
  induction h with
  | nil => rfl
  | cons hn h1 h2 h3 h4 ih =>
    rename_i r1 r2
    unfold Op.eqFields
    rw [if_pos hn]
    simp only [Sem.run_bind, h1 w, h2 w, h3 w, Result.andThen_ok]
    cases r1 with
    | true => simpa using ih
    | false => simp [Sem.run_pure]
theorem EqD.struct {t : TypeId} {fs : Array Field} {d : Nat} {xs ys : Array Value} {r : Bool} (ht : P.underlying t = some (.struct fs)) (hs : P.stoodInHeld t = false) (h : EqFs P d xs ys fs.toList r) : EqD P (d + 1) t (.agg xs) (.agg ys) r := fun w => by
  have hf : P.fieldsOf t = fs := by unfold Program.fieldsOf; rw [ht]
  rw [run_equalIn_struct w d t xs ys (by rw [hf]; exact ht) hs, hf]
  exact h.run w
theorem EqT.of {t : TypeId} {x y : AV} {r : Bool} (h : EqD P 10000 t (conc x) (conc y) r) (hg : ∀ w op o p, (eqGuard op t o p (conc x) (conc y)).run P w = .ok () w) : EqT P t x y r := fun w => ⟨h w, hg w⟩
end
end Go.Proofs.Ytjhecgiipajdpaa
end
section

namespace Go.Proofs.Ytjhecgiipajdpaa
open Go.RowKit
def Arr (L m : List Ent) : Prop := ∀ g w tail, Inv g w (L ++ tail) → Inv g w (m ++ tail)
theorem Arr.refl (L : List Ent) : Arr L L := fun g w tail h => h
theorem Arr.trans {a b c : List Ent} (h : Arr a b) (k : Arr b c) : Arr a c := fun g w tail hi => k g w tail (h g w tail hi)
theorem Arr.cons (e : Ent) {a b : List Ent} (h : Arr a b) : Arr (e :: a) (e :: b) := fun g w tail hi => by
  have h1 : Inv g w (a ++ (e :: tail)) := hi.perm (List.perm_middle (l₁ := a) (l₂ := tail) (a := e)).symm
  exact (h g w (e :: tail) h1).perm (List.perm_middle (l₁ := b) (l₂ := tail) (a := e))
theorem Arr.take {L : List Ent} {p : Nat} {e : Ent} (h : L[p]? = some e) : Arr L (e :: L.set p .hole) := fun g w tail hi => by
  have hlt : p < L.length := (List.getElem?_eq_some_iff.1 h).1
  have h1 : Inv g w (.hole :: (L ++ tail)) := by simpa using hi.holes 1
  refine h1.perm ?_
  rw [List.cons_append, ← List.set_append_left _ _ hlt]
  exact set_perm (by rw [List.getElem?_append_left hlt]; exact h)
theorem Arr.put {L : List Ent} {p : Nat} {e : Ent} (h : L[p]? = some .hole) : Arr (e :: L) (L.set p e) := fun g w tail hi =>
  Move.cons (new := []) p h (Move.nil _) g w tail hi
theorem MeetsT.arr {P : Program} {n : FuncId} {args : List AV} {L m : List Ent} {R R' : AV → List Ent → Prop} (ha : Arr L m) (h : MeetsT P n args m R) (hR : ∀ r m', R r m' → ∃ L', Arr m' L' ∧ R' r L') : MeetsT P n args L R' := by
  intro tail g w vs hi hr
  refine (h tail g w vs (ha g w tail hi) hr).mono ?_
  rintro e w' ⟨v, r, mm, g', he, ⟨m', rfl, hRr⟩, h1, h2, h3⟩
  obtain ⟨L', ha', hr'⟩ := hR r m' hRr
  exact ⟨v, r, L' ++ tail, g', he, ⟨L', rfl, hr'⟩, h1, ha' g' w' tail h2, h3⟩
theorem Yields.arr {P : Program} {l : Nat} {args : List AV} {L m : List Ent} {R R' : AV → List Ent → Prop} (ha : Arr m L) (h : Yields P l args L R') (hR : ∀ r L', R' r L' → ∃ m', Arr L' m' ∧ R r m') : Yields P l args m R := by
  intro tail g w vs hi hr
  obtain ⟨f, tmps, as_, bo, h1, h2⟩ := h tail g w vs (ha g w tail hi) hr
  refine ⟨f, tmps, as_, bo, h1, fun F hF => (h2 F hF).mono ?_⟩
  rintro e w' ⟨v, r, L', g', he, hRr, k1, k2, k3⟩
  obtain ⟨m', ha', hr'⟩ := hR r L' hRr
  exact ⟨v, r, m', g', he, hr', k1, ha' g' w' tail k2, k3⟩
end Go.Proofs.Ytjhecgiipajdpaa
end
section

namespace Go.Proofs.Ytjhecgiipajdpaa
open Go.RowKit
def MapIs (es : List (AV × AV)) (o : Obj) : Prop := ∃ a c, o = .map a c ∧ a.toList.map (fun e => (e.key, e.val)) = es.map (fun p => (conc p.1, conc p.2))
theorem Inv.newObj {g : Gh} {w : World} {mem : List Ent} (h : Inv g w mem) {s p : Nat} (hs : g.sy s = .held) (hp : p < mem.length) (o : Obj) {φ : Obj → Prop} (hc : φ o) :
    Stab (some s) g w (g.put s (.blk w.heap.size)) (w.alloc o) ∧ Inv (g.put s (.blk w.heap.size)) (w.alloc o) (mem.set p (.obj s φ)) ∧ (g.put s (.blk w.heap.size)).sy s = .blk w.heap.size := by
  have hst := stab_alloc h hs (.blk w.heap.size) o
  have hsy : (g.put s (.blk w.heap.size)).sy s = .blk w.heap.size := by show (if s = s then _ else _) = _; rw [if_pos rfl]
  refine ⟨hst, h.set hst p _ ?_ ?_ (fun b o hi => by have := h.lt b o hi; simp; omega) (put_room h.room), hsy⟩
  · intro i e b hi hne hb
    have hlt := (h.ok e (List.mem_of_getElem? hi)).block_lt hb
    refine ⟨alloc_old w _ hlt.2, fun _ hh => hh, ?_⟩
    simp only [Ent.block, hsy, symBlock]
    intro e
    injection e with e
    omega
  · exact ⟨w.heap.size, o, hsy, h.base, alloc_new w _, hc, fun o ho => by have := h.lt _ _ ho; omega⟩
theorem putO_other (w : World) (l : Nat) (o : Obj) {b : Nat} (h : b ≠ l) : (World.putO w l o).heap[b]? = w.heap[b]? := by
  show (w.heap.setIfInBounds l _)[b]? = _
  rw [Array.getElem?_setIfInBounds_ne (Ne.symm h)]
theorem Inv.setObj {g : Gh} {w : World} {mem : List Ent} (h : Inv g w mem) {s p b : Nat} {φ ψ : Obj → Prop} (hp : mem[p]? = some (.obj s φ)) (hb : g.sy s = .blk b) (o : Obj) (ho : ψ o) :
    Ext g w g (World.putO w b o) ∧ Inv g (World.putO w b o) (mem.set p (.obj s ψ)) := by
  obtain ⟨b', o', h1, h2, h3, h4, h5⟩ := h.ok _ (List.mem_of_getElem? hp)
  rw [hb] at h1
  injection h1 with h1
  subst h1
  have hlt : b < w.heap.size := (Array.getElem?_eq_some_iff.1 h3).1
  have hst : Ext g w g (World.putO w b o) :=
    ⟨rfl, ⟨rfl, rfl, rfl, by simp [World.putO], fun k hk => putO_other w b _ (by omega)⟩, fun c oo hi => ⟨hi, by
      have hne : c ≠ b := fun e => by subst e; exact h5 oo hi
      simp only [World.cell?, putO_other w b _ hne]⟩, fun _ _ _ => rfl, fun s hs => by cases hs⟩
  refine ⟨hst, h.set hst p _ ?_ ?_ (fun c oo ho => by simpa [World.putO] using h.lt c oo ho) h.room⟩
  · intro i e c hie hne hec
    have hne' : c ≠ b := by
      intro e'
      subst e'
      exact hne (h.apart i p e _ c hie hp hec (by simp [Ent.block, hb, symBlock]))
    refine ⟨putO_other w b _ hne', fun _ h => h, ?_⟩
    simp only [Ent.block, hb, symBlock]
    intro e'
    injection e' with e'
    exact hne' e'.symm
  · refine ⟨b, o, hb, h2, ?_, ho, h5⟩
    show (w.heap.setIfInBounds b _)[b]? = _
    rw [Array.getElem?_setIfInBounds_self_of_lt hlt]
section
variable {P : Program} {ops : Array Oper} {ty : TypeId} {pos : String} {aft : Array Edge} {d : Nat}
theorem MapIs.at {g : Gh} {w : World} {mem : List Ent} (hi : Inv g w mem) {p s b : Nat} {es : List (AV × AV)} (hp : mem[p]? = some (.obj s (MapIs es))) (hb : g.sy s = .blk b) :
    ∃ a c, w.heap[b]? = some (.map a c) ∧ a.toList.map (fun e => (e.key, e.val)) = es.map (fun p => (conc p.1, conc p.2)) := by
  obtain ⟨b', o', h1, h2, h3, ⟨a, c, rfl, h4⟩, h5⟩ := hi.ok _ (List.mem_of_getElem? hp)
  rw [hb] at h1
  injection h1 with h1
  subst h1
  exact ⟨a, c, h3, h4⟩
end
theorem Opd.free {o : Operand} {es : List AV} {own : Option Nat} {l : List (Nat × AV)} (h : Opd o (.slice es own) l) : Opd o (.slice es none) l := fun g w a hT => by
  have h2 := h g w a hT
  generalize a.eval o = u at h2
  cases h2 with
  | slice b o vals hl hA hsz hc hr hle how => exact .slice b o vals hl hA hsz hc hr hle (fun s hs => by cases hs)
end Go.Proofs.Ytjhecgiipajdpaa
end
section

namespace Go.Proofs.Ytjhecgiipajdpaa
open Go.RowKit
def RegOKD (P : Program) (nt : Nat) (ops : Array Oper) (l : List Oper) (S : St) (σ : Nat → Nat) (next : St → Prop) : Prop :=
  ∃ sps ks Fin, Steps P ops l sps ∧ getsT sps S = wantsT sps ∧ getsM sps S = wantsM sps ∧ placesM sps S.mem = true ∧ needsM sps S ∧ chk nt true l sps = true ∧
    sps.map Spec.sym = symL (sps.map fun sp => sp.sym.isSome) σ 0 ∧ keepSt ks (finSt sps S) = Fin ∧ next Fin
theorem RegOKD.mk {P : Program} {nt : Nat} {ops : Array Oper} {l : List Oper} {S : St} {σ : Nat → Nat} {next : St → Prop} {sps : List Spec} (ks : List Nat) (Fin : St) (h1 : Steps P ops l sps) (h2 : getsT sps S = wantsT sps) (h3 : getsM sps S = wantsM sps)
    (h4 : placesM sps S.mem = true) (h4' : needsM sps S) (h5 : chk nt true l sps = true) (h6 : sps.map Spec.sym = symL (sps.map fun sp => sp.sym.isSome) σ 0) (h7 : keepSt ks (finSt sps S) = Fin) (h8 : next Fin) : RegOKD P nt ops l S σ next :=
  ⟨sps, ks, Fin, h1, h2, h3, h4, h4', h5, h6, h7, h8⟩
theorem RegOKD.m1 {P : Program} {nt : Nat} {ops : Array Oper} {l : List Oper} {S : St} {σ : Nat → Nat} {next : St → Prop} {sps : List Spec} (ks : List Nat) (Fin : St) (h1 : Steps P ops l sps) (h8 : next Fin) (h2 : getsT sps S = wantsT sps := by kernel_rfl) (h3 : getsM sps S = wantsM sps := by kernel_rfl)
    (h4 : placesM sps S.mem = true := by kernel_rfl) (h4' : noNeeds sps = true := by kernel_rfl) (h5 : chk nt true l sps = true := by kernel_rfl) (h6 : sps.map Spec.sym = symL (sps.map fun sp => sp.sym.isSome) σ 0 := by kernel_rfl) (h7 : keepSt ks (finSt sps S) = Fin := by kernel_rfl) : RegOKD P nt ops l S σ next := .mk ks Fin h1 h2 h3 h4 (noNeeds_of _ _ h4') h5 h6 h7 h8
end Go.Proofs.Ytjhecgiipajdpaa
end
section

namespace Go.Proofs.Ytjhecgiipajdpaa
open Go.RowKit
theorem rep_free {g : Gh} {w : World} {u : Value} {es : List AV} {own : Option Nat} (h : Rep g w u (.slice es own)) : Rep g w u (.slice es none) := by
  cases h with
  | slice b o vals hl hA hsz hc hr hle how => exact .slice b o vals hl hA hsz hc hr hle (fun s hs => by cases hs)
theorem rep_nils {g : Gh} {w : World} {u : Value} (h : Rep g w u .nils) : Rep g w u (.slice [] none) := by
  cases h
  exact .slice 0 0 (fun _ _ => undef) rfl (fun h => absurd rfl h) (sz := 0) (fun e he => by cases he) (fun i e j c h => by simp at h) (fun i e j c h => by simp at h) (Nat.le_refl _) (fun s hs => by cases hs)
section
variable {F : Fence} {P : Program} {nt : Nat} {S : St} {Q : Exit → St → Prop}
theorem AC.as_ {c : Code} (t : Nat) (a a' : AV) (h : getT S.env t = a) (ha : ∀ g w u, Rep g w u a → Rep g w u a') (k : AC F P nt c ⟨(t, a') :: S.env, S.mem⟩ Q) : AC F P nt c S Q := by
  intro g w a2 hid hr
  refine k g w a2 hid ⟨hr.size, hr.defers, fun x u hx => ?_, hr.inv⟩
  show Rep g w u (if x = t then a' else getT S.env x)
  have h0 := hr.env x u hx
  by_cases e : x = t
  · subst e
    rw [if_pos rfl]
    rw [h] at h0
    exact ha g w u h0
  · rw [if_neg e]; exact h0
theorem AC.joinT {a b : Code} {Q' : Exit → St → Prop} (J : St → Prop) (h : AC F P nt a S (thenQ (fun S' => ∃ T, J T ∧ Weak S' T) Q')) (k : ∀ T, J T → AC F P nt b T Q) : AC F P nt a S (thenQ (fun S' => AC F P nt b S' Q) Q') :=
  h.mono fun ex S' hq => by
    cases ex with
    | normal =>
      obtain ⟨T, hT, hw⟩ := hq
      exact (k T hT).weaken hw
    | _ => exact hq
theorem AC.free {c : Code} (t : Nat) (es : List AV) (own : Option Nat) (h : getT S.env t = .slice es own) (k : AC F P nt c ⟨(t, .slice es none) :: S.env, S.mem⟩ Q) : AC F P nt c S Q :=
  AC.as_ t _ _ h (fun _ _ _ => rep_free) k
theorem AC.nil {c : Code} (t : Nat) (h : getT S.env t = .nils) (k : AC F P nt c ⟨(t, .slice [] none) :: S.env, S.mem⟩ Q) : AC F P nt c S Q :=
  AC.as_ t _ _ h (fun _ _ _ => rep_nils) k
end
end Go.Proofs.Ytjhecgiipajdpaa
end
section

namespace Go.Proofs.Ytjhecgiipajdpaa
open Go.RowKit
section
variable {P : Program} {ops : Array Oper} {ty : TypeId} {pos : String} {aft : Array Edge} {d : Nat}
theorem s_buildSlice0 {t e : TypeId} {n : Nat} (p s : Nat) (ht : SliceT P t e n) : Step P ops ⟨some d, .buildSlice t 0 #[], ty, pos, aft, none⟩ { wT := some (d, .slice [] (some s)), wM := some (p, .row s 0 e n), sym := some s } :=
  Step.value rfl rfl (by simp) fun g w a mem hi hT hM hs hp => by
    have hsy := hs s rfl
    have hst := stab_alloc hi hsy (.val (.slice (some ⟨w.heap.size, 0, none⟩) 0 0)) (.cells #[] e)
    have hsy' : (g.put s (.val (.slice (some ⟨w.heap.size, 0, none⟩) 0 0))).sy s = .val (.slice (some ⟨w.heap.size, 0, none⟩) 0 0) := by show (if s = s then _ else _) = _; rw [if_pos rfl]
    refine ⟨.slice (some ⟨w.heap.size, 0, none⟩) 0 0, w.alloc (.cells #[] e), _, ?_, hst, ?_, fun d' v e' => ?_⟩
    · simp [execOp, Instr.buildSlice, run_underlying ht.1, run_size ht.2, Instr.fill, newRow]
      have hz : ∀ f : Nat → Value, Array.map f (Array.range 0) = #[] := fun f => by simp
      rw [hz]
    · refine hi.set hst p _ ?_ ?_ (fun b o ho => by have := hi.lt b o ho; simp; omega) (put_room hi.room)
      · intro i ei b hie hne hb
        have hlt := (hi.ok ei (List.mem_of_getElem? hie)).block_lt hb
        refine ⟨alloc_old w _ hlt.2, fun _ hh => hh, ?_⟩
        simp only [Ent.block, hsy', symBlock, Value.ownBlock]
        intro e9
        injection e9 with e9
        omega
      · refine ⟨_, [], hsy', ⟨by simp, .inr ⟨w.heap.size, 0, #[], rfl, hi.base, alloc_new w _, Nat.le_refl _, by simp [maxLen], by simp, by simp⟩⟩, fun b o hb ho him => ?_⟩
        simp only [Value.ownBlock, Option.some.injEq] at hb
        subst hb
        have := hi.lt _ _ him
        omega
    · injection e' with e'
      injection e' with _ e'
      subst e'
      exact .slice 0 0 (fun _ _ => undef) rfl (fun h => absurd rfl h) (sz := n) (fun e he => by cases he) (fun i e j c h => by simp at h) (fun i e j c h => by simp at h) (Nat.le_refl _) (fun s2 hs2 => by injection hs2 with hs2; subst hs2; exact hsy')
end
end Go.Proofs.Ytjhecgiipajdpaa
end
section

namespace Go.Proofs.Ytjhecgiipajdpaa
open Go.RowKit
theorem flat_get {n : Nat} {es : List AV} (hs : ∀ e ∈ es, e.cells.length = n) {j : Nat} {a : AV} (h : (es.flatMap AV.cells)[j]? = some a) : ∃ e, es[j / n]? = some e ∧ e.cells[j % n]? = some a := by
  have hlt := (List.getElem?_eq_some_iff.1 h).1
  rw [flat_length hs] at hlt
  have hn : 0 < n := Nat.pos_of_ne_zero fun e => by rw [e, Nat.mul_zero] at hlt; omega
  have hq : j / n < es.length := Nat.div_lt_of_lt_mul (by rw [Nat.mul_comm]; exact hlt)
  have hj : j % n < (es[j / n]).cells.length := by rw [hs _ (List.getElem_mem hq)]; exact Nat.mod_lt _ hn
  refine ⟨es[j / n], List.getElem?_eq_getElem hq, ?_⟩
  have := flat_at hs (j / n) _ (j % n) _ (List.getElem?_eq_getElem hq) (List.getElem?_eq_getElem hj)
  rw [show j / n * n + j % n = j by rw [Nat.mul_comm]; exact Nat.div_add_mod j n, h] at this
  rw [List.getElem?_eq_getElem hj]
  exact this.symm
theorem putA_at (cs : List AV) (off : Nat) (l : List AV) (h : off + l.length ≤ cs.length) (k : Nat) : (putA cs off l)[k]? = if k < off then cs[k]? else if k < off + l.length then l[k - off]? else cs[k]? := by
  unfold putA
  have e1 : (cs.take off).length = off := by simp; omega
  by_cases c1 : k < off
  · rw [if_pos c1, List.append_assoc, List.getElem?_append_left (by omega), List.getElem?_take, if_pos c1]
  · rw [if_neg c1]
    by_cases c2 : k < off + l.length
    · rw [if_pos c2, List.getElem?_append_left (by simp; omega), List.getElem?_append_right (by omega), e1]
    · rw [if_neg c2, List.getElem?_append_right (by simp; omega), List.getElem?_drop]
      congr 1
      simp; omega
theorem flat_put {n : Nat} {es : List AV} (hs : ∀ e ∈ es, e.cells.length = n) {i j : Nat} {e e' : AV} {cs : List AV} (hi : es[i]? = some e) (he : e'.cells = putA e.cells j cs) (hj : j + cs.length ≤ n) :
    (es.set i e').flatMap AV.cells = putA (es.flatMap AV.cells) (i * n + j) cs := by
  have hil := (List.getElem?_eq_some_iff.1 hi).1
  have hel : e.cells.length = n := hs e (List.mem_of_getElem? hi)
  have he'l : e'.cells.length = n := by rw [he, putA_length (by omega), hel]
  have hs' : ∀ a ∈ es.set i e', a.cells.length = n := fun a ha => by
    rcases List.mem_or_eq_of_mem_set ha with h | rfl
    · exact hs a h
    · exact he'l
  have hin : i * n + n ≤ es.length * n := by
    have := Nat.mul_le_mul_right n hil
    rwa [Nat.succ_mul] at this
  have hpl : i * n + j + cs.length ≤ (es.flatMap AV.cells).length := by rw [flat_length hs]; omega
  apply List.ext_getElem?
  intro k
  rw [putA_at _ _ _ hpl]
  by_cases hk : k < es.length * n
  · have hn : 0 < n := Nat.pos_of_ne_zero fun e => by rw [e, Nat.mul_zero] at hk; omega
    have hq : k / n < es.length := Nat.div_lt_of_lt_mul (by rw [Nat.mul_comm]; exact hk)
    have hkm : k / n * n + k % n = k := by rw [Nat.mul_comm]; exact Nat.div_add_mod k n
    have hmn := Nat.mod_lt k hn
    have old := flat_at hs (k / n) _ (k % n) _ (List.getElem?_eq_getElem hq) (List.getElem?_eq_getElem (by rw [hs _ (List.getElem_mem hq)]; exact hmn))
    have hq' : k / n < (es.set i e').length := by rw [List.length_set]; exact hq
    have new := flat_at hs' (k / n) _ (k % n) _ (List.getElem?_eq_getElem hq') (List.getElem?_eq_getElem (by rw [hs' _ (List.getElem_mem hq')]; exact hmn))
    rw [hkm] at old new
    rw [new, old]
    by_cases hki : k / n = i
    · have e1 : (es.set i e')[k / n]'hq' = e' := by
        have h1 : (es.set i e')[k / n]? = some e' := by rw [hki, List.getElem?_set_self hil]
        rw [List.getElem?_eq_getElem hq'] at h1
        exact Option.some.inj h1
      have e2 : es[k / n]'hq = e := by
        have h1 : es[k / n]? = some e := by rw [hki]; exact hi
        rw [List.getElem?_eq_getElem hq] at h1
        exact Option.some.inj h1
      have hk2 : k = i * n + k % n := by rw [← hki]; exact hkm.symm
      have g1 : ((es.set i e')[k / n]'hq').cells[k % n]? = (putA e.cells j cs)[k % n]? := by rw [e1, he]
      rw [List.getElem?_eq_getElem (by rw [hs' _ (List.getElem_mem hq')]; exact hmn), putA_at _ _ _ (by omega)] at g1
      rw [g1]
      have g2 : (es[k / n]'hq).cells[k % n]? = e.cells[k % n]? := by rw [e2]
      rw [List.getElem?_eq_getElem (by rw [hs _ (List.getElem_mem hq)]; exact hmn)] at g2
      rw [g2]
      by_cases c1 : k % n < j
      · rw [if_pos c1, if_pos (show k < i * n + j by omega)]
      · rw [if_neg c1, if_neg (show ¬ k < i * n + j by omega)]
        by_cases c2 : k % n < j + cs.length
        · rw [if_pos c2, if_pos (show k < i * n + j + cs.length by omega), show k - (i * n + j) = k % n - j by omega]
        · rw [if_neg c2, if_neg (show ¬ k < i * n + j + cs.length by omega)]
    · have e1 : (es.set i e')[k / n]'hq' = es[k / n]'hq := by
        have h1 : (es.set i e')[k / n]? = es[k / n]? := by rw [List.getElem?_set_ne (Ne.symm hki)]
        rw [List.getElem?_eq_getElem hq', List.getElem?_eq_getElem hq] at h1
        exact Option.some.inj h1
      have g1 : ((es.set i e')[k / n]'hq').cells[k % n]? = (es[k / n]'hq).cells[k % n]? := by rw [e1]
      rw [List.getElem?_eq_getElem (by rw [hs' _ (List.getElem_mem hq')]; exact hmn), List.getElem?_eq_getElem (by rw [hs _ (List.getElem_mem hq)]; exact hmn)] at g1
      rw [g1]
      have out : k < i * n ∨ i * n + n ≤ k := by
        rcases Nat.lt_or_gt_of_ne hki with h | h
        · have := Nat.mul_le_mul_right n h
          rw [Nat.succ_mul] at this
          omega
        · have := Nat.mul_le_mul_right n h
          rw [Nat.succ_mul] at this
          omega
      rcases out with h | h
      · rw [if_pos (show k < i * n + j by omega)]
      · rw [if_neg (show ¬ k < i * n + j by omega), if_neg (show ¬ k < i * n + j + cs.length by omega)]
  · have h1 : ((es.set i e').flatMap AV.cells)[k]? = none := List.getElem?_eq_none (by rw [flat_length hs', List.length_set]; omega)
    have h2 : (es.flatMap AV.cells)[k]? = none := List.getElem?_eq_none (by rw [flat_length hs]; omega)
    rw [h1, h2]
    have h3 : i * n + j + cs.length ≤ k := by omega
    rw [if_neg (show ¬ k < i * n + j by omega), if_neg (show ¬ k < i * n + j + cs.length by omega)]
theorem map_sz {α : Type} {f : α → AV} {n : Nat} (hf : ∀ a, (f a).cells.length = n) (l : List α) : ∀ e ∈ l.map f, e.cells.length = n := fun e he => by
  obtain ⟨a, _, rfl⟩ := List.mem_map.1 he
  exact hf a
theorem mrow_at {g : Gh} {w : World} {mem : List Ent} (h : Inv g w mem) {p s sz b len cap : Nat} {e : TypeId} {es : List AV} (hm : mem[p]? = some (.mrow s es e sz)) (hv : g.sy s = .val (.slice (some ⟨b, 0, none⟩) len cap)) (h0 : 0 < len) :
    ∃ cur : Array Value, w.heap[b]? = some (.cells cur e (0, 0)) ∧ g.base ≤ b ∧ len = es.length ∧ len ≤ cap ∧ cap ≤ maxLen ∧ cur.size = cap * sz ∧ (∀ o, ¬ g.imm b o) ∧ (∀ a ∈ es, a.cells.length = sz) ∧
      (∀ (i : Nat) a, (es.flatMap AV.cells)[i]? = some a → ∃ u, cur[i]? = some u ∧ Rep g w u a) := by
  obtain ⟨v, xs, h1, h2, h3, h4, h5⟩ := h.ok _ (List.mem_of_getElem? hm)
  rw [hv] at h1
  injection h1 with h1
  subst h1
  rcases h2.2 with ⟨h, _⟩ | ⟨gg, cap', cur, h, hb, hg, hn, hc, hsz, htk⟩
  · cases h
  · injection h with hA hl hcp
    injection hA with hA
    injection hA with hA _ _
    subst hA; subst hl; subst hcp
    refine ⟨cur, hg, hb, rfl, hn, hc, hsz, fun o => h5 b o rfl, h3, fun i a ha => ?_⟩
    have hlt := (List.getElem?_eq_some_iff.1 ha).1
    rw [flat_length h3] at hlt
    have hle : es.length * sz ≤ cap * sz := Nat.mul_le_mul_right _ hn
    have hi : i < cur.size := by omega
    refine ⟨cur[i], Array.getElem?_eq_getElem hi, h4 i _ a ?_ ha⟩
    rw [← htk, List.getElem?_take, if_pos hlt]
    simp [hi]
theorem mrow_len {g : Gh} {w : World} {mem : List Ent} (h : Inv g w mem) {p s sz : Nat} {e : TypeId} {es : List AV} (hm : mem[p]? = some (.mrow s es e sz)) {A : Option Addr} {len cap : Nat} (hv : g.sy s = .val (.slice A len cap)) : len = es.length := by
  obtain ⟨v, xs, h1, h2, h3, h4, h5⟩ := h.ok _ (List.mem_of_getElem? hm)
  rw [hv] at h1
  injection h1 with h1
  subst h1
  rcases h2.2 with ⟨h, h'⟩ | ⟨gg, cap', cur, h, _⟩
  · injection h with _ hl _; omega
  · injection h with hA hl hcp
section
variable {P : Program} {ops : Array Oper} {ty : TypeId} {pos : String} {aft : Array Edge} {d : Nat}
theorem s_indexAddrq {t e : TypeId} {x y : Operand} {n s m : Nat} {k : IntKind} {i : Int} {lx ly : List (Nat × AV)} (ht : SliceT P t e n) (hx : Opd x (.sym s m) lx) (hy : Opd y (.int k i) ly)
    (hi : 0 ≤ i ∧ i < (m : Int)) : Step P ops ⟨some d, .indexAddr t x y, ty, pos, aft, none⟩ { rT := lx ++ ly, wT := some (d, .sptr s (i.toNat * n + 0)) } :=
  Step.calc (rM := []) (by simp) fun g w a mem hinv hT hM => by
    have h := hx g w a hT.left
    have hyi := int_of (hy g w a hT.right)
    generalize hu : a.eval x = u at h
    cases h with
    | sym hs hA =>
      obtain ⟨b, rfl⟩ := hA (by omega)
      refine ⟨.pointer (some ⟨b, i.toNat * n + 0, none⟩), ?_, .sptr hs⟩
      simp [execOp, hu, hyi, Instr.indexAt, asIntOf, run_underlying ht.1, run_size ht.2, hi, add_addr]
theorem s_fieldAddrq {t : TypeId} {x : Operand} {i o s base j : Nat} {lx : List (Nat × AV)} (hf : Fld P t i o) (hx : Opd x (.sptr s (base + j)) lx) : Step P ops ⟨some d, .fieldAddr t x i, ty, pos, aft, none⟩ { rT := lx, wT := some (d, .sptr s (base + (j + o))) } :=
  Step.calc (rM := []) (by simp) fun g w a mem hi hT hM => by
    have h := hx g w a hT
    generalize hu : a.eval x = u at h
    cases h with
    | sptr hs => exact ⟨_, by simp [execOp, hu, run_field hf]; rfl, by rw [← Nat.add_assoc]; exact .sptr hs⟩
theorem s_nilCheckq {x : Operand} {s off : Nat} {lx : List (Nat × AV)} (hx : Opd x (.sptr s off) lx) : Step P ops ⟨some d, .nilCheck x, ty, pos, aft, none⟩ { rT := lx, wT := some (d, .sptr s off) } :=
  Step.calc (rM := []) (by simp) fun g w a mem hi hT hM => by
    have h := hx g w a hT
    refine ⟨a.eval x, ?_, h⟩
    generalize hu : a.eval x = u at h
    cases h; simp [execOp, hu]
theorem sptr_len {g : Gh} {w : World} {mem : List Ent} (h : Inv g w mem) {p s sz b len cap off : Nat} {e : TypeId} {es : List AV} {c : AV} (hm : mem[p]? = some (.mrow s es e sz)) (hv : g.sy s = .val (.slice (some ⟨b, 0, none⟩) len cap)) (hc : (es.flatMap AV.cells)[off]? = some c) : 0 < len := by
  have hl := mrow_len h hm hv
  have hne : es ≠ [] := fun e => by rw [e] at hc; simp at hc
  have := List.length_pos_iff.2 hne
  omega
theorem s_load1q {t : TypeId} {x : Operand} {s off sz : Nat} {e : TypeId} {es : List AV} {c : AV} {lx : List (Nat × AV)} (p : Nat) (ht : TyS P t) (hx : Opd x (.sptr s off) lx) (hc : (es.flatMap AV.cells)[off]? = some c) :
    Step P ops ⟨some d, .load t x, ty, pos, aft, none⟩ { rT := lx, rM := [(p, .mrow s es e sz)], wT := some (d, c) } :=
  Step.calc (by simp) fun g w a mem hi hT hM => by
    have h := hx g w a hT
    generalize hu : a.eval x = u at h
    cases h with
    | sptr hs =>
      rename_i b len cap
      have hm := hM p _ (List.mem_singleton.2 rfl)
      obtain ⟨cur, h1, _, _, _, _, _, _, _, h9⟩ := mrow_at hi hm hs (sptr_len hi hm hs hc)
      obtain ⟨u, hu1, hu2⟩ := h9 off c hc
      refine ⟨u, ?_, hu2⟩
      simp [execOp, hu, Instr.loadAt, Instr.sureAddr, loadVar, run_single ht, World.cell?, h1, hu1]
theorem s_storeq {t : TypeId} {x y : Operand} {s j n sz i : Nat} {e : TypeId} {es : List AV} {v el el' : AV} {lx ly : List (Nat × AV)} (p : Nat) (ht : SzT P t n) (hx : Opd x (.sptr s (i * sz + j)) lx) (hy : Opd y v ly)
    (hv : v.solid = true) (h1 : v.cells.all AV.one = true) (hl : v.cells.length = n) (hel : es[i]? = some el) (hel' : el'.cells = putA el.cells j v.cells) (hn : j + v.cells.length ≤ sz) :
    Step P ops ⟨none, .store t x y, ty, pos, aft, none⟩ { rT := lx ++ ly, rM := [(p, .mrow s es e sz)], wM := some (p, .mrow s (es.set i el') e sz) } :=
  Step.skip rfl rfl rfl (by simp) fun g w a mem hi hT hM hs hp => by
    have h := hx g w a hT.left
    have k := hy g w a hT.right
    generalize hu : a.eval x = u at h
    generalize hw : a.eval y = z at k
    cases h with
    | sptr hs =>
      rename_i b len cap
      have hm := hM p _ (List.mem_singleton.2 rfl)
      have hil := (List.getElem?_eq_some_iff.1 hel).1
      have hlen0 : 0 < len := by have := mrow_len hi hm hs; omega
      obtain ⟨cur, hb, hbase, hlen, hcap, hmax, hsz, himm, hes, hr⟩ := mrow_at hi hm hs hlen0
      have kc := rep_cells k hv
      have kone : ∀ c ∈ z.cells.toList, c.oneCell' = true := by
        intro c hc
        obtain ⟨q, hci⟩ := List.getElem?_of_mem hc
        rw [Array.getElem?_toList] at hci
        have hlt : q < v.cells.length := by rw [← kc.1]; exact (Array.getElem?_eq_some_iff.1 hci).1
        exact one_of (kc.2 q c _ hci (List.getElem?_eq_getElem hlt)) (List.all_eq_true.1 h1 _ (List.getElem_mem hlt))
      have hzl : z.cells.toList.length = v.cells.length := by rw [Array.length_toList]; exact kc.1
      have hin : i * sz + sz ≤ es.length * sz := by
        have := Nat.mul_le_mul_right sz hil
        rwa [Nat.succ_mul] at this
      have hcm : es.length * sz ≤ cap * sz := Nat.mul_le_mul_right _ (by omega)
      have hst := run_storeCells_at P b (i * sz + j) e z.cells.toList 0 cur w hb (by rw [hzl]; omega) kone
      simp only [Nat.add_zero] at hst
      let arr' := (cur.toList.take (i * sz + j) ++ z.cells.toList ++ cur.toList.drop (i * sz + j + z.cells.toList.length)).toArray
      have hrun : (storeVar t ⟨b, i * sz + j, none⟩ z).run P w = .ok () (w.setRow b arr') := by
        have hsz : z.cells.size = n := by rw [kc.1, hl]
        simp only [storeVar, Sem.run_bind, run_size ht, Result.andThen_ok, hsz, ne_eq, not_true_eq_false, if_false]
        exact hst
      have hstab : Ext g w g (w.setRow b arr') :=
        ⟨rfl, ⟨rfl, rfl, rfl, by simp [World.setRow], fun k hk => setRow_old w b _ (by omega)⟩, fun c o hi => ⟨hi, by
          have hne : c ≠ b := fun e => by subst e; exact himm o hi
          simp only [World.cell?, setRow_old w b _ hne]⟩, fun _ _ _ => rfl, fun s hs => by cases hs⟩
      refine ⟨w.setRow b arr', g, ?_, hstab, ?_⟩
      · simp [execOp, hu, hw, Instr.storeAt, Instr.sureAddr, hrun]
      · refine hi.set hstab p _ ?_ ?_ (fun c o ho => by simpa [World.setRow] using hi.lt c o ho) hi.room
        · intro q ek c hie hne hec
          have hne' : c ≠ b := by
            intro e'
            subst e'
            exact hne (hi.apart q p ek _ c hie hm hec (by simp [Ent.block, hs, symBlock, Value.ownBlock]))
          refine ⟨setRow_old w b _ hne', fun _ h => h, ?_⟩
          simp only [Ent.block, hs, symBlock, Value.ownBlock]
          intro e'
          injection e' with e'
          exact hne' e'.symm
        · have hes' : ∀ a ∈ es.set i el', a.cells.length = sz := fun a ha => by
            rcases List.mem_or_eq_of_mem_set ha with h | rfl
            · exact hes a h
            · rw [hel', putA_length (by rw [hes el (List.mem_of_getElem? hel)]; exact hn), hes el (List.mem_of_getElem? hel)]
          have hfl := flat_put hes hel hel' hn
          have hall : arr'.size = cur.size := by
            simp only [arr', List.size_toArray, List.length_append, List.length_take, List.length_drop, Array.length_toList]
            rw [← Array.length_toList (xs := z.cells), hzl]
            omega
          have hpl : i * sz + j + v.cells.length ≤ (es.flatMap AV.cells).length := by rw [flat_length hes]; omega
          refine ⟨.slice (some ⟨b, 0, none⟩) len cap, arr'.toList.take (len * sz), hs, ⟨?_, .inr ⟨b, cap, arr', ?_, hbase, setRow_heap w b cur _ e _ hb, ?_, hmax, by rw [hall]; exact hsz, ?_⟩⟩, hes', ?_, fun b' o hb' => ?_⟩
          · rw [List.length_take, Array.length_toList, hall, hsz, List.length_set, ← hlen]
            have := Nat.mul_le_mul_right sz hcap
            omega
          · rw [List.length_set, ← hlen]
          · rw [List.length_set, ← hlen]; exact hcap
          · rw [List.length_set, ← hlen]
          · intro q u a' hq ha'
            rw [List.getElem?_take] at hq
            split at hq
            · rename_i hq1
              rw [hfl, putA_at _ _ _ hpl] at ha'
              have hq2 : q < cur.size := by have := Nat.mul_le_mul_right sz hcap; omega
              have hau : arr'[q]? = some u := by rw [Array.getElem?_toList] at hq; exact hq
              simp only [arr', List.getElem?_toArray] at hau
              have t1 : (cur.toList.take (i * sz + j)).length = i * sz + j := by simp; omega
              split at ha'
              · rename_i c1
                rw [List.append_assoc, List.getElem?_append_left (by omega), List.getElem?_take, if_pos c1] at hau
                obtain ⟨u2, e1, e2⟩ := hr q a' ha'
                rw [Array.getElem?_toList, e1] at hau
                injection hau with hau
                subst hau
                exact e2.stab hstab
              · rename_i c1
                split at ha'
                · rename_i c2
                  rw [List.getElem?_append_left (by simp only [List.length_append, t1, hzl]; omega), List.getElem?_append_right (by omega), t1] at hau
                  exact (kc.2 (q - (i * sz + j)) u a' (by simpa using hau) ha').stab hstab
                · rename_i c2
                  have t2 : (cur.toList.take (i * sz + j) ++ z.cells.toList).length = i * sz + j + v.cells.length := by rw [List.length_append, t1, hzl]
                  rw [List.getElem?_append_right (by omega), t2, List.getElem?_drop, hzl, show i * sz + j + v.cells.length + (q - (i * sz + j + v.cells.length)) = q by omega] at hau
                  obtain ⟨u2, e1, e2⟩ := hr q a' ha'
                  rw [Array.getElem?_toList, e1] at hau
                  injection hau with hau
                  subst hau
                  exact e2.stab hstab
            · cases hq
          · simp only [Value.ownBlock, Option.some.injEq] at hb'
            subst hb'
            exact himm o
theorem s_appendE {t e : TypeId} {x y : Operand} {m sz bytes s : Nat} {z : Value} {es news : List AV} {X : AV} {E : Ent} {lx ly : List (Nat × AV)} (p s' : Nat) (ht : SliceT P t e sz) (hz : Zero P e z) (hb : BytesT P e bytes) (hzc : z.cells.size = sz) (h0 : 0 < sz)
    (hx : Opd x X lx) (hXs : ∀ g w u, Rep g w u X → g.sy s = .val u) (hEs : ∀ g w, EntOK g w E → EntOK g w (.mrow s es e sz)) (hEb : ∀ g, E.block g = symBlock (g.sy s)) (hy : Opd y (.slice news none) ly) (hm : news.length = m) (hm0 : 0 < m) (hnw : ∀ c ∈ news, c.cells.length = sz) (hone : ∀ c ∈ news, c.cells.all AV.one = true)
    (hbd : (es.length + m) * bytes ≤ 140737488355328 ∧ es.length + m ≤ maxLen) :
    Step P ops ⟨some d, .call { callee := .builtin .append, args := #[x, y], argTypes := #[t, t] }, ty, pos, aft, none⟩
      { rT := lx ++ ly, rM := [(p, E)], wT := some (d, .sym s' (es ++ news).length), wM := some (p, .mrow s' (es ++ news) e sz), sym := some s' } :=
  Step.value rfl rfl (by simp) fun g w a mem hi hT hM hs hp => by
    have hsy := hs s' rfl
    have hX := hx g w a hT.left
    have hY := hy g w a hT.right
    obtain ⟨i, hinfo, hisz⟩ : ∃ i, P.info? e = some i ∧ i.size = sz := by
      have := ht.2
      unfold SzT at this
      cases hi' : P.info? e with
      | none => rw [hi'] at this; cases this
      | some i => rw [hi'] at this; exact ⟨i, rfl, by simpa using this⟩
    have hzero : i.zero = some z := by
      unfold Zero at hz
      rw [hinfo] at hz
      simpa using hz
    have hbytes : i.bytes = bytes := by
      unfold BytesT at hb
      rw [hinfo] at hb
      simpa using hb
    subst hisz
    subst hbytes
    have hrow := hM p _ (List.mem_singleton.2 rfl)
    obtain ⟨v0, xs, hv0, hown, hes, hcont, himm⟩ := hEs g w (hi.ok _ (List.mem_of_getElem? hrow))
    generalize hux : a.eval x = ux at hX
    generalize huy : a.eval y = uy at hY
    have hvx : ux = v0 := by
      have := hXs g w ux hX
      rw [hv0] at this
      injection this with this
      exact this.symm
    subst hvx
    have hEblk : E.block g = ux.ownBlock := by rw [hEb, hv0]; rfl
    have hnewsY : ∃ (ad : Addr) (c : Nat) (ns : List Value), uy = .slice (some ad) m c ∧ ns.length = m * i.size ∧ (∀ (j : Nat) u, ns[j]? = some u → w.cell? (ad.add j) = some u) ∧ (∀ u, u ∈ ns → u.oneCell' = true) ∧
        ∀ (k : Nat) u cl, ns[k]? = some u → (news.flatMap AV.cells)[k]? = some cl → Rep g w u cl := by
      cases hY with
      | slice b o vals hl hA hsz hc hr hle how =>
        rename_i A len cap sz2
        have hne : news ≠ [] := fun e => by rw [e] at hm; simp at hm; omega
        have hAe := hA hne
        subst hAe
        have hsz2 : sz2 = i.size := by
          obtain ⟨c0, hc0⟩ := List.exists_mem_of_ne_nil _ hne
          rw [← hsz c0 hc0, hnw c0 hc0]
        subst hsz2
        rw [hm] at hl
        subst hl
        have at_ : ∀ j, j < m * i.size → ∃ el cl, news[j / i.size]? = some el ∧ el.cells[j % i.size]? = some cl := by
          intro j hj
          have hq : j / i.size < m := Nat.div_lt_of_lt_mul (by rw [Nat.mul_comm]; exact hj)
          have hq' : j / i.size < news.length := by omega
          refine ⟨news[j / i.size], _, List.getElem?_eq_getElem hq', List.getElem?_eq_getElem ?_⟩
          rw [hnw _ (List.getElem_mem hq')]
          exact Nat.mod_lt _ h0
        have hidx : ∀ j, j / i.size * i.size + j % i.size = j := fun j => by rw [Nat.mul_comm]; exact Nat.div_add_mod j i.size
        have hget : ∀ j u, ((List.range (m * i.size)).map (fun j => vals (j / i.size) (j % i.size)))[j]? = some u → j < m * i.size ∧ u = vals (j / i.size) (j % i.size) := by
          intro j u hu
          have hj : j < m * i.size := by have := (List.getElem?_eq_some_iff.1 hu).1; simpa using this
          rw [List.getElem?_map, List.getElem?_range hj] at hu
          simp only [Option.map_some, Option.some.injEq] at hu
          exact ⟨hj, hu.symm⟩
        refine ⟨⟨b, o, none⟩, cap, (List.range (m * i.size)).map (fun j => vals (j / i.size) (j % i.size)), rfl, by simp, ?_, ?_, ?_⟩
        · intro j u hu
          obtain ⟨hj, rfl⟩ := hget j u hu
          obtain ⟨el, cl, h1, h2⟩ := at_ j hj
          have := (hc _ _ _ _ h1 h2).1
          rw [hidx] at this
          rw [add_addr]
          exact this
        · intro u hu
          obtain ⟨j, hj, rfl⟩ := List.mem_map.1 hu
          simp only [List.mem_range] at hj
          obtain ⟨el, cl, h1, h2⟩ := at_ j hj
          exact one_of (hr _ _ _ _ h1 h2) (List.all_eq_true.1 (hone el (List.mem_of_getElem? h1)) cl (List.mem_of_getElem? h2))
        · intro k u cl hu hcl
          obtain ⟨hk, rfl⟩ := hget k u hu
          obtain ⟨el, h1, h2⟩ := flat_get hnw hcl
          exact hr _ _ _ _ h1 h2
    obtain ⟨ad, c, ns, rfl, hnsl, hnsc, hns1, hnsr⟩ := hnewsY
    obtain ⟨v', w', hrun, hown', hgr, hwhere⟩ := append3 (P := P) w g.base t ty e i z ht.1 hinfo hzero hzc h0 ux es.length xs hown ad m c ns hnsl hnsc hns1 hm0 hbd.2 hbd.1 hi.base
    have hxl : xs.length = es.length * i.size := hown.1
    obtain ⟨g0, cap', cur', rfl, hb0, hg0, hnc', hcm', hcs', htk'⟩ : ∃ g0 cap cur, v' = .slice (some ⟨g0, 0, none⟩) (es.length + m) cap ∧ g.base ≤ g0 ∧ w'.heap[g0]? = some (.cells cur e (0, 0)) ∧ es.length + m ≤ cap ∧ cap ≤ maxLen ∧ cur.size = cap * i.size ∧ cur.toList.take ((es.length + m) * i.size) = xs ++ ns := by
      rcases hown'.2 with ⟨_, h⟩ | h
      · omega
      · exact h
    have hblk : (Value.slice (some ⟨g0, 0, none⟩) (es.length + m) cap').ownBlock = some g0 := rfl
    let g' : Gh := g.put s' (.val (.slice (some ⟨g0, 0, none⟩) (es.length + m) cap'))
    have hsame : ∀ b off, g.imm b off → w'.cell? ⟨b, off, none⟩ = w.cell? ⟨b, off, none⟩ := by
      intro b off hbo
      have hlt := hi.lt b off hbo
      have hbv : some b ≠ ux.ownBlock := fun hbv => himm b off hbv.symm hbo
      simp only [World.cell?, hgr.block b hlt hbv]
    have hstab : Stab (some s') g w g' w' := by
      refine ⟨rfl, (Below.refl _ _).grown hgr hi.base (fun k hk => (hown.lt k hk).1), fun b off hbo => ⟨hbo, hsame b off hbo⟩, fun t ht' hf => ?_, fun t ht' => by injection ht' with ht'; subst ht'; exact hsy⟩
      show (if t = s' then _ else g.sy t) = g.sy t
      rw [if_neg (fun e => ht' (by rw [e]))]
    have hsy' : g'.sy s' = .val (.slice (some ⟨g0, 0, none⟩) (es.length + m) cap') := by show (if s' = s' then _ else _) = _; rw [if_pos rfl]
    have hother : ∀ (k : Nat) ek b, mem[k]? = some ek → k ≠ p → ek.block g = some b → b ≠ g0 ∧ w'.heap[b]? = w.heap[b]? := by
      intro k ek b hk hne hbk
      have hlt := (hi.ok ek (List.mem_of_getElem? hk)).block_lt hbk
      have hnv : some b ≠ ux.ownBlock := by
        intro e'
        refine hne (hi.apart k p ek _ b hk hrow hbk ?_)
        rw [hEblk]
        exact e'.symm
      refine ⟨?_, hgr.block b hlt.2 hnv⟩
      rcases hwhere with hw | ⟨hw, _⟩
      · intro e'
        subst e'
        exact hnv (by rw [← hw, hblk])
      · rw [hblk] at hw
        injection hw with hw
        omega
    refine ⟨.slice (some ⟨g0, 0, none⟩) (es.length + m) cap', w', g', ?_, hstab, ?_, ?_⟩
    · simp [execOp, resolve, invoke, builtin, hux, huy, hrun]
    · refine hi.set hstab p _ ?_ ?_ ?_ (put_room hi.room)
      · intro k ek b hk hne hbk
        obtain ⟨h1, h2⟩ := hother k ek b hk hne hbk
        refine ⟨h2, fun off ho => ho, ?_⟩
        simp only [Ent.block, hsy', symBlock, hblk]
        intro e'
        injection e' with e'
        exact h1 e'.symm
      · refine ⟨_, xs ++ ns, hsy', by rw [List.length_append, hm]; exact hown', fun a ha => ?_, fun q u a' hq ha' => ?_, fun b off hb' ho => ?_⟩
        · rcases List.mem_append.1 ha with h | h
          · exact hes a h
          · exact hnw a h
        · have hfl : (es.flatMap AV.cells).length = xs.length := by rw [flat_length hes, hxl]
          rw [List.flatMap_append] at ha'
          by_cases hqx : q < xs.length
          · rw [List.getElem?_append_left hqx] at hq
            rw [List.getElem?_append_left (by omega)] at ha'
            exact (hcont q u a' hq ha').stab hstab
          · rw [List.getElem?_append_right (by omega)] at hq
            rw [List.getElem?_append_right (by omega), hfl] at ha'
            exact (hnsr _ u a' hq ha').stab hstab
        · rw [hblk] at hb'
          injection hb' with hb'
          subst hb'
          by_cases hbv : some g0 = ux.ownBlock
          · exact himm g0 off hbv.symm ho
          · rcases hwhere with hw | ⟨hw, _⟩
            · rw [hblk] at hw; exact hbv hw
            · rw [hblk] at hw
              injection hw with hw
              have := hi.lt _ _ ho
              omega
      · intro b off ho
        exact Nat.lt_of_lt_of_le (hi.lt b off ho) hgr.size
    · intro d' v'' e'
      injection e' with e'
      injection e' with _ e'
      subst e'
      rw [List.length_append, hm]
      exact .sym hsy' (fun _ => ⟨g0, rfl⟩)
theorem row0_mrow {g : Gh} {w : World} {s sz : Nat} {e : TypeId} (h : EntOK g w (.row s 0 e sz)) : EntOK g w (.mrow s [] e sz) := by
  obtain ⟨v, xs, h1, h2, h3⟩ := h
  exact ⟨v, xs, h1, h2, fun a ha => (by cases ha), fun i u a hi ha => (by simp at ha), fun b o hb => h3 b o hb (by rw [Nat.zero_mul]; exact Nat.zero_le _)⟩
theorem s_append0q {α : Type} {l2 : List α} {f : α → AV} {t e : TypeId} {x y : Operand} {sz bytes s : Nat} {z : Value} {lx ly : List (Nat × AV)} (p s' : Nat) (ht : SliceT P t e sz) (hz : Zero P e z) (hb : BytesT P e bytes) (hzc : z.cells.size = sz) (h0 : 0 < sz)
    (hx : Opd x (.slice [] (some s)) lx) (hy : Opd y (.slice (l2.map f) none) ly) (hm0 : 0 < l2.length) (hf : ∀ a, (f a).cells.length = sz) (hone : ∀ a, (f a).cells.all AV.one = true)
    (hbd : l2.length * bytes ≤ 140737488355328 ∧ l2.length ≤ 9223372036854775807) :
    Step P ops ⟨some d, .call { callee := .builtin .append, args := #[x, y], argTypes := #[t, t] }, ty, pos, aft, none⟩
      { rT := lx ++ ly, rM := [(p, .row s 0 e sz)], wT := some (d, .sym s' l2.length), wM := some (p, .mrow s' (l2.map f) e sz), sym := some s' } := by
  have := s_appendE (ops := ops) (ty := ty) (pos := pos) (aft := aft) (d := d) (es := []) (E := .row s 0 e sz) p s' ht hz hb hzc h0 hx (fun g w u h => by cases h; rename_i how; exact how s rfl) (fun _ _ h => row0_mrow h) (fun _ => rfl) hy (List.length_map _) hm0
    (by intro c hc; obtain ⟨a, _, rfl⟩ := List.mem_map.1 hc; exact hf a) (by intro c hc; obtain ⟨a, _, rfl⟩ := List.mem_map.1 hc; exact hone a) (by simpa [maxLen] using hbd)
  rw [List.nil_append, List.length_map] at this
  exact this
theorem s_load1Fq {α : Type} {l : List α} {f : α → AV} {A : AV} {t : TypeId} {x : Operand} {s i j sz : Nat} {e : TypeId} {c : AV} {lx : List (Nat × AV)} (p : Nat) (ht : TyS P t) (hx : Opd x (.sptr s (i * sz + j)) lx) (hi : i < l.length) (hf : ∀ a, (f a).cells.length = sz) (hA : A.cells.length = sz) (hc : A.cells[j]? = some c) :
    Step P ops ⟨some d, .load t x, ty, pos, aft, none⟩ { rT := lx, rM := [(p, .mrow s ((l.map f).set i A) e sz)], wT := some (d, c) } :=
  s_load1q p ht hx (flat_at (fun e he => by
    rcases List.mem_or_eq_of_mem_set he with h | rfl
    · exact map_sz hf l e h
    · exact hA) i A j c (by rw [List.getElem?_set_self (by rw [List.length_map]; exact hi)]) hc)
theorem s_storeFq {α : Type} {l : List α} {f : α → AV} {A A' : AV} {t : TypeId} {x y : Operand} {s i j n sz : Nat} {e : TypeId} {v : AV} {lx ly : List (Nat × AV)} (p : Nat) (ht : SzT P t n) (hx : Opd x (.sptr s (i * sz + j)) lx) (hy : Opd y v ly)
    (hv : v.solid = true) (h1 : v.cells.all AV.one = true) (hl : v.cells.length = n) (hi : i < l.length) (hel' : A'.cells = putA A.cells j v.cells) (hn : j + v.cells.length ≤ sz) :
    Step P ops ⟨none, .store t x y, ty, pos, aft, none⟩ { rT := lx ++ ly, rM := [(p, .mrow s ((l.map f).set i A) e sz)], wM := some (p, .mrow s ((l.map f).set i A') e sz) } := by
  have := s_storeq (P := P) (ops := ops) (ty := ty) (pos := pos) (aft := aft) (e := e) (es := (l.map f).set i A) (el := A) (el' := A') p ht hx hy hv h1 hl (by rw [List.getElem?_set_self (by rw [List.length_map]; exact hi)]) hel' hn
  rw [List.set_set] at this
  exact this
end
section
variable {F : Fence} {P : Program} {nt : Nat} {S : St} {Q : Exit → St → Prop}
theorem AC.freeze {c : Code} (p s : Nat) (es es' : List AV) (e : TypeId) (sz : Nat) (hp : S.mem[p]? = some (.mrow s es e sz)) (hl : es'.length = es.length) (hsz : ∀ a ∈ es', a.cells.length = sz)
    (hes : ∀ (i : Nat) a a', (es.flatMap AV.cells)[i]? = some a → (es'.flatMap AV.cells)[i]? = some a' → ∀ g w u, Rep g w u a → Rep g w u a')
    (k : AC F P nt c ⟨S.env, S.mem.set p (.fro s es')⟩ Q) : AC F P nt c S Q := by
  intro g w a hid hr
  have hpl : p < S.mem.length := (List.getElem?_eq_some_iff.1 hp).1
  have hat : (S.mem ++ hid.map Ent.mark)[p]? = some (.mrow s es e sz) := by rw [List.getElem?_append_left hpl]; exact hp
  obtain ⟨R1, R2, R3, R4⟩ := hr
  obtain ⟨v, xs, h1, h2, h3, h4, h5⟩ := R4.ok _ (List.mem_of_getElem? hat)
  have hblk : (Ent.mrow s es e sz).block g = v.ownBlock := by simp [Ent.block, h1, symBlock]
  let g' : Gh := { g with imm := fun b o => g.imm b o ∨ v.ownBlock = some b }
  have hext : Ext g w g' w := ⟨rfl, Below.refl _ _, fun b o ho => ⟨.inl ho, rfl⟩, fun s _ _ => rfl, fun s hs => by cases hs⟩
  have hrep : Rep g' w v (.slice es' none) := by
    rcases h2.2 with ⟨hv, hn⟩ | ⟨gg, cap, cur, hv, hb, hg, hn, hc, hcs, htk⟩
    · have : es' = [] := List.length_eq_zero_iff.1 (by omega)
      subst this
      subst hv
      exact .slice 0 0 (fun _ _ => undef) rfl (fun h => absurd rfl h) (sz := 0) (fun e he => by cases he) (fun i e j c h => by simp at h) (fun i e j c h => by simp at h) (Nat.le_refl _) (fun s hs => by cases hs)
    · subst hv
      rw [← hl] at hn ⊢
      have hle : es'.length * sz ≤ cap * sz := Nat.mul_le_mul_right _ hn
      refine rep_row (n := sz) hg hsz (fun i u a' hu ha' => ?_) (by rw [flat_length hsz, hcs]; exact hle) (fun o _ => .inr rfl) hn (fun s hs => by cases hs)
      have hi := (List.getElem?_eq_some_iff.1 ha').1
      rw [flat_length hsz] at hi
      have hi' : i < (es.flatMap AV.cells).length := by rw [flat_length h3, ← hl]; exact hi
      refine hes i _ a' (List.getElem?_eq_getElem hi') ha' _ _ _ ((h4 i u _ ?_ (List.getElem?_eq_getElem hi')).stab hext)
      rw [← htk, List.getElem?_take, if_pos (by rw [← hl]; exact hi), Array.getElem?_toList]
      exact hu
  have hinv := R4.set hext p (.fro s es') (fun i ei b hi hne hb => ⟨rfl, fun o ho => by
      rcases ho with ho | ho
      · exact ho
      · exact absurd (R4.apart i p ei _ _ hi hat hb (hblk.trans ho)) hne, by simp [Ent.block]⟩) ⟨v, h1, hrep⟩
    (fun b o ho => by
      rcases ho with ho | ho
      · exact R4.lt _ _ ho
      · exact (h2.lt b ho).2) R4.room
  rw [List.set_append_left _ _ hpl] at hinv
  exact wpIn_mono (k g' w a hid ⟨R1, R2, EnvOK.stab hext R3, hinv⟩) fun ex a' w' ⟨g2, S2, hid2, k1, k2, k3⟩ => ⟨g2, S2, hid2, k1, hext.trans k2, k3⟩
theorem fro_rep {g : Gh} {w : World} {mem : List Ent} (h : Inv g w mem) {p s : Nat} {es : List AV} (hp : mem[p]? = some (.fro s es)) {u : Value} {n : Nat} (hu : Rep g w u (.sym s n)) : Rep g w u (.slice es none) := by
  obtain ⟨v, h1, h2⟩ := h.ok _ (List.mem_of_getElem? hp)
  cases hu with
  | sym hs _ => rw [hs] at h1; injection h1 with h1; rw [h1]; exact h2
theorem AC.symB {c : Code} (q sb : Nat) (cs : List AV) (j p s n : Nat) (es : List AV) (hq : S.mem[q]? = some (.box sb cs)) (hj : cs[j]? = some (.sym s n)) (hp : S.mem[p]? = some (.fro s es))
    (k : AC F P nt c ⟨S.env, S.mem.set q (.box sb (cs.set j (.slice es none)))⟩ Q) : AC F P nt c S Q := by
  intro g w a hid hr
  have hpl : p < S.mem.length := (List.getElem?_eq_some_iff.1 hp).1
  have hql : q < S.mem.length := (List.getElem?_eq_some_iff.1 hq).1
  obtain ⟨R1, R2, R3, R4⟩ := hr
  have hat : (S.mem ++ hid.map Ent.mark)[p]? = some (.fro s es) := by rw [List.getElem?_append_left hpl]; exact hp
  have hatq : (S.mem ++ hid.map Ent.mark)[q]? = some (.box sb cs) := by rw [List.getElem?_append_left hql]; exact hq
  obtain ⟨bq, arr, tt, b1, b2, b3, b4, b5, b6⟩ := R4.ok _ (List.mem_of_getElem? hatq)
  have hblk : (Ent.box sb cs).block g = some bq := by simp [Ent.block, b1, symBlock]
  have hinv := R4.set (Stab.refl g w) q (.box sb (cs.set j (.slice es none))) (fun i ei b hi hne hb => ⟨rfl, fun _ h => h, fun hb2 => by
      have e1 : (Ent.box sb (cs.set j (.slice es none))).block g = some bq := by simp [Ent.block, b1, symBlock]
      rw [e1] at hb2
      injection hb2 with hb2
      subst hb2
      exact hne (R4.apart i q ei _ _ hi hatq hb hblk)⟩)
    ⟨bq, arr, tt, b1, b2, b3, by rw [List.length_set]; exact b4, fun i v x hv hx => by
      rw [List.getElem?_set] at hx
      split at hx
      · rename_i hij
        subst hij
        split at hx
        · injection hx with hx
          subst hx
          exact fro_rep R4 hat (b5 j v _ hv hj)
        · cases hx
      · exact b5 i v x hv hx, b6⟩ R4.lt R4.room
  rw [List.set_append_left _ _ hql] at hinv
  exact k g w a hid ⟨R1, R2, R3, hinv⟩
theorem AC.memEq {c : Code} (p : Nat) (E E' : Ent) (hp : S.mem[p]? = some E) (he : E = E') (k : AC F P nt c ⟨S.env, S.mem.set p E'⟩ Q) : AC F P nt c S Q := by
  subst he
  have : S.mem.set p E = S.mem := by
    apply List.ext_getElem?
    intro i
    by_cases h : p = i
    · subst h
      rw [List.getElem?_set_self (List.getElem?_eq_some_iff.1 hp).1, hp]
    · rw [List.getElem?_set_ne h]
  rw [this] at k
  exact k
theorem focus {α : Type} (l : List α) (f : α → AV) (i : Nat) (df : α) (h : i < l.length) : l.map f = (l.map f).set i (f (l.getD i df)) := by
  apply List.ext_getElem?
  intro k
  by_cases hk : i = k
  · subst hk
    rw [List.getElem?_set_self (by rw [List.length_map]; exact h), List.getElem?_map, List.getD_eq_getElem?_getD, List.getElem?_eq_getElem h]
    rfl
  · rw [List.getElem?_set_ne hk]
end
end Go.Proofs.Ytjhecgiipajdpaa
end
section

namespace Go.Proofs.Ytjhecgiipajdpaa
open Go.RowKit
theorem putA_one {cs : List AV} {j : Nat} (x : AV) (hj : j < cs.length) : putA cs j [x] = cs.set j x := by
  apply List.ext_getElem?
  intro k
  rw [putA_at _ _ _ (show j + 1 ≤ cs.length from hj), List.getElem?_set]
  by_cases h : j = k
  · subst h
    rw [if_neg (Nat.lt_irrefl _), if_pos (by simp), if_pos rfl, if_pos hj]
    simp
  · rw [if_neg h]
    by_cases h1 : k < j
    · rw [if_pos h1]
    · rw [if_neg h1, if_neg (by simp; omega)]
theorem set_sz {α : Type} {f : α → AV} {n : Nat} (hf : ∀ a, (f a).cells.length = n) (l : List α) {i : Nat} {A : AV} (hA : A.cells.length = n) : ∀ e ∈ (l.map f).set i A, e.cells.length = n := fun e he => by
  rcases List.mem_or_eq_of_mem_set he with h | rfl
  · exact map_sz hf l e h
  · exact hA
inductive Frees : List AV → List AV → Prop
  | nil : Frees [] []
  | same {a : AV} {l l' : List AV} (h : Frees l l') : Frees (a :: l) (a :: l')
  | free {es : List AV} {own : Option Nat} {l l' : List AV} (h : Frees l l') : Frees (.slice es own :: l) (.slice es none :: l')
theorem Frees.at_ {l l' : List AV} (h : Frees l l') : ∀ (j : Nat) a a', l[j]? = some a → l'[j]? = some a' → ∀ g w u, Rep g w u a → Rep g w u a' := by
  induction h with
  | nil => intro j a a' h; simp at h
  | same h ih =>
    intro j a a' h1 h2
    cases j with
    | zero => simp only [List.getElem?_cons_zero, Option.some.injEq] at h1 h2; subst h1; subst h2; exact fun _ _ _ h => h
    | succ j => exact ih j a a' (by simpa using h1) (by simpa using h2)
  | free h ih =>
    intro j a a' h1 h2
    cases j with
    | zero => simp only [List.getElem?_cons_zero, Option.some.injEq] at h1 h2; subst h1; subst h2; exact fun _ _ _ h => rep_free h
    | succ j => exact ih j a a' (by simpa using h1) (by simpa using h2)
theorem Frees.length {l l' : List AV} (h : Frees l l') : l.length = l'.length := by
  induction h with
  | nil => rfl
  | same h ih => simp [ih]
  | free h ih => simp [ih]
section
variable {F : Fence} {P : Program} {nt : Nat} {S : St} {Q : Exit → St → Prop}
theorem AC.claimF {c : Code} {α : Type} {l : List α} {f : α → AV} {i j sz : Nat} {cs : List AV} {s : Nat} {e : TypeId} (p q : Nat) (e' : TypeId) (sz' : Nat) (hp : S.mem[p]? = some (.mrow s ((l.map f).set i (.agg cs)) e sz)) (hi : i < l.length) (hf : ∀ a, (f a).cells.length = sz) (hcs : cs.length = sz) (hj : cs[j]? = some .nils)
    (hq : S.mem[q]? = some .hole) (hpq : p ≠ q)
    (k : ∀ N, AC F P nt c ⟨S.env, (S.mem.set q (.row N 0 e' sz')).set p (.mrow s ((l.map f).set i (.agg (cs.set j (.slice [] (some N))))) e sz)⟩ Q) : AC F P nt c S Q := by
  intro g w a hid hr
  obtain ⟨N, hN⟩ := hr.inv.room
  have hpl : p < S.mem.length := (List.getElem?_eq_some_iff.1 hp).1
  have hql : q < S.mem.length := (List.getElem?_eq_some_iff.1 hq).1
  have hjl := (List.getElem?_eq_some_iff.1 hj).1
  let g' : Gh := g.put N (.val (.slice none 0 0))
  have hsy : g'.sy N = .val (.slice none 0 0) := by show (if N = N then _ else _) = _; rw [if_pos rfl]
  have hext : Ext g w g' w := ⟨rfl, Below.refl _ _, fun b o ho => ⟨ho, rfl⟩, fun s _ hs => by
    show (if s = N then _ else g.sy s) = g.sy s
    rw [if_neg (fun e => hs (by rw [e]; exact hN N (Nat.le_refl _)))], fun s hs => by cases hs⟩
  obtain ⟨R1, R2, R3, R4⟩ := hr
  have hinv := R4.set hext q (.row N 0 e' sz') (fun i ei b hi hne hb => ⟨rfl, fun _ h => h, by simp [Ent.block, hsy, symBlock, Value.ownBlock]⟩)
    ⟨_, [], hsy, World.ownsRow_nil _ _ _ _, fun b o hb => by simp [Value.ownBlock] at hb⟩ R4.lt (put_room ⟨N, hN⟩)
  have hatp : ((S.mem ++ hid.map Ent.mark).set q (.row N 0 e' sz'))[p]? = some (.mrow s ((l.map f).set i (.agg cs)) e sz) := by
    rw [List.getElem?_set_ne (Ne.symm hpq), List.getElem?_append_left hpl]; exact hp
  obtain ⟨v, xs, h1, h2, h3, h4, h5⟩ := hinv.ok _ (List.mem_of_getElem? hatp)
  have hblk : (Ent.mrow s ((l.map f).set i (.agg cs)) e sz).block g' = v.ownBlock := by simp [Ent.block, h1, symBlock]
  have hfl : ((l.map f).set i (.agg (cs.set j (.slice [] (some N))))).flatMap AV.cells = putA (((l.map f).set i (.agg cs)).flatMap AV.cells) (i * sz + j) [.slice [] (some N)] := by
    have := flat_put h3 (i := i) (j := j) (e := .agg cs) (e' := .agg (cs.set j (.slice [] (some N)))) (cs := [.slice [] (some N)]) (by rw [List.getElem?_set_self (by rw [List.length_map]; exact hi)]) (putA_one _ hjl).symm (by simp; omega)
    rw [List.set_set] at this
    exact this
  have hold := flat_at h3 i (.agg cs) j .nils (by rw [List.getElem?_set_self (by rw [List.length_map]; exact hi)]) hj
  have hpl2 : i * sz + j + 1 ≤ (((l.map f).set i (.agg cs)).flatMap AV.cells).length := by
    have := (List.getElem?_eq_some_iff.1 hold).1
    omega
  have hinv2 := hinv.set (Stab.refl g' w) p (.mrow s ((l.map f).set i (.agg (cs.set j (.slice [] (some N))))) e sz) (fun k ek b hk hne hb => ⟨rfl, fun _ h => h, fun hb2 => by
      have e1 : (Ent.mrow s ((l.map f).set i (.agg (cs.set j (.slice [] (some N))))) e sz).block g' = v.ownBlock := by simp [Ent.block, h1, symBlock]
      rw [e1] at hb2
      exact hne (hinv.apart k p ek _ _ hk hatp hb (hblk.trans hb2))⟩)
    ⟨v, xs, h1, by rw [List.length_set, List.length_map]; rw [List.length_set, List.length_map] at h2; exact h2, set_sz hf l (by show (cs.set j _).length = sz; rw [List.length_set]; exact hcs), fun k u x hu hx => by
      rw [hfl, putA_at _ _ _ (show i * sz + j + 1 ≤ _ from hpl2)] at hx
      split at hx
      · exact h4 k u x hu hx
      · split at hx
        · rename_i c1 c2
          have hk : k = i * sz + j := by simp at c2; omega
          subst hk
          simp at hx
          subst hx
          have := h4 _ u _ hu hold
          cases this
          exact .slice 0 0 (fun _ _ => undef) rfl (fun h => absurd rfl h) (sz := 0) (fun e he => by cases he) (fun i e j c h => by simp at h) (fun i e j c h => by simp at h) (Nat.le_refl _) (fun s hs => by injection hs with hs; subst hs; exact hsy)
        · exact h4 k u x hu hx, h5⟩ hinv.lt hinv.room
  rw [List.set_append_left _ _ hql, List.set_append_left _ _ (by rw [List.length_set]; exact hpl)] at hinv2
  have hr' : Rel nt g' w a ⟨S.env, (S.mem.set q (.row N 0 e' sz')).set p (.mrow s ((l.map f).set i (.agg (cs.set j (.slice [] (some N))))) e sz)⟩ hid :=
    ⟨R1, R2, EnvOK.stab hext R3, hinv2⟩
  exact wpIn_mono (k N g' w a hid hr') fun ex a' w' ⟨g2, S2, hid2, h1, h2, h3⟩ => ⟨g2, S2, hid2, h1, hext.trans h2, h3⟩
theorem AC.freezeF {c : Code} {α : Type} {l : List α} {f : α → AV} {i sz : Nat} {cs cs' : List AV} {X : α} (p s : Nat) (e : TypeId) (hp : S.mem[p]? = some (.mrow s ((l.map f).set i (.agg cs)) e sz)) (hX : f X = .agg cs') (hi : i < l.length) (hf : ∀ a, (f a).cells.length = sz) (h : Frees cs cs')
    (k : AC F P nt c ⟨S.env, S.mem.set p (.fro s ((l.set i X).map f))⟩ Q) : AC F P nt c S Q := by
  have hcs' : cs'.length = sz := by have := hf X; rw [hX] at this; exact this
  have hcs : cs.length = sz := h.length.trans hcs'
  have s1 := set_sz hf l (i := i) (A := .agg cs) hcs
  have s2 : ∀ a ∈ (l.set i X).map f, a.cells.length = sz := map_sz hf _
  have e2 : (l.set i X).map f = (l.map f).set i (.agg cs') := by rw [List.map_set, hX]
  refine AC.freeze p s _ ((l.set i X).map f) e sz hp (by rw [List.length_map, List.length_set, List.length_set, List.length_map]) s2 (fun m a a' h1 h2 => ?_) k
  rw [e2] at h2 s2
  obtain ⟨x, hx1, hx2⟩ := flat_get s1 h1
  obtain ⟨y, hy1, hy2⟩ := flat_get s2 h2
  by_cases hm : i = m / sz
  · rw [← hm, List.getElem?_set_self (by rw [List.length_map]; exact hi)] at hx1 hy1
    injection hx1 with hx1
    injection hy1 with hy1
    subst hx1; subst hy1
    exact h.at_ _ _ _ hx2 hy2
  · rw [List.getElem?_set_ne hm] at hx1 hy1
    rw [hx1] at hy1
    injection hy1 with hy1
    subst hy1
    rw [hx2] at hy2
    injection hy2 with hy2
    subst hy2
    exact fun _ _ _ h => h
end
end Go.Proofs.Ytjhecgiipajdpaa
end
section
set_option maxRecDepth 100000
namespace Go.Proofs.Ytjhecgiipajdpaa
open Go.Proofs
theorem F45 (n : Int) (lo : Int) (hi : Int) : Pure Try.prog 45 [I n, I lo, I hi] (.bool ((decide (lo ≤ n) && decide (n ≤ hi)))) := by
 intro mem
 refine Meets.body 0 Try.func45 rfl rfl ?_
 refine AC.rseq Fr.plain mixed (fun σ0 => RegOK.mk1 [0, 1, 2] ⟨[(0, I n), (1, I lo), (2, I hi)], mem⟩ (.cons (s_assign (.bool false)) .nil) (by kernel_rfl) ?_)
 refine AC.rseq Fr.plain mixed (fun σ1 => RegOK.mk1 [6] ⟨[(6, .bool ((decide (lo ≤ n) && decide (n ≤ hi))))], mem⟩ (.cons (s_move (.tmp 1 (I lo))) (.cons (s_move (.tmp 0 (I n))) (.cons (s_leq (.tmp 7 (I lo)) (.tmp 8 (I n))) (.cons (s_move (.tmp 9 (.bool (decide (lo ≤ n))))) (.cons (Step.guard _ rfl (.bool (decide (lo ≤ n))) gT (fun hb => s_move (.tmp 0 (I n)))) (.cons (Step.guard _ rfl (.bool (decide (lo ≤ n))) gT (fun hb => s_move (.tmp 2 (I hi)))) (.cons (Step.guard _ rfl (.bool (decide (lo ≤ n))) gT (fun hb => s_leq (.tmpC hb 11 (I n)) (.tmpC hb 12 (I hi)))) (.cons (s_and' (q := decide (n ≤ hi)) (fun h => h) (.tmp 10 (.bool (decide (lo ≤ n))))) (.cons (s_assign (.tmp 14 (.bool ((decide (lo ≤ n) && decide (n ≤ hi)))))) .nil))))))))) (by kernel_rfl) ?_)
 refine AC.ret ?_
 exact FinQ.ret (result1 rfl (res_tmp (v := .bool ((decide (lo ≤ n) && decide (n ≤ hi)))) rfl rfl)) ⟨by rfl, rfl⟩
theorem F46 (a b : Int) (lo : Int) (hi : Int) : Pure Try.prog 46 [.agg [I a, I b], I lo, I hi] (.bool (((decide (lo ≤ a) && decide (a ≤ b)) && decide (b ≤ hi)))) := by
 intro mem
 refine Meets.body 1 Try.func46 rfl rfl ?_
 refine AC.rseq Fr.plain mixed (fun σ0 => RegOK.mk1 [1, 2, 3] ⟨[(1, I lo), (2, I hi), (3, .ptr (σ0 0) 0)], (.box (σ0 0) [I a, I b]) :: mem⟩ (.cons (s_box 0 (σ0 0) (.tmp 0 (.agg [I a, I b])) rfl) (.cons (s_assign (.bool false)) .nil)) (by kernel_rfl) ?_)
 refine AC.rseq Fr.plain mixed (fun σ1 => RegOK.mk1 [6] ⟨[(6, .bool (((decide (lo ≤ a) && decide (a ≤ b)) && decide (b ≤ hi))))], (.box (σ0 0) [I a, I b]) :: mem⟩ (.cons (s_move (.tmp 1 (I lo))) (.cons (s_fieldAddr fld37_0 (.tmp 3 (.ptr (σ0 0) 0))) (.cons (s_load1 (cs := [I a, I b]) (c := I a) 0 tyS3 (.tmp 8 (.ptr (σ0 0) 0)) rfl) (.cons (s_leq (.tmp 7 (I lo)) (.tmp 9 (I a))) (.cons (s_move (.tmp 10 (.bool (decide (lo ≤ a))))) (.cons (Step.guard _ rfl (.bool (decide (lo ≤ a))) gT (fun hb => s_fieldAddr fld37_0 (.tmp 3 (.ptr (σ0 0) 0)))) (.cons (Step.guard _ rfl (.bool (decide (lo ≤ a))) gT (fun hb => s_load1 (cs := [I a, I b]) (c := I a) 0 tyS3 (.tmpC hb 12 (.ptr (σ0 0) 0)) rfl)) (.cons (Step.guard _ rfl (.bool (decide (lo ≤ a))) gT (fun hb => s_fieldAddr fld37_1 (.tmp 3 (.ptr (σ0 0) 0)))) (.cons (Step.guard _ rfl (.bool (decide (lo ≤ a))) gT (fun hb => s_load1 (cs := [I a, I b]) (c := I b) 0 tyS3 (.tmpC hb 14 (.ptr (σ0 0) 1)) rfl)) (.cons (Step.guard _ rfl (.bool (decide (lo ≤ a))) gT (fun hb => s_leq (.tmpC hb 13 (I a)) (.tmpC hb 15 (I b)))) (.cons (s_and' (q := decide (a ≤ b)) (fun h => h) (.tmp 11 (.bool (decide (lo ≤ a))))) (.cons (s_move (.tmp 17 (.bool ((decide (lo ≤ a) && decide (a ≤ b)))))) (.cons (Step.guard _ rfl (.bool ((decide (lo ≤ a) && decide (a ≤ b)))) gT (fun hb => s_fieldAddr fld37_1 (.tmp 3 (.ptr (σ0 0) 0)))) (.cons (Step.guard _ rfl (.bool ((decide (lo ≤ a) && decide (a ≤ b)))) gT (fun hb => s_load1 (cs := [I a, I b]) (c := I b) 0 tyS3 (.tmpC hb 19 (.ptr (σ0 0) 1)) rfl)) (.cons (Step.guard _ rfl (.bool ((decide (lo ≤ a) && decide (a ≤ b)))) gT (fun hb => s_move (.tmp 2 (I hi)))) (.cons (Step.guard _ rfl (.bool ((decide (lo ≤ a) && decide (a ≤ b)))) gT (fun hb => s_leq (.tmpC hb 20 (I b)) (.tmpC hb 21 (I hi)))) (.cons (s_and' (q := decide (b ≤ hi)) (fun h => h) (.tmp 18 (.bool ((decide (lo ≤ a) && decide (a ≤ b)))))) (.cons (s_assign (.tmp 23 (.bool (((decide (lo ≤ a) && decide (a ≤ b)) && decide (b ≤ hi)))))) .nil)))))))))))))))))) (by kernel_rfl) ?_)
 refine AC.ret ?_
 exact FinQ.ret (result1 rfl (res_tmp (v := .bool (((decide (lo ≤ a) && decide (a ≤ b)) && decide (b ≤ hi)))) rfl rfl)) ⟨by rfl, rfl⟩
theorem F64 (a : Int) (b : Int) (hb : 0 < b) (ha : -9223372036854775806 ≤ a ∧ a ≤ 9223372036854775806) : Pure Try.prog 64 [I a, I b] (I (a / b)) := by
 intro mem
 refine Meets.body 0 Try.func64 rfl rfl ?_
 refine AC.rseq Fr.plain mixed (fun σ0 => RegOK.mk1 [0, 1] ⟨[(0, I a), (1, I b)], mem⟩ (.cons (s_assign (.int .i64 (0))) .nil) (by kernel_rfl) ?_)
 refine AC.rseq Fr.plain mixed (fun σ1 => RegOK.mk1 [0, 1, 5] ⟨[(0, I a), (1, I b), (5, I (a.tdiv b))], mem⟩ (.cons (s_move (.tmp 0 (I a))) (.cons (s_move (.tmp 1 (I b))) (.cons (s_quo (.tmp 6 (I a)) (.tmp 7 (I b)) (by omega) (inK_i64 (by have h0 := quo_in hb (a := a) (by omega); omega))) (.cons (s_assign (.tmp 8 (I (a.tdiv b)))) .nil)))) (by kernel_rfl) ?_)
 refine AC.seq ?_
 refine AC.rseq Fr.plain mixed (fun σ2 => RegOK.mk1 [5, 12] ⟨[(5, I (a.tdiv b)), (12, .bool (decide ((a.tmod b) < 0)))], mem⟩ (.cons (s_move (.tmp 0 (I a))) (.cons (s_move (.tmp 1 (I b))) (.cons (s_rem (.tmp 9 (I a)) (.tmp 10 (I b)) (by omega)) (.cons (s_lss (.tmp 11 (I (a.tmod b))) (.int .i64 (0))) .nil)))) (by kernel_rfl) ?_)
 refine AC.cend (decide ((a.tmod b) < 0)) rfl rfl (fun hc => ?_) (fun hc => ?_)
 ·have q1 := iD.1 hc
  refine AC.rend Fr.plain mixed (fun σ3 => RegOK.mk1 [5] ⟨[(5, I ((a.tdiv b) - 1))], mem⟩ (.cons (s_move (.tmp 5 (I (a.tdiv b)))) (.cons (s_sub (.tmp 13 (I (a.tdiv b))) (.int .i64 (1)) (inK_i64 (by have h0 := quo_in hb (a := a) (by omega); have h1 := quo_in hb (a := a+1) (by omega); have h2 := down_lt hb q1; have h3 := div_in hb ha; omega))) (.cons (s_assign (.tmp 14 (I ((a.tdiv b) - 1)))) .nil))) (by kernel_rfl) ?_)
  refine thenQ_n ?_
  refine AC.rseq Fr.plain mixed (fun σ4 => RegOK.mk1 [4] ⟨[(4, I ((a.tdiv b) - 1))], mem⟩ (.cons (s_move (.tmp 5 (I ((a.tdiv b) - 1)))) (.cons (s_assign (.tmp 15 (I ((a.tdiv b) - 1)))) .nil)) (by kernel_rfl) ?_)
  refine AC.ret ?_
  exact FinQ.ret (result1 rfl (res_tmp (v := I ((a.tdiv b) - 1)) rfl rfl)) ⟨by first | exact congrArg I (down_lt hb q1) | exact congrArg I (down_ge hb q2), rfl⟩
 ·have q2 := iF iD hc
  refine AC.skip ?_
  refine thenQ_n ?_
  refine AC.rseq Fr.plain mixed (fun σ4 => RegOK.mk1 [4] ⟨[(4, I (a.tdiv b))], mem⟩ (.cons (s_move (.tmp 5 (I (a.tdiv b)))) (.cons (s_assign (.tmp 15 (I (a.tdiv b)))) .nil)) (by kernel_rfl) ?_)
  refine AC.ret ?_
  exact FinQ.ret (result1 rfl (res_tmp (v := I (a.tdiv b)) rfl rfl)) ⟨by first | exact congrArg I (down_lt hb q1) | exact congrArg I (down_ge hb q2), rfl⟩
theorem F65 (a : Int) (b : Int) (hb : 0 < b) (ha : -9223372036854775806 ≤ a ∧ a ≤ 9223372036854775806) : Pure Try.prog 65 [I a, I b] (I (up a b)) := by
 intro mem
 refine Meets.body 0 Try.func65 rfl rfl ?_
 refine AC.rseq Fr.plain mixed (fun σ0 => RegOK.mk1 [0, 1] ⟨[(0, I a), (1, I b)], mem⟩ (.cons (s_assign (.int .i64 (0))) .nil) (by kernel_rfl) ?_)
 refine AC.rseq Fr.plain mixed (fun σ1 => RegOK.mk1 [4] ⟨[(4, I (-((-a) / b)))], mem⟩ (.cons (s_move (.tmp 0 (I a))) (.cons (s_neg (.tmp 5 (I a)) (inK_i64 (by omega))) (.cons (s_move (.tmp 1 (I b))) (.cons (s_call (r := I ((-a) / b)) (.func 64) (.cons (.tmp 6 (I (-a))) (.cons (.tmp 7 (I b)) .nil)) call64 (F64 ((-a)) (b) (by omega) (by omega))) (.cons (s_neg (.tmp 8 (I ((-a) / b))) (inK_i64 (by have h3 := div_in hb (a := -a) (by omega); omega))) (.cons (s_assign (.tmp 9 (I (-((-a) / b))))) .nil)))))) (by kernel_rfl) ?_)
 refine AC.ret ?_
 exact FinQ.ret (result1 rfl (res_tmp (v := I (-((-a) / b))) rfl rfl)) ⟨by rfl, rfl⟩
theorem F18 (s : ByteArray) (hs : (s.size : Int) ≤ 9223372036854775807) : Pure Try.prog 18 [.str (s)] (.bool (nameOK s)) := by
 intro mem
 have hl : (s.size : Int) = (s.data.toList.length : Int) := by rw [Array.length_toList]; rfl
 refine Meets.body 0 Try.func18 rfl rfl ?_
 refine AC.rseq Fr.plain mixed (fun σ0 => RegOK.mk1 [0] ⟨[(0, .str (s))], mem⟩ (.cons (s_assign (.bool false)) .nil) (by kernel_rfl) ?_)
 refine AC.seq ?_
 refine AC.rseq Fr.plain mixed (fun σ1 => RegOK.mk1 [0, 7, 8, 9] ⟨[(0, .str (s)), (7, .slice ((s.data.toList).map U) none), (8, I (s.data.toList.length : Int)), (9, I 0)], mem⟩ (.cons (s_move (.tmp 0 (.str (s)))) (.cons (s_bytes Try.underlying9 Try.underlying81 Try.underlying5 (.tmp 6 (.str (s)))) (.cons (s_lenM (l := s.data.toList) slc81 (.tmp 7 (.slice ((s.data.toList).map U) none))) (.cons (s_move (.int .i64 (0))) .nil)))) (by kernel_rfl) ?_)
 refine AC.block ?_
 refine AC.loopW (fun mz T => ∃ (k : Nat), mz = s.data.toList.length - k ∧ ((k ≤ s.data.toList.length) ∧ (∀ j : Nat, j < k → okAt ((s.data.toList.getD j 0).toNat : Int) j)) ∧ T = ⟨[(0, .str (s)), (7, .slice ((s.data.toList).map U) none), (8, I (s.data.toList.length : Int)), (9, I (k : Int))], mem⟩) _ ⟨[(0, .str (s)), (7, .slice ((s.data.toList).map U) none), (8, I (s.data.toList.length : Int)), (9, I ((0) : Int))], mem⟩ ⟨0, rfl, ⟨(by omega), (by intro j hj; omega)⟩, rfl⟩ (Weak.of [] (by kernel_rfl) (by kernel_rfl)) ?_ Fr.plain
 rintro _ _ ⟨k, rfl, ⟨hk, hn⟩, rfl⟩
 refine AC.rseq Fr.plain mixed (fun σ2 => RegOK.mk1 [0, 7, 8, 9, 10] ⟨[(0, .str (s)), (7, .slice ((s.data.toList).map U) none), (8, I (s.data.toList.length : Int)), (9, I (k : Int)), (10, .bool (decide ((k : Int) < (s.data.toList.length : Int))))], mem⟩ (.cons (s_lss (.tmp 9 (I (k : Int))) (.tmp 8 (I (s.data.toList.length : Int)))) .nil) (by kernel_rfl) ?_)
 refine AC.cseq (decide ((k : Int) < (s.data.toList.length : Int))) rfl rfl (fun hc => ?_) (fun hc => ?_)
 ·have q1 := iD.1 hc
  refine AC.skip ?_
  refine thenQ_n ?_
  refine AC.bseq ?_
  refine AC.rseq Fr.plain mixed (fun σ3 => RegOK.mk1 [0, 3, 4, 7, 8, 9] ⟨[(0, .str (s)), (3, I (k : Int)), (4, .int .u8 (((s.data.toList.getD k 0)).toNat : Int)), (7, .slice ((s.data.toList).map U) none), (8, I (s.data.toList.length : Int)), (9, I (k : Int))], mem⟩ (.cons (s_move (.tmp 9 (I (k : Int)))) (.cons (s_ixM (l := s.data.toList) (f := U) (0) slc81 (.tmp 7 (.slice ((s.data.toList).map U) none)) (.tmp 9 (I (k : Int))) (by omega) rfl) (.cons (s_load1e (c := .int .u8 (((s.data.toList.getD k 0)).toNat : Int)) tyS5 (.tmp 12 (.eptr (.int .u8 (((s.data.toList.getD k 0)).toNat : Int)) 0)) rfl) (.cons (s_assign (.tmp 11 (I (k : Int)))) (.cons (s_assign (.tmp 13 (.int .u8 (((s.data.toList.getD k 0)).toNat : Int)))) .nil))))) (by kernel_rfl) ?_)
  refine AC.rseq Fr.plain mixed (fun σ4 => RegOK.mk1 [0, 3, 4, 5, 7, 8, 9] ⟨[(0, .str (s)), (3, I (k : Int)), (4, .int .u8 (((s.data.toList.getD k 0)).toNat : Int)), (5, .bool ((decide (97 ≤ (((s.data.toList.getD k 0)).toNat : Int)) && decide ((((s.data.toList.getD k 0)).toNat : Int) ≤ 122)))), (7, .slice ((s.data.toList).map U) none), (8, I (s.data.toList.length : Int)), (9, I (k : Int))], mem⟩ (.cons (s_move (.tmp 4 (.int .u8 (((s.data.toList.getD k 0)).toNat : Int)))) (.cons (s_geq (.tmp 14 (.int .u8 (((s.data.toList.getD k 0)).toNat : Int))) (.int .u8 (97))) (.cons (s_move (.tmp 15 (.bool (decide (97 ≤ (((s.data.toList.getD k 0)).toNat : Int)))))) (.cons (Step.guard _ rfl (.bool (decide (97 ≤ (((s.data.toList.getD k 0)).toNat : Int)))) gT (fun hb => s_move (.tmp 4 (.int .u8 (((s.data.toList.getD k 0)).toNat : Int))))) (.cons (Step.guard _ rfl (.bool (decide (97 ≤ (((s.data.toList.getD k 0)).toNat : Int)))) gT (fun hb => s_leq (.tmpC hb 17 (.int .u8 (((s.data.toList.getD k 0)).toNat : Int))) (.int .u8 (122)))) (.cons (s_and' (q := decide ((((s.data.toList.getD k 0)).toNat : Int) ≤ 122)) (fun h => h) (.tmp 16 (.bool (decide (97 ≤ (((s.data.toList.getD k 0)).toNat : Int)))))) (.cons (s_assign (.tmp 19 (.bool ((decide (97 ≤ (((s.data.toList.getD k 0)).toNat : Int)) && decide ((((s.data.toList.getD k 0)).toNat : Int) ≤ 122)))))) .nil))))))) (by kernel_rfl) ?_)
  refine AC.rseq Fr.plain mixed (fun σ5 => RegOK.mk1 [0, 7, 8, 9, 38] ⟨[(0, .str (s)), (7, .slice ((s.data.toList).map U) none), (8, I (s.data.toList.length : Int)), (9, I (k : Int)), (38, .bool (((!(decide (97 ≤ (((s.data.toList.getD k 0)).toNat : Int)) && decide ((((s.data.toList.getD k 0)).toNat : Int) ≤ 122))) && (decide ((k : Int) = 0) || ((!(decide (48 ≤ (((s.data.toList.getD k 0)).toNat : Int)) && decide ((((s.data.toList.getD k 0)).toNat : Int) ≤ 57))) && decide ((((s.data.toList.getD k 0)).toNat : Int) ≠ 45))))))], mem⟩ (.cons (s_move (.tmp 5 (.bool ((decide (97 ≤ (((s.data.toList.getD k 0)).toNat : Int)) && decide ((((s.data.toList.getD k 0)).toNat : Int) ≤ 122)))))) (.cons (s_not (.tmp 20 (.bool ((decide (97 ≤ (((s.data.toList.getD k 0)).toNat : Int)) && decide ((((s.data.toList.getD k 0)).toNat : Int) ≤ 122)))))) (.cons (s_move (.tmp 21 (.bool ((!(decide (97 ≤ (((s.data.toList.getD k 0)).toNat : Int)) && decide ((((s.data.toList.getD k 0)).toNat : Int) ≤ 122))))))) (.cons (Step.guard _ rfl (.bool ((!(decide (97 ≤ (((s.data.toList.getD k 0)).toNat : Int)) && decide ((((s.data.toList.getD k 0)).toNat : Int) ≤ 122))))) gT (fun hb => s_move (.tmp 3 (I (k : Int))))) (.cons (Step.guard _ rfl (.bool ((!(decide (97 ≤ (((s.data.toList.getD k 0)).toNat : Int)) && decide ((((s.data.toList.getD k 0)).toNat : Int) ≤ 122))))) gT (fun hb => s_eql (.tmpC hb 23 (I (k : Int))) (.int .i64 (0)))) (.cons (Step.guard _ rfl (.bool ((!(decide (97 ≤ (((s.data.toList.getD k 0)).toNat : Int)) && decide ((((s.data.toList.getD k 0)).toNat : Int) ≤ 122))))) gT (fun hb => s_move (.tmpC hb 24 (.bool (decide ((k : Int) = 0)))))) (.cons (Step.guard _ rfl (.cond ((!(decide (97 ≤ (((s.data.toList.getD k 0)).toNat : Int)) && decide ((((s.data.toList.getD k 0)).toNat : Int) ≤ 122)))) (.bool (decide ((k : Int) = 0)))) gcF (fun hb => s_move (.tmp 4 (.int .u8 (((s.data.toList.getD k 0)).toNat : Int))))) (.cons (Step.guard _ rfl (.cond ((!(decide (97 ≤ (((s.data.toList.getD k 0)).toNat : Int)) && decide ((((s.data.toList.getD k 0)).toNat : Int) ≤ 122)))) (.bool (decide ((k : Int) = 0)))) gcF (fun hb => s_geq (.tmpC hb 26 (.int .u8 (((s.data.toList.getD k 0)).toNat : Int))) (.int .u8 (48)))) (.cons (Step.guard _ rfl (.cond ((!(decide (97 ≤ (((s.data.toList.getD k 0)).toNat : Int)) && decide ((((s.data.toList.getD k 0)).toNat : Int) ≤ 122)))) (.bool (decide ((k : Int) = 0)))) gcF (fun hb => s_move (.tmpC hb 27 (.bool (decide (48 ≤ (((s.data.toList.getD k 0)).toNat : Int))))))) (.cons (Step.guard _ rfl (.cond (((!(decide (97 ≤ (((s.data.toList.getD k 0)).toNat : Int)) && decide ((((s.data.toList.getD k 0)).toNat : Int) ≤ 122))) && (!(decide ((k : Int) = 0))))) (.bool (decide (48 ≤ (((s.data.toList.getD k 0)).toNat : Int))))) gcT (fun hb => s_move (.tmp 4 (.int .u8 (((s.data.toList.getD k 0)).toNat : Int))))) (.cons (Step.guard _ rfl (.cond (((!(decide (97 ≤ (((s.data.toList.getD k 0)).toNat : Int)) && decide ((((s.data.toList.getD k 0)).toNat : Int) ≤ 122))) && (!(decide ((k : Int) = 0))))) (.bool (decide (48 ≤ (((s.data.toList.getD k 0)).toNat : Int))))) gcT (fun hb => s_leq (.tmpC hb 29 (.int .u8 (((s.data.toList.getD k 0)).toNat : Int))) (.int .u8 (57)))) (.cons (Step.guard _ rfl (.cond ((!(decide (97 ≤ (((s.data.toList.getD k 0)).toNat : Int)) && decide ((((s.data.toList.getD k 0)).toNat : Int) ≤ 122)))) (.bool (decide ((k : Int) = 0)))) gcF (fun hb => s_and' (e := (((!(decide (97 ≤ (((s.data.toList.getD k 0)).toNat : Int)) && decide ((((s.data.toList.getD k 0)).toNat : Int) ≤ 122))) && (!(decide ((k : Int) = 0)))) && decide (48 ≤ (((s.data.toList.getD k 0)).toNat : Int)))) (q := decide ((((s.data.toList.getD k 0)).toNat : Int) ≤ 57)) (fun h => andMk hb h) (.tmpC hb 28 (.bool (decide (48 ≤ (((s.data.toList.getD k 0)).toNat : Int))))))) (.cons (Step.guard _ rfl (.cond ((!(decide (97 ≤ (((s.data.toList.getD k 0)).toNat : Int)) && decide ((((s.data.toList.getD k 0)).toNat : Int) ≤ 122)))) (.bool (decide ((k : Int) = 0)))) gcF (fun hb => s_not (.tmpC hb 31 (.bool ((decide (48 ≤ (((s.data.toList.getD k 0)).toNat : Int)) && decide ((((s.data.toList.getD k 0)).toNat : Int) ≤ 57))))))) (.cons (Step.guard _ rfl (.cond ((!(decide (97 ≤ (((s.data.toList.getD k 0)).toNat : Int)) && decide ((((s.data.toList.getD k 0)).toNat : Int) ≤ 122)))) (.bool (decide ((k : Int) = 0)))) gcF (fun hb => s_move (.tmpC hb 32 (.bool ((!(decide (48 ≤ (((s.data.toList.getD k 0)).toNat : Int)) && decide ((((s.data.toList.getD k 0)).toNat : Int) ≤ 57)))))))) (.cons (Step.guard _ rfl (.cond (((!(decide (97 ≤ (((s.data.toList.getD k 0)).toNat : Int)) && decide ((((s.data.toList.getD k 0)).toNat : Int) ≤ 122))) && (!(decide ((k : Int) = 0))))) (.bool ((!(decide (48 ≤ (((s.data.toList.getD k 0)).toNat : Int)) && decide ((((s.data.toList.getD k 0)).toNat : Int) ≤ 57)))))) gcT (fun hb => s_move (.tmp 4 (.int .u8 (((s.data.toList.getD k 0)).toNat : Int))))) (.cons (Step.guard _ rfl (.cond (((!(decide (97 ≤ (((s.data.toList.getD k 0)).toNat : Int)) && decide ((((s.data.toList.getD k 0)).toNat : Int) ≤ 122))) && (!(decide ((k : Int) = 0))))) (.bool ((!(decide (48 ≤ (((s.data.toList.getD k 0)).toNat : Int)) && decide ((((s.data.toList.getD k 0)).toNat : Int) ≤ 57)))))) gcT (fun hb => s_neq (.tmpC hb 34 (.int .u8 (((s.data.toList.getD k 0)).toNat : Int))) (.int .u8 (45)))) (.cons (Step.guard _ rfl (.cond ((!(decide (97 ≤ (((s.data.toList.getD k 0)).toNat : Int)) && decide ((((s.data.toList.getD k 0)).toNat : Int) ≤ 122)))) (.bool (decide ((k : Int) = 0)))) gcF (fun hb => s_and' (e := (((!(decide (97 ≤ (((s.data.toList.getD k 0)).toNat : Int)) && decide ((((s.data.toList.getD k 0)).toNat : Int) ≤ 122))) && (!(decide ((k : Int) = 0)))) && (!(decide (48 ≤ (((s.data.toList.getD k 0)).toNat : Int)) && decide ((((s.data.toList.getD k 0)).toNat : Int) ≤ 57))))) (q := decide ((((s.data.toList.getD k 0)).toNat : Int) ≠ 45)) (fun h => andMk hb h) (.tmpC hb 33 (.bool ((!(decide (48 ≤ (((s.data.toList.getD k 0)).toNat : Int)) && decide ((((s.data.toList.getD k 0)).toNat : Int) ≤ 57)))))))) (.cons (Step.guard _ rfl (.bool ((!(decide (97 ≤ (((s.data.toList.getD k 0)).toNat : Int)) && decide ((((s.data.toList.getD k 0)).toNat : Int) ≤ 122))))) gT (fun hb => s_or' (e := ((!(decide (97 ≤ (((s.data.toList.getD k 0)).toNat : Int)) && decide ((((s.data.toList.getD k 0)).toNat : Int) ≤ 122))) && (!(decide ((k : Int) = 0))))) (q := ((!(decide (48 ≤ (((s.data.toList.getD k 0)).toNat : Int)) && decide ((((s.data.toList.getD k 0)).toNat : Int) ≤ 57))) && decide ((((s.data.toList.getD k 0)).toNat : Int) ≠ 45))) (fun h => andMk hb (notMk h)) (.tmpC hb 25 (.bool (decide ((k : Int) = 0)))))) (.cons (s_and' (q := (decide ((k : Int) = 0) || ((!(decide (48 ≤ (((s.data.toList.getD k 0)).toNat : Int)) && decide ((((s.data.toList.getD k 0)).toNat : Int) ≤ 57))) && decide ((((s.data.toList.getD k 0)).toNat : Int) ≠ 45)))) (fun h => h) (.tmp 22 (.bool ((!(decide (97 ≤ (((s.data.toList.getD k 0)).toNat : Int)) && decide ((((s.data.toList.getD k 0)).toNat : Int) ≤ 122))))))) .nil))))))))))))))))))) (by kernel_rfl) ?_)
  refine AC.cend (((!(decide (97 ≤ (((s.data.toList.getD k 0)).toNat : Int)) && decide ((((s.data.toList.getD k 0)).toNat : Int) ≤ 122))) && (decide ((k : Int) = 0) || ((!(decide (48 ≤ (((s.data.toList.getD k 0)).toNat : Int)) && decide ((((s.data.toList.getD k 0)).toNat : Int) ≤ 57))) && decide ((((s.data.toList.getD k 0)).toNat : Int) ≠ 45))))) rfl rfl (fun hc => ?_) (fun hc => ?_)
  ·have q2 := (iA (iN (iA iD iD)) (iO iD (iA (iN (iA iD iD)) iD))).1 hc
   refine AC.rseq Fr.plain mixed (fun σ6 => RegOK.mk1 [2] ⟨[(2, .bool (false))], mem⟩ (.cons (s_assign (.bool false)) .nil) (by kernel_rfl) ?_)
   refine AC.ret ?_
   refine blockQ_r ?_
   refine thenQ_r ?_
   refine thenQ_r ?_
   refine blockQ_r ?_
   refine thenQ_r ?_
   exact FinQ.ret (result1 rfl (res_tmp (v := .bool (false)) rfl rfl)) ⟨by first | exact congrArg AV.bool (name18f (k := k) (by omega) (by unfold okAt; omega)) | exact congrArg AV.bool (name18 (by intro j hj; exact hn j (by omega))), rfl⟩
  ·have q3 := iF (iA (iN (iA iD iD)) (iO iD (iA (iN (iA iD iD)) iD))) hc
   refine AC.skip ?_
   refine blockQ_n ?_
   refine thenQ_n ?_
   refine AC.rend Fr.plain mixed (fun σ7 => RegOK.mk1 [0, 7, 8, 9] ⟨[(0, .str (s)), (7, .slice ((s.data.toList).map U) none), (8, I (s.data.toList.length : Int)), (9, I ((k : Int) + 1))], mem⟩ (.cons (s_add (.tmp 9 (I (k : Int))) (.int .i64 (1)) (inK_i64 (by omega))) (.cons (s_move (.tmp 39 (I ((k : Int) + 1)))) .nil)) (by kernel_rfl) ?_)
   refine thenQ_n ⟨_, ?_, _, ⟨(k + 1), rfl, ⟨(by omega), (by intro j hj; rcases Decidable.em (j = k) with hjk | hjk; (subst hjk; unfold okAt; omega); exact hn j (by omega))⟩, rfl⟩, Weak.of [] (by kernel_rfl) (by kernel_rfl)⟩
   omega
 ·have q4 := iF iD hc
  refine AC.exit ?_
  refine thenQ_x ?_
  refine thenQ_x ?_
  refine blockQ_x ?_
  refine thenQ_n ?_
  refine AC.rseq Fr.plain mixed (fun σ8 => RegOK.mk1 [2] ⟨[(2, .bool ((decide (s ≠ ⟨#[]⟩) && decide ((s.size : Int) ≤ 24))))], mem⟩ (.cons (s_move (.tmp 0 (.str (s)))) (.cons (s_bytes_neq (.tmp 40 (.str (s))) (.str ⟨#[]⟩)) (.cons (s_move (.tmp 41 (.bool (decide (s ≠ ⟨#[]⟩))))) (.cons (Step.guard _ rfl (.bool (decide (s ≠ ⟨#[]⟩))) gT (fun hb => s_move (.tmp 0 (.str (s))))) (.cons (Step.guard _ rfl (.bool (decide (s ≠ ⟨#[]⟩))) gT (fun hb => s_lenS Try.underlying9 (.tmpC hb 43 (.str (s))))) (.cons (Step.guard _ rfl (.bool (decide (s ≠ ⟨#[]⟩))) gT (fun hb => s_leq (.tmpC hb 44 (I (s.size : Int))) (.int .i64 (24)))) (.cons (s_and' (q := decide ((s.size : Int) ≤ 24)) (fun h => h) (.tmp 42 (.bool (decide (s ≠ ⟨#[]⟩))))) (.cons (s_assign (.tmp 46 (.bool ((decide (s ≠ ⟨#[]⟩) && decide ((s.size : Int) ≤ 24)))))) .nil)))))))) (by kernel_rfl) ?_)
  refine AC.ret ?_
  exact FinQ.ret (result1 rfl (res_tmp (v := .bool ((decide (s ≠ ⟨#[]⟩) && decide ((s.size : Int) ≤ 24)))) rfl rfl)) ⟨by first | exact congrArg AV.bool (name18f (k := k) (by omega) (by unfold okAt; omega)) | exact congrArg AV.bool (name18 (by intro j hj; exact hn j (by omega))), rfl⟩
end Go.Proofs.Ytjhecgiipajdpaa
end
section
set_option maxRecDepth 100000
namespace Go.Proofs.Ytjhecgiipajdpaa
open Go.Proofs
theorem F98 (a : Int) (b : Int) (hb : (-5000 ≤ a ∧ a ≤ 5000) ∧ (-5000 ≤ b ∧ b ≤ 5000)) : Pure Try.prog 98 [I a, I b] (.tuple [I (sqLo a b), I (sqHi a b)]) := by
 intro mem
 have s1 := mulB 5000 5000 (a := a) (b := a) (by omega) (by omega)
 have s2 := mulB 5000 5000 (a := b) (b := b) (by omega) (by omega)
 refine Meets.body 0 Try.func98 rfl rfl ?_
 refine AC.rseq Fr.plain mixed (fun σ0 => RegOK.mk1 [0, 1] ⟨[(0, I a), (1, I b)], mem⟩ (.cons (s_assign (.int .i64 (0))) (.cons (s_assign (.int .i64 (0))) .nil)) (by kernel_rfl) ?_)
 refine AC.rseq Fr.plain mixed (fun σ1 => RegOK.mk1 [0, 1, 4, 5] ⟨[(0, I a), (1, I b), (4, I (min (a * a) (b * b))), (5, I (max (a * a) (b * b)))], mem⟩ (.cons (s_move (.tmp 0 (I a))) (.cons (s_move (.tmp 0 (I a))) (.cons (s_mul (.tmp 6 (I a)) (.tmp 7 (I a)) (inK_i64 (by omega))) (.cons (s_move (.tmp 1 (I b))) (.cons (s_move (.tmp 1 (I b))) (.cons (s_mul (.tmp 9 (I b)) (.tmp 10 (I b)) (inK_i64 (by omega))) (.cons (s_minF (x := (a * a)) (l := [(b * b)]) (.cons (.tmp 8 (I (a * a))) (.cons (.tmp 11 (I (b * b))) .nil))) (.cons (s_move (.tmp 0 (I a))) (.cons (s_move (.tmp 0 (I a))) (.cons (s_mul (.tmp 13 (I a)) (.tmp 14 (I a)) (inK_i64 (by omega))) (.cons (s_move (.tmp 1 (I b))) (.cons (s_move (.tmp 1 (I b))) (.cons (s_mul (.tmp 16 (I b)) (.tmp 17 (I b)) (inK_i64 (by omega))) (.cons (s_maxF (x := (a * a)) (l := [(b * b)]) (.cons (.tmp 15 (I (a * a))) (.cons (.tmp 18 (I (b * b))) .nil))) (.cons (s_assign (.tmp 12 (I (min (a * a) (b * b))))) (.cons (s_assign (.tmp 19 (I (max (a * a) (b * b))))) .nil)))))))))))))))) (by kernel_rfl) ?_)
 refine AC.seq ?_
 refine AC.rseq Fr.plain mixed (fun σ2 => RegOK.mk1 [4, 5, 25] ⟨[(4, I (min (a * a) (b * b))), (5, I (max (a * a) (b * b))), (25, .bool ((decide (a ≤ 0) && decide (0 ≤ b))))], mem⟩ (.cons (s_move (.tmp 0 (I a))) (.cons (s_leq (.tmp 20 (I a)) (.int .i64 (0))) (.cons (s_move (.tmp 21 (.bool (decide (a ≤ 0))))) (.cons (Step.guard _ rfl (.bool (decide (a ≤ 0))) gT (fun hb => s_move (.tmp 1 (I b)))) (.cons (Step.guard _ rfl (.bool (decide (a ≤ 0))) gT (fun hb => s_leq (.int .i64 (0)) (.tmpC hb 23 (I b)))) (.cons (s_and' (q := decide (0 ≤ b)) (fun h => h) (.tmp 22 (.bool (decide (a ≤ 0))))) .nil)))))) (by kernel_rfl) ?_)
 refine AC.cend ((decide (a ≤ 0) && decide (0 ≤ b))) rfl rfl (fun hc => ?_) (fun hc => ?_)
 ·have q1 := (iA iD iD).1 hc
  refine AC.rend Fr.plain mixed (fun σ3 => RegOK.mk1 [4, 5] ⟨[(4, I 0), (5, I (max (a * a) (b * b)))], mem⟩ (.cons (s_assign (.int .i64 (0))) .nil) (by kernel_rfl) ?_)
  refine thenQ_n ?_
  refine AC.rseq Fr.plain mixed (fun σ4 => RegOK.mk1 [4, 5] ⟨[(4, I 0), (5, I (max (a * a) (b * b)))], mem⟩ (.cons (s_move (.tmp 4 (I 0))) (.cons (s_move (.tmp 5 (I (max (a * a) (b * b))))) (.cons (s_assign (.tmp 26 (I 0))) (.cons (s_assign (.tmp 27 (I (max (a * a) (b * b))))) .nil)))) (by kernel_rfl) ?_)
  refine AC.ret ?_
  exact FinQ.ret (result2 rfl (res_tmp (v := I 0) rfl rfl) (res_tmp (v := I (max (a * a) (b * b))) rfl rfl)) ⟨by unfold sqLo sqHi; first | rw [if_pos (by assumption)] | rw [if_neg (by assumption)], rfl⟩
 ·have q2 := iF (iA iD iD) hc
  refine AC.skip ?_
  refine thenQ_n ?_
  refine AC.rseq Fr.plain mixed (fun σ4 => RegOK.mk1 [4, 5] ⟨[(4, I (min (a * a) (b * b))), (5, I (max (a * a) (b * b)))], mem⟩ (.cons (s_move (.tmp 4 (I (min (a * a) (b * b))))) (.cons (s_move (.tmp 5 (I (max (a * a) (b * b))))) (.cons (s_assign (.tmp 26 (I (min (a * a) (b * b))))) (.cons (s_assign (.tmp 27 (I (max (a * a) (b * b))))) .nil)))) (by kernel_rfl) ?_)
  refine AC.ret ?_
  exact FinQ.ret (result2 rfl (res_tmp (v := I (min (a * a) (b * b))) rfl rfl) (res_tmp (v := I (max (a * a) (b * b))) rfl rfl)) ⟨by unfold sqLo sqHi; first | rw [if_pos (by assumption)] | rw [if_neg (by assumption)], rfl⟩
theorem F99 (n : Int) (hn : 0 ≤ n ∧ n ≤ 60000000) : Pure Try.prog 99 [I n] (I (root17 n)) := by
 intro mem
 refine Meets.body 0 Try.func99 rfl rfl ?_
 refine AC.rseq Fr.plain mixed (fun σ0 => RegOK.mk1 [0] ⟨[(0, I n)], mem⟩ (.cons (s_assign (.int .i64 (0))) .nil) (by kernel_rfl) ?_)
 refine AC.rseq Fr.plain mixed (fun σ1 => RegOK.mk1 [0, 3] ⟨[(0, I n), (3, I 0)], mem⟩ (.cons (s_assign (.int .i64 (0))) .nil) (by kernel_rfl) ?_)
 refine AC.seq ?_
 refine AC.rseq Fr.plain mixed (fun σ2 => RegOK.mk1 [0, 3, 4] ⟨[(0, I n), (3, I 0), (4, I 65536)], mem⟩ (.cons (s_assign (.int .i64 (65536))) .nil) (by kernel_rfl) ?_)
 refine AC.block ?_
 refine AC.loopW (fun mz T => ∃ (k : Nat), ∃ (b : Int), ∃ (r : Int), mz = 0 + k ∧ ((k ≤ 17) ∧ (b = bitOf k) ∧ (0 ≤ r) ∧ (r * r ≤ n) ∧ (rt n k r = root17 n)) ∧ T = ⟨[(0, I n), (3, I r), (4, I b)], mem⟩) _ ⟨[(0, I n), (3, I (0)), (4, I (65536))], mem⟩ ⟨17, 65536, 0, rfl, ⟨(by omega), (by rfl), (by omega), (by omega), (by rfl)⟩, rfl⟩ (Weak.of [] (by kernel_rfl) (by kernel_rfl)) ?_ Fr.plain
 rintro _ _ ⟨k, b, r, rfl, ⟨hk, hb, hr, hs, ht⟩, rfl⟩
 refine AC.seq ?_
 refine AC.rseq Fr.plain mixed (fun σ3 => RegOK.mk1 [0, 3, 4, 6] ⟨[(0, I n), (3, I r), (4, I b), (6, .bool (decide (0 < b)))], mem⟩ (.cons (s_move (.tmp 4 (I b))) (.cons (s_gtr (.tmp 5 (I b)) (.int .i64 (0))) .nil)) (by kernel_rfl) ?_)
 refine AC.cend (decide (0 < b)) rfl rfl (fun hc => ?_) (fun hc => ?_)
 ·have q1 := iD.1 hc
  have hk0 : k ≠ 0 := by
    intro e
    subst e
    rw [hb] at q1
    exact absurd q1 (by decide)
  obtain ⟨j, rfl⟩ := Nat.exists_eq_succ_of_ne_zero hk0
  have hbj : b = 2 ^ j := hb
  have hbb := bitOf_le hk
  rw [← hb] at hbb
  have hr2 := sq_lt (a := r) (b := 131072) (by omega) (by omega)
  have m := mulN 200000 200000 (a := r + b) (b := r + b) (by omega) (by omega)
  have hh := bitOf_half j
  rw [show bitOf (j + 1) = b from hb.symm] at hh
  have hb2 := bitOf_le (k := j) (by omega)
  refine AC.skip ?_
  refine thenQ_n ?_
  refine AC.bseq ?_
  refine AC.rseq Fr.plain mixed (fun σ5 => RegOK.mk1 [0, 3, 4, 17] ⟨[(0, I n), (3, I r), (4, I b), (17, .bool (decide (((r + b) * (r + b)) ≤ n)))], mem⟩ (.cons (s_move (.tmp 3 (I r))) (.cons (s_move (.tmp 4 (I b))) (.cons (s_add (.tmp 9 (I r)) (.tmp 10 (I b)) (inK_i64 (by omega))) (.cons (s_move (.tmp 3 (I r))) (.cons (s_move (.tmp 4 (I b))) (.cons (s_add (.tmp 12 (I r)) (.tmp 13 (I b)) (inK_i64 (by omega))) (.cons (s_mul (.tmp 11 (I (r + b))) (.tmp 14 (I (r + b))) (inK_i64 (by omega))) (.cons (s_move (.tmp 0 (I n))) (.cons (s_leq (.tmp 15 (I ((r + b) * (r + b)))) (.tmp 16 (I n))) .nil))))))))) (by kernel_rfl) ?_)
  refine AC.cend (decide (((r + b) * (r + b)) ≤ n)) rfl rfl (fun hc => ?_) (fun hc => ?_)
  ·have q2 := iD.1 hc
   refine AC.rend Fr.plain mixed (fun σ6 => RegOK.mk1 [0, 3, 4] ⟨[(0, I n), (3, I (r + b)), (4, I b)], mem⟩ (.cons (s_move (.tmp 3 (I r))) (.cons (s_move (.tmp 4 (I b))) (.cons (s_add (.tmp 18 (I r)) (.tmp 19 (I b)) (inK_i64 (by omega))) (.cons (s_assign (.tmp 20 (I (r + b)))) .nil)))) (by kernel_rfl) ?_)
   refine blockQ_n ?_
   refine thenQ_n ?_
   refine AC.rend Fr.plain mixed (fun σ4 => RegOK.mk1 [0, 3, 4] ⟨[(0, I n), (3, I (r + b)), (4, I (b.tdiv 2))], mem⟩ (.cons (s_move (.tmp 4 (I b))) (.cons (s_quo (.tmp 7 (I b)) (.int .i64 (2)) (by omega) (inK_i64 (by rw [hh]; omega))) (.cons (s_assign (.tmp 8 (I (b.tdiv 2)))) .nil))) (by kernel_rfl) ?_)
   refine thenQ_n ⟨_, ?_, _, ⟨j, (b.tdiv 2), (r + b), rfl, ⟨(by omega), (by exact hh), (by omega), (by omega), (by rw [← ht]; show rt n j _ = rt n j (if _ then _ else _); first | rw [if_pos (by rw [← hbj]; assumption), hbj] | rw [if_neg (by rw [← hbj]; assumption)])⟩, rfl⟩, Weak.of [] (by kernel_rfl) (by kernel_rfl)⟩
   omega
  ·have q3 := iF iD hc
   refine AC.skip ?_
   refine blockQ_n ?_
   refine thenQ_n ?_
   refine AC.rend Fr.plain mixed (fun σ4 => RegOK.mk1 [0, 3, 4] ⟨[(0, I n), (3, I r), (4, I (b.tdiv 2))], mem⟩ (.cons (s_move (.tmp 4 (I b))) (.cons (s_quo (.tmp 7 (I b)) (.int .i64 (2)) (by omega) (inK_i64 (by rw [hh]; omega))) (.cons (s_assign (.tmp 8 (I (b.tdiv 2)))) .nil))) (by kernel_rfl) ?_)
   refine thenQ_n ⟨_, ?_, _, ⟨j, (b.tdiv 2), r, rfl, ⟨(by omega), (by exact hh), (by omega), (by omega), (by rw [← ht]; show rt n j _ = rt n j (if _ then _ else _); first | rw [if_pos (by rw [← hbj]; assumption), hbj] | rw [if_neg (by rw [← hbj]; assumption)])⟩, rfl⟩, Weak.of [] (by kernel_rfl) (by kernel_rfl)⟩
   omega
 ·have q4 := iF iD hc
  have hk0 : k = 0 := by
    rcases Nat.eq_zero_or_pos k with e | e
    · exact e
    · obtain ⟨j, rfl⟩ := Nat.exists_eq_succ_of_ne_zero (show k ≠ 0 by omega)
      have := bitOf_pos j
      rw [show bitOf (j + 1) = b from hb.symm] at this
      omega
  subst hk0
  refine AC.exit ?_
  refine thenQ_x ?_
  refine thenQ_x ?_
  refine blockQ_x ?_
  refine thenQ_n ?_
  refine AC.rseq Fr.plain mixed (fun σ7 => RegOK.mk1 [2] ⟨[(2, I r)], mem⟩ (.cons (s_move (.tmp 3 (I r))) (.cons (s_assign (.tmp 21 (I r))) .nil)) (by kernel_rfl) ?_)
  refine AC.ret ?_
  exact FinQ.ret (result1 rfl (res_tmp (v := I r) rfl rfl)) ⟨by rw [← ht]; rfl, rfl⟩
theorem F100 (n : Int) (hn : 0 ≤ n ∧ n ≤ 10000) : Pure Try.prog 100 [I n] (I (cub n)) := by
 intro mem
 have m := mulN 10000 10000 (a := n) (b := n) hn hn
 have m2 := mulN 100000000 10000 (a := n * n) (b := n) (by omega) hn
 refine Meets.body 0 Try.func100 rfl rfl ?_
 refine AC.rseq Fr.plain mixed (fun σ0 => RegOK.mk1 [0] ⟨[(0, I n)], mem⟩ (.cons (s_assign (.int .i64 (0))) .nil) (by kernel_rfl) ?_)
 refine AC.rseq Fr.plain mixed (fun σ1 => RegOK.mk1 [2] ⟨[(2, I ((n * n) * n))], mem⟩ (.cons (s_move (.tmp 0 (I n))) (.cons (s_move (.tmp 0 (I n))) (.cons (s_mul (.tmp 3 (I n)) (.tmp 4 (I n)) (inK_i64 (by omega))) (.cons (s_move (.tmp 0 (I n))) (.cons (s_mul (.tmp 5 (I (n * n))) (.tmp 6 (I n)) (inK_i64 (by omega))) (.cons (s_assign (.tmp 7 (I ((n * n) * n)))) .nil)))))) (by kernel_rfl) ?_)
 refine AC.ret ?_
 exact FinQ.ret (result1 rfl (res_tmp (v := I ((n * n) * n)) rfl rfl)) ⟨by rfl, rfl⟩
theorem F74 (x y : Int) (u0 : Int) (u1 : Int) (v0 : Int) (v1 : Int) (hx : 0 ≤ x ∧ x ≤ 10000000) (hy : 0 ≤ y ∧ y ≤ 10000000) (hu : Rg u0 u1) (hv : Rg v0 v1) : Pure Try.prog 74 [.agg [I x, I y], I u0, I u1, I v0, I v1] (.agg [I (pieceLo x u0 u1 v0 v1), I (pieceHi y u0 u1 v0 v1)]) := by
 intro mem
 have nf := near_in hu hv
 have rs := roots_in hu hv
 have pi := piece_in hx hu hv
 have pj := piece_in hy hu hv
 have s1 := sqLo_hi hu.2.1
 have s2 := sqLo_hi hv.2.1
 have ar := area_in hu hv
 have c1 := cub_big rs.1
 have c2 := cub_big (show 1000 ≤ rootUp (farSq u0 u1 v0 v1) by omega)
 have m1 := mulN 10000 10000 (a := root17 (farSq u0 u1 v0 v1)) (b := root17 (farSq u0 u1 v0 v1)) (by unfold rootUp at rs; split at rs <;> omega) (by unfold rootUp at rs; split at rs <;> omega)
 have rf : 0 ≤ root17 (farSq u0 u1 v0 v1) ∧ root17 (farSq u0 u1 v0 v1) ≤ 7747 := by unfold rootUp at rs; split at rs <;> omega
 have ra := mulN 10000 10000 (a := u1 - u0) (b := v1 - v0) (by unfold Rg at hu; omega) (by unfold Rg at hv; omega)
 have hu9 := hu
 have hv9 := hv
 unfold Rg at hu9 hv9
 unfold area at *
 unfold nearSq farSq at *
 refine Meets.body 2 Try.func74 rfl rfl ?_
 refine AC.rseq Fr.plain mixed (fun σ0 => RegOK.mk1 [1, 2, 3, 4, 5, 10] ⟨[(1, I u0), (2, I u1), (3, I v0), (4, I v1), (5, .ptr (σ0 0) 0), (10, .ptr (σ0 1) 0)], (.box (σ0 0) [I x, I y]) :: (.box (σ0 1) [I 0, I 0]) :: mem⟩ (.cons (s_box 0 (σ0 0) (.tmp 0 (.agg [I x, I y])) rfl) (.cons (s_alloc 1 (σ0 1) zero37) .nil)) (by kernel_rfl) ?_)
 refine AC.rseq Fr.plain mixed (fun σ1 => RegOK.mk1 [1, 2, 3, 4, 5, 10, 11, 12] ⟨[(1, I u0), (2, I u1), (3, I v0), (4, I v1), (5, .ptr (σ0 0) 0), (10, .ptr (σ0 1) 0), (11, I (sqLo u0 u1)), (12, I (sqHi u0 u1))], (.box (σ0 0) [I x, I y]) :: (.box (σ0 1) [I 0, I 0]) :: mem⟩ (.cons (s_move (.tmp 1 (I u0))) (.cons (s_move (.tmp 2 (I u1))) (.cons (s_call (r := .tuple [I (sqLo u0 u1), I (sqHi u0 u1)]) (.func 98) (.cons (.tmp 18 (I u0)) (.cons (.tmp 19 (I u1)) .nil)) call98 (F98 (u0) (u1) (by omega))) (.cons (s_move (.tmp 20 (.tuple [I (sqLo u0 u1), I (sqHi u0 u1)]))) (.cons (s_extract (v := I (sqLo u0 u1)) (.tmp 17 (.tuple [I (sqLo u0 u1), I (sqHi u0 u1)])) rfl) (.cons (s_extract (v := I (sqHi u0 u1)) (.tmp 17 (.tuple [I (sqLo u0 u1), I (sqHi u0 u1)])) rfl) (.cons (s_assign (.tmp 21 (I (sqLo u0 u1)))) (.cons (s_assign (.tmp 22 (I (sqHi u0 u1)))) .nil)))))))) (by kernel_rfl) ?_)
 refine AC.rseq Fr.plain mixed (fun σ2 => RegOK.mk1 [1, 2, 3, 4, 5, 10, 11, 12, 13, 14] ⟨[(1, I u0), (2, I u1), (3, I v0), (4, I v1), (5, .ptr (σ0 0) 0), (10, .ptr (σ0 1) 0), (11, I (sqLo u0 u1)), (12, I (sqHi u0 u1)), (13, I (sqLo v0 v1)), (14, I (sqHi v0 v1))], (.box (σ0 0) [I x, I y]) :: (.box (σ0 1) [I 0, I 0]) :: mem⟩ (.cons (s_move (.tmp 3 (I v0))) (.cons (s_move (.tmp 4 (I v1))) (.cons (s_call (r := .tuple [I (sqLo v0 v1), I (sqHi v0 v1)]) (.func 98) (.cons (.tmp 24 (I v0)) (.cons (.tmp 25 (I v1)) .nil)) call98 (F98 (v0) (v1) (by omega))) (.cons (s_move (.tmp 26 (.tuple [I (sqLo v0 v1), I (sqHi v0 v1)]))) (.cons (s_extract (v := I (sqLo v0 v1)) (.tmp 23 (.tuple [I (sqLo v0 v1), I (sqHi v0 v1)])) rfl) (.cons (s_extract (v := I (sqHi v0 v1)) (.tmp 23 (.tuple [I (sqLo v0 v1), I (sqHi v0 v1)])) rfl) (.cons (s_assign (.tmp 27 (I (sqLo v0 v1)))) (.cons (s_assign (.tmp 28 (I (sqHi v0 v1)))) .nil)))))))) (by kernel_rfl) ?_)
 refine AC.rseq Fr.plain mixed (fun σ3 => RegOK.mk1 [1, 2, 3, 4, 5, 10, 11, 12] ⟨[(1, I u0), (2, I u1), (3, I v0), (4, I v1), (5, .ptr (σ0 0) 0), (10, .ptr (σ0 1) 0), (11, I (((sqLo u0 u1) + (sqLo v0 v1)) + 1000000)), (12, I (((sqHi u0 u1) + (sqHi v0 v1)) + 1000000))], (.box (σ0 0) [I x, I y]) :: (.box (σ0 1) [I 0, I 0]) :: mem⟩ (.cons (s_move (.tmp 11 (I (sqLo u0 u1)))) (.cons (s_move (.tmp 13 (I (sqLo v0 v1)))) (.cons (s_add (.tmp 29 (I (sqLo u0 u1))) (.tmp 30 (I (sqLo v0 v1))) (inK_i64 (by omega))) (.cons (s_add (.tmp 31 (I ((sqLo u0 u1) + (sqLo v0 v1)))) (.int .i64 (1000000)) (inK_i64 (by omega))) (.cons (s_move (.tmp 12 (I (sqHi u0 u1)))) (.cons (s_move (.tmp 14 (I (sqHi v0 v1)))) (.cons (s_add (.tmp 33 (I (sqHi u0 u1))) (.tmp 34 (I (sqHi v0 v1))) (inK_i64 (by omega))) (.cons (s_add (.tmp 35 (I ((sqHi u0 u1) + (sqHi v0 v1)))) (.int .i64 (1000000)) (inK_i64 (by omega))) (.cons (s_assign (.tmp 32 (I (((sqLo u0 u1) + (sqLo v0 v1)) + 1000000)))) (.cons (s_assign (.tmp 36 (I (((sqHi u0 u1) + (sqHi v0 v1)) + 1000000)))) .nil)))))))))) (by kernel_rfl) ?_)
 refine AC.rseq Fr.plain mixed (fun σ4 => RegOK.mk1 [1, 2, 3, 4, 5, 10, 11, 12, 15] ⟨[(1, I u0), (2, I u1), (3, I v0), (4, I v1), (5, .ptr (σ0 0) 0), (10, .ptr (σ0 1) 0), (11, I (((sqLo u0 u1) + (sqLo v0 v1)) + 1000000)), (12, I (((sqHi u0 u1) + (sqHi v0 v1)) + 1000000)), (15, I (root17 (((sqHi u0 u1) + (sqHi v0 v1)) + 1000000)))], (.box (σ0 0) [I x, I y]) :: (.box (σ0 1) [I 0, I 0]) :: mem⟩ (.cons (s_move (.tmp 12 (I (((sqHi u0 u1) + (sqHi v0 v1)) + 1000000)))) (.cons (s_call (r := I (root17 (((sqHi u0 u1) + (sqHi v0 v1)) + 1000000))) (.func 99) (.cons (.tmp 37 (I (((sqHi u0 u1) + (sqHi v0 v1)) + 1000000))) .nil) call99 (F99 ((((sqHi u0 u1) + (sqHi v0 v1)) + 1000000)) (by omega))) (.cons (s_assign (.tmp 38 (I (root17 (((sqHi u0 u1) + (sqHi v0 v1)) + 1000000))))) .nil))) (by kernel_rfl) ?_)
 refine AC.seq ?_
 refine AC.rseq Fr.plain mixed (fun σ5 => RegOK.mk1 [1, 2, 3, 4, 5, 10, 11, 15, 43] ⟨[(1, I u0), (2, I u1), (3, I v0), (4, I v1), (5, .ptr (σ0 0) 0), (10, .ptr (σ0 1) 0), (11, I (((sqLo u0 u1) + (sqLo v0 v1)) + 1000000)), (15, I (root17 (((sqHi u0 u1) + (sqHi v0 v1)) + 1000000))), (43, .bool (decide (((root17 (((sqHi u0 u1) + (sqHi v0 v1)) + 1000000)) * (root17 (((sqHi u0 u1) + (sqHi v0 v1)) + 1000000))) < (((sqHi u0 u1) + (sqHi v0 v1)) + 1000000))))], (.box (σ0 0) [I x, I y]) :: (.box (σ0 1) [I 0, I 0]) :: mem⟩ (.cons (s_move (.tmp 15 (I (root17 (((sqHi u0 u1) + (sqHi v0 v1)) + 1000000))))) (.cons (s_move (.tmp 15 (I (root17 (((sqHi u0 u1) + (sqHi v0 v1)) + 1000000))))) (.cons (s_mul (.tmp 39 (I (root17 (((sqHi u0 u1) + (sqHi v0 v1)) + 1000000)))) (.tmp 40 (I (root17 (((sqHi u0 u1) + (sqHi v0 v1)) + 1000000)))) (inK_i64 (by omega))) (.cons (s_move (.tmp 12 (I (((sqHi u0 u1) + (sqHi v0 v1)) + 1000000)))) (.cons (s_lss (.tmp 41 (I ((root17 (((sqHi u0 u1) + (sqHi v0 v1)) + 1000000)) * (root17 (((sqHi u0 u1) + (sqHi v0 v1)) + 1000000))))) (.tmp 42 (I (((sqHi u0 u1) + (sqHi v0 v1)) + 1000000)))) .nil))))) (by kernel_rfl) ?_)
 refine AC.cend (decide (((root17 (((sqHi u0 u1) + (sqHi v0 v1)) + 1000000)) * (root17 (((sqHi u0 u1) + (sqHi v0 v1)) + 1000000))) < (((sqHi u0 u1) + (sqHi v0 v1)) + 1000000))) rfl rfl (fun hc => ?_) (fun hc => ?_)
 ·have q1 := iD.1 hc
  have hru : rootUp (((sqHi u0 u1) + (sqHi v0 v1)) + 1000000) = root17 (((sqHi u0 u1) + (sqHi v0 v1)) + 1000000) + 1 := by unfold rootUp; rw [if_pos (by omega)]
  rw [hru] at c2 rs
  refine AC.rend Fr.plain mixed (fun σ6 => RegOK.mk1 [1, 2, 3, 4, 5, 10, 11, 15] ⟨[(1, I u0), (2, I u1), (3, I v0), (4, I v1), (5, .ptr (σ0 0) 0), (10, .ptr (σ0 1) 0), (11, I (((sqLo u0 u1) + (sqLo v0 v1)) + 1000000)), (15, I ((root17 (((sqHi u0 u1) + (sqHi v0 v1)) + 1000000)) + 1))], (.box (σ0 0) [I x, I y]) :: (.box (σ0 1) [I 0, I 0]) :: mem⟩ (.cons (s_move (.tmp 15 (I (root17 (((sqHi u0 u1) + (sqHi v0 v1)) + 1000000))))) (.cons (s_add (.tmp 44 (I (root17 (((sqHi u0 u1) + (sqHi v0 v1)) + 1000000)))) (.int .i64 (1)) (inK_i64 (by omega))) (.cons (s_assign (.tmp 45 (I ((root17 (((sqHi u0 u1) + (sqHi v0 v1)) + 1000000)) + 1)))) .nil))) (by kernel_rfl) ?_)
  refine thenQ_n ?_
  refine AC.rseq Fr.plain mixed (fun σ7 => RegOK.mk1 [5, 10, 11, 15, 16] ⟨[(5, .ptr (σ0 0) 0), (10, .ptr (σ0 1) 0), (11, I (((sqLo u0 u1) + (sqLo v0 v1)) + 1000000)), (15, I ((root17 (((sqHi u0 u1) + (sqHi v0 v1)) + 1000000)) + 1)), (16, I (((u1 - u0) * (v1 - v0)) * 1000))], (.box (σ0 0) [I x, I y]) :: (.box (σ0 1) [I 0, I 0]) :: mem⟩ (.cons (s_move (.tmp 2 (I u1))) (.cons (s_move (.tmp 1 (I u0))) (.cons (s_sub (.tmp 46 (I u1)) (.tmp 47 (I u0)) (inK_i64 (by omega))) (.cons (s_move (.tmp 4 (I v1))) (.cons (s_move (.tmp 3 (I v0))) (.cons (s_sub (.tmp 49 (I v1)) (.tmp 50 (I v0)) (inK_i64 (by omega))) (.cons (s_mul (.tmp 48 (I (u1 - u0))) (.tmp 51 (I (v1 - v0))) (inK_i64 (by omega))) (.cons (s_mul (.tmp 52 (I ((u1 - u0) * (v1 - v0)))) (.int .i64 (1000)) (inK_i64 (by omega))) (.cons (s_assign (.tmp 53 (I (((u1 - u0) * (v1 - v0)) * 1000)))) .nil))))))))) (by kernel_rfl) ?_)
  refine AC.rseq Fr.plain mixed (fun σ8 => RegOK.mk1 [10] ⟨[(10, .ptr (σ0 1) 0)], (.box (σ0 0) [I x, I y]) :: (.box (σ0 1) [I ((x * (((u1 - u0) * (v1 - v0)) * 1000)) / (cub ((root17 (((sqHi u0 u1) + (sqHi v0 v1)) + 1000000)) + 1))), I (up (y * (((u1 - u0) * (v1 - v0)) * 1000)) (cub (root17 (((sqLo u0 u1) + (sqLo v0 v1)) + 1000000))))]) :: mem⟩ (.cons (s_fieldAddr fld37_0 (.tmp 5 (.ptr (σ0 0) 0))) (.cons (s_load1 (cs := [I x, I y]) (c := I x) 0 tyS3 (.tmp 54 (.ptr (σ0 0) 0)) rfl) (.cons (s_move (.tmp 16 (I (((u1 - u0) * (v1 - v0)) * 1000)))) (.cons (s_mul (.tmp 55 (I x)) (.tmp 56 (I (((u1 - u0) * (v1 - v0)) * 1000))) (inK_i64 (by omega))) (.cons (s_move (.tmp 15 (I ((root17 (((sqHi u0 u1) + (sqHi v0 v1)) + 1000000)) + 1)))) (.cons (s_call (r := I (cub ((root17 (((sqHi u0 u1) + (sqHi v0 v1)) + 1000000)) + 1))) (.func 100) (.cons (.tmp 58 (I ((root17 (((sqHi u0 u1) + (sqHi v0 v1)) + 1000000)) + 1))) .nil) call100 (F100 (((root17 (((sqHi u0 u1) + (sqHi v0 v1)) + 1000000)) + 1)) (by omega))) (.cons (s_call (r := I ((x * (((u1 - u0) * (v1 - v0)) * 1000)) / (cub ((root17 (((sqHi u0 u1) + (sqHi v0 v1)) + 1000000)) + 1)))) (.func 64) (.cons (.tmp 57 (I (x * (((u1 - u0) * (v1 - v0)) * 1000)))) (.cons (.tmp 59 (I (cub ((root17 (((sqHi u0 u1) + (sqHi v0 v1)) + 1000000)) + 1)))) .nil)) call64 (F64 ((x * (((u1 - u0) * (v1 - v0)) * 1000))) ((cub ((root17 (((sqHi u0 u1) + (sqHi v0 v1)) + 1000000)) + 1))) (by omega) (by omega))) (.cons (s_fieldAddr fld37_1 (.tmp 5 (.ptr (σ0 0) 0))) (.cons (s_load1 (cs := [I x, I y]) (c := I y) 0 tyS3 (.tmp 61 (.ptr (σ0 0) 1)) rfl) (.cons (s_move (.tmp 16 (I (((u1 - u0) * (v1 - v0)) * 1000)))) (.cons (s_mul (.tmp 62 (I y)) (.tmp 63 (I (((u1 - u0) * (v1 - v0)) * 1000))) (inK_i64 (by omega))) (.cons (s_move (.tmp 11 (I (((sqLo u0 u1) + (sqLo v0 v1)) + 1000000)))) (.cons (s_call (r := I (root17 (((sqLo u0 u1) + (sqLo v0 v1)) + 1000000))) (.func 99) (.cons (.tmp 65 (I (((sqLo u0 u1) + (sqLo v0 v1)) + 1000000))) .nil) call99 (F99 ((((sqLo u0 u1) + (sqLo v0 v1)) + 1000000)) (by omega))) (.cons (s_call (r := I (cub (root17 (((sqLo u0 u1) + (sqLo v0 v1)) + 1000000)))) (.func 100) (.cons (.tmp 66 (I (root17 (((sqLo u0 u1) + (sqLo v0 v1)) + 1000000)))) .nil) call100 (F100 ((root17 (((sqLo u0 u1) + (sqLo v0 v1)) + 1000000))) (by omega))) (.cons (s_call (r := I (up (y * (((u1 - u0) * (v1 - v0)) * 1000)) (cub (root17 (((sqLo u0 u1) + (sqLo v0 v1)) + 1000000))))) (.func 65) (.cons (.tmp 64 (I (y * (((u1 - u0) * (v1 - v0)) * 1000)))) (.cons (.tmp 67 (I (cub (root17 (((sqLo u0 u1) + (sqLo v0 v1)) + 1000000))))) .nil)) call65 (F65 ((y * (((u1 - u0) * (v1 - v0)) * 1000))) ((cub (root17 (((sqLo u0 u1) + (sqLo v0 v1)) + 1000000)))) (by omega) (by omega))) (.cons (s_build (l := [I ((x * (((u1 - u0) * (v1 - v0)) * 1000)) / (cub ((root17 (((sqHi u0 u1) + (sqHi v0 v1)) + 1000000)) + 1))), I (up (y * (((u1 - u0) * (v1 - v0)) * 1000)) (cub (root17 (((sqLo u0 u1) + (sqLo v0 v1)) + 1000000))))]) zero37 plc37 (.cons rfl (.tmp 60 (I ((x * (((u1 - u0) * (v1 - v0)) * 1000)) / (cub ((root17 (((sqHi u0 u1) + (sqHi v0 v1)) + 1000000)) + 1))))) (.cons rfl (.tmp 68 (I (up (y * (((u1 - u0) * (v1 - v0)) * 1000)) (cub (root17 (((sqLo u0 u1) + (sqLo v0 v1)) + 1000000)))))) .nil)) rfl) (.cons (s_store (cs := [I 0, I 0]) 1 sz37 (.tmp 10 (.ptr (σ0 1) 0)) (.tmp 69 (.agg [I ((x * (((u1 - u0) * (v1 - v0)) * 1000)) / (cub ((root17 (((sqHi u0 u1) + (sqHi v0 v1)) + 1000000)) + 1))), I (up (y * (((u1 - u0) * (v1 - v0)) * 1000)) (cub (root17 (((sqLo u0 u1) + (sqLo v0 v1)) + 1000000))))])) rfl rfl rfl (Nat.le_of_ble_eq_true rfl)) .nil))))))))))))))))) (by kernel_rfl) ?_)
  refine AC.ret ?_
  exact FinQ.ret (result1 rfl (res_cell (s := (σ0 1)) (cs := [I ((x * (((u1 - u0) * (v1 - v0)) * 1000)) / (cub ((root17 (((sqHi u0 u1) + (sqHi v0 v1)) + 1000000)) + 1))), I (up (y * (((u1 - u0) * (v1 - v0)) * 1000)) (cub (root17 (((sqLo u0 u1) + (sqLo v0 v1)) + 1000000))))]) (l := [I ((x * (((u1 - u0) * (v1 - v0)) * 1000)) / (cub ((root17 (((sqHi u0 u1) + (sqHi v0 v1)) + 1000000)) + 1))), I (up (y * (((u1 - u0) * (v1 - v0)) * 1000)) (cub (root17 (((sqLo u0 u1) + (sqLo v0 v1)) + 1000000))))]) 1 rfl rfl rfl tyA37 rfl rfl)) ⟨by unfold pieceLo pieceHi area farSq nearSq; rw [hru], rfl⟩
 ·have q2 := iF iD hc
  have hru : rootUp (((sqHi u0 u1) + (sqHi v0 v1)) + 1000000) = root17 (((sqHi u0 u1) + (sqHi v0 v1)) + 1000000) := by unfold rootUp; rw [if_neg (by omega)]
  rw [hru] at c2 rs
  refine AC.skip ?_
  refine thenQ_n ?_
  refine AC.rseq Fr.plain mixed (fun σ7 => RegOK.mk1 [5, 10, 11, 15, 16] ⟨[(5, .ptr (σ0 0) 0), (10, .ptr (σ0 1) 0), (11, I (((sqLo u0 u1) + (sqLo v0 v1)) + 1000000)), (15, I (root17 (((sqHi u0 u1) + (sqHi v0 v1)) + 1000000))), (16, I (((u1 - u0) * (v1 - v0)) * 1000))], (.box (σ0 0) [I x, I y]) :: (.box (σ0 1) [I 0, I 0]) :: mem⟩ (.cons (s_move (.tmp 2 (I u1))) (.cons (s_move (.tmp 1 (I u0))) (.cons (s_sub (.tmp 46 (I u1)) (.tmp 47 (I u0)) (inK_i64 (by omega))) (.cons (s_move (.tmp 4 (I v1))) (.cons (s_move (.tmp 3 (I v0))) (.cons (s_sub (.tmp 49 (I v1)) (.tmp 50 (I v0)) (inK_i64 (by omega))) (.cons (s_mul (.tmp 48 (I (u1 - u0))) (.tmp 51 (I (v1 - v0))) (inK_i64 (by omega))) (.cons (s_mul (.tmp 52 (I ((u1 - u0) * (v1 - v0)))) (.int .i64 (1000)) (inK_i64 (by omega))) (.cons (s_assign (.tmp 53 (I (((u1 - u0) * (v1 - v0)) * 1000)))) .nil))))))))) (by kernel_rfl) ?_)
  refine AC.rseq Fr.plain mixed (fun σ8 => RegOK.mk1 [10] ⟨[(10, .ptr (σ0 1) 0)], (.box (σ0 0) [I x, I y]) :: (.box (σ0 1) [I ((x * (((u1 - u0) * (v1 - v0)) * 1000)) / (cub (root17 (((sqHi u0 u1) + (sqHi v0 v1)) + 1000000)))), I (up (y * (((u1 - u0) * (v1 - v0)) * 1000)) (cub (root17 (((sqLo u0 u1) + (sqLo v0 v1)) + 1000000))))]) :: mem⟩ (.cons (s_fieldAddr fld37_0 (.tmp 5 (.ptr (σ0 0) 0))) (.cons (s_load1 (cs := [I x, I y]) (c := I x) 0 tyS3 (.tmp 54 (.ptr (σ0 0) 0)) rfl) (.cons (s_move (.tmp 16 (I (((u1 - u0) * (v1 - v0)) * 1000)))) (.cons (s_mul (.tmp 55 (I x)) (.tmp 56 (I (((u1 - u0) * (v1 - v0)) * 1000))) (inK_i64 (by omega))) (.cons (s_move (.tmp 15 (I (root17 (((sqHi u0 u1) + (sqHi v0 v1)) + 1000000))))) (.cons (s_call (r := I (cub (root17 (((sqHi u0 u1) + (sqHi v0 v1)) + 1000000)))) (.func 100) (.cons (.tmp 58 (I (root17 (((sqHi u0 u1) + (sqHi v0 v1)) + 1000000)))) .nil) call100 (F100 ((root17 (((sqHi u0 u1) + (sqHi v0 v1)) + 1000000))) (by omega))) (.cons (s_call (r := I ((x * (((u1 - u0) * (v1 - v0)) * 1000)) / (cub (root17 (((sqHi u0 u1) + (sqHi v0 v1)) + 1000000))))) (.func 64) (.cons (.tmp 57 (I (x * (((u1 - u0) * (v1 - v0)) * 1000)))) (.cons (.tmp 59 (I (cub (root17 (((sqHi u0 u1) + (sqHi v0 v1)) + 1000000))))) .nil)) call64 (F64 ((x * (((u1 - u0) * (v1 - v0)) * 1000))) ((cub (root17 (((sqHi u0 u1) + (sqHi v0 v1)) + 1000000)))) (by omega) (by omega))) (.cons (s_fieldAddr fld37_1 (.tmp 5 (.ptr (σ0 0) 0))) (.cons (s_load1 (cs := [I x, I y]) (c := I y) 0 tyS3 (.tmp 61 (.ptr (σ0 0) 1)) rfl) (.cons (s_move (.tmp 16 (I (((u1 - u0) * (v1 - v0)) * 1000)))) (.cons (s_mul (.tmp 62 (I y)) (.tmp 63 (I (((u1 - u0) * (v1 - v0)) * 1000))) (inK_i64 (by omega))) (.cons (s_move (.tmp 11 (I (((sqLo u0 u1) + (sqLo v0 v1)) + 1000000)))) (.cons (s_call (r := I (root17 (((sqLo u0 u1) + (sqLo v0 v1)) + 1000000))) (.func 99) (.cons (.tmp 65 (I (((sqLo u0 u1) + (sqLo v0 v1)) + 1000000))) .nil) call99 (F99 ((((sqLo u0 u1) + (sqLo v0 v1)) + 1000000)) (by omega))) (.cons (s_call (r := I (cub (root17 (((sqLo u0 u1) + (sqLo v0 v1)) + 1000000)))) (.func 100) (.cons (.tmp 66 (I (root17 (((sqLo u0 u1) + (sqLo v0 v1)) + 1000000)))) .nil) call100 (F100 ((root17 (((sqLo u0 u1) + (sqLo v0 v1)) + 1000000))) (by omega))) (.cons (s_call (r := I (up (y * (((u1 - u0) * (v1 - v0)) * 1000)) (cub (root17 (((sqLo u0 u1) + (sqLo v0 v1)) + 1000000))))) (.func 65) (.cons (.tmp 64 (I (y * (((u1 - u0) * (v1 - v0)) * 1000)))) (.cons (.tmp 67 (I (cub (root17 (((sqLo u0 u1) + (sqLo v0 v1)) + 1000000))))) .nil)) call65 (F65 ((y * (((u1 - u0) * (v1 - v0)) * 1000))) ((cub (root17 (((sqLo u0 u1) + (sqLo v0 v1)) + 1000000)))) (by omega) (by omega))) (.cons (s_build (l := [I ((x * (((u1 - u0) * (v1 - v0)) * 1000)) / (cub (root17 (((sqHi u0 u1) + (sqHi v0 v1)) + 1000000)))), I (up (y * (((u1 - u0) * (v1 - v0)) * 1000)) (cub (root17 (((sqLo u0 u1) + (sqLo v0 v1)) + 1000000))))]) zero37 plc37 (.cons rfl (.tmp 60 (I ((x * (((u1 - u0) * (v1 - v0)) * 1000)) / (cub (root17 (((sqHi u0 u1) + (sqHi v0 v1)) + 1000000)))))) (.cons rfl (.tmp 68 (I (up (y * (((u1 - u0) * (v1 - v0)) * 1000)) (cub (root17 (((sqLo u0 u1) + (sqLo v0 v1)) + 1000000)))))) .nil)) rfl) (.cons (s_store (cs := [I 0, I 0]) 1 sz37 (.tmp 10 (.ptr (σ0 1) 0)) (.tmp 69 (.agg [I ((x * (((u1 - u0) * (v1 - v0)) * 1000)) / (cub (root17 (((sqHi u0 u1) + (sqHi v0 v1)) + 1000000)))), I (up (y * (((u1 - u0) * (v1 - v0)) * 1000)) (cub (root17 (((sqLo u0 u1) + (sqLo v0 v1)) + 1000000))))])) rfl rfl rfl (Nat.le_of_ble_eq_true rfl)) .nil))))))))))))))))) (by kernel_rfl) ?_)
  refine AC.ret ?_
  exact FinQ.ret (result1 rfl (res_cell (s := (σ0 1)) (cs := [I ((x * (((u1 - u0) * (v1 - v0)) * 1000)) / (cub (root17 (((sqHi u0 u1) + (sqHi v0 v1)) + 1000000)))), I (up (y * (((u1 - u0) * (v1 - v0)) * 1000)) (cub (root17 (((sqLo u0 u1) + (sqLo v0 v1)) + 1000000))))]) (l := [I ((x * (((u1 - u0) * (v1 - v0)) * 1000)) / (cub (root17 (((sqHi u0 u1) + (sqHi v0 v1)) + 1000000)))), I (up (y * (((u1 - u0) * (v1 - v0)) * 1000)) (cub (root17 (((sqLo u0 u1) + (sqLo v0 v1)) + 1000000))))]) 1 rfl rfl rfl tyA37 rfl rfl)) ⟨by unfold pieceLo pieceHi area farSq nearSq; rw [hru], rfl⟩
end Go.Proofs.Ytjhecgiipajdpaa
end
