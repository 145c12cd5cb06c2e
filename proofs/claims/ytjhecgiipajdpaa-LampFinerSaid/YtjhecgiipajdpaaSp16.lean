/- What Intensity, Towards and Power compute. -/
import Derived.Test.YtjhecgiipajdpaaSp12
set_option linter.unusedVariables false
set_option linter.unusedSimpArgs false
namespace Go.Proofs.Ytjhecgiipajdpaa
def Intensity (c : Cat) (i dx dy H : Int) : Int × Int × Int :=
  if tabled c i ≠ 0 then (0, 0, tabled c i)
  else if rectErr dx dx dy dy H ≠ 0 then (0, 0, rectErr dx dx dy dy H)
  else (atLo (c.tables.getD i.toNat default) (sc (c.tables.getD i.toNat default).us H) (sc (c.tables.getD i.toNat default).vs H) (1000 * dx) (1000 * dy),
    atHi (c.tables.getD i.toNat default) (sc (c.tables.getD i.toNat default).us H) (sc (c.tables.getD i.toNat default).vs H) (1000 * dx) (1000 * dy), 0)
def powerT (x : Lamp) (L : Int) : Int := x.standing * 1000 + (x.power - x.standing) * L
def powerLo (x : Lamp) (L : Int) : Int := powerT x L * (1000 - x.tolerance) / 1000000
def powerHi (x : Lamp) (L : Int) : Int := up (powerT x L * (1000 + x.tolerance)) 1000000
def Power (c : Cat) (i L : Int) : Int × Int × Int :=
  if lampedE c i ≠ 0 then (0, 0, lampedE c i)
  else if ¬ (0 ≤ L ∧ L ≤ 1000) then (0, 0, 7)
  else (powerLo (lampedX c i) L, powerHi (lampedX c i) L, 0)
abbrev ovr (t : Table) (X0 X1 Y0 Y1 h : Int) : Int × Int := over t (sc t.us h) (sc t.vs h) (1000 * X0) (1000 * X1) (1000 * Y0) (1000 * Y1)
def Towards (c : Cat) (i H M L X0 X1 Y0 Y1 h : Int) : Int × Int × Int :=
  if lampedE c i ≠ 0 then (0, 0, lampedE c i)
  else if useErr H M L ≠ 0 then (0, 0, useErr H M L)
  else if rectErr X0 X1 Y0 Y1 h ≠ 0 then (0, 0, rectErr X0 X1 Y0 Y1 h)
  else ((ovr (c.tables.getD (lampedX c i).table.toNat default) X0 X1 Y0 Y1 h).1 * fluxLo (lampedX c i) H M L / 1000, up ((ovr (c.tables.getD (lampedX c i).table.toNat default) X0 X1 Y0 Y1 h).2 * fluxHi (lampedX c i) H M L) 1000, 0)
theorem over_in {t : Table} {us vs : List Int} (g : GoodV t us vs) (x0 x1 y0 y1 : Int) : (0 ≤ (over t us vs x0 x1 y0 y1).1 ∧ (over t us vs x0 x1 y0 y1).1 ≤ 10000000) ∧ (0 ≤ (over t us vs x0 x1 y0 y1).2 ∧ (over t us vs x0 x1 y0 y1).2 ≤ 10000000) := by
  obtain ⟨⟨u, v, _, h1⟩, ⟨u', v', _, h2⟩, _⟩ := Cov.over t us vs x0 x1 y0 y1
  have a := g.at_in u v
  have b := g.at_in u' v'
  omega
/-- One step of the ageing, rounded down, and up. -/
theorem step_dn {x x' m m' d : Int} (hd : 0 < d) (hx : 0 ≤ x ∧ x ≤ x') (hm : 0 ≤ m ∧ m ≤ m') : 0 ≤ x * m / d ∧ x * m / d ≤ x' * m' / d :=
  ⟨Int.ediv_nonneg (Int.mul_nonneg hx.1 hm.1) (by omega), Int.ediv_le_ediv hd (Int.mul_le_mul hx.2 hm.2 hm.1 (by omega))⟩
theorem step_up {x x' m m' d : Int} (hd : 0 < d) (hx : 0 ≤ x ∧ x ≤ x') (hm : 0 ≤ m ∧ m ≤ m') : 0 ≤ up (x * m) d ∧ up (x * m) d ≤ up (x' * m') d := by
  have h1 := Int.mul_nonneg hx.1 hm.1
  have h2 : x * m ≤ x' * m' := Int.mul_le_mul hx.2 hm.2 hm.1 (by omega)
  unfold up
  have h3 := Int.ediv_le_ediv hd (show -(x' * m') ≤ -(x * m) by omega)
  have h4 := Int.ediv_le_ediv hd (show -(x * m) ≤ 0 by omega)
  rw [Int.zero_ediv] at h4
  omega
theorem aged {a H H' c : Int} (ha : 0 ≤ a) (h0 : 0 ≤ H) (h : H ≤ H') : 0 ≤ max (c - a * H') 0 ∧ max (c - a * H') 0 ≤ max (c - a * H) 0 := by
  have := Int.mul_le_mul_of_nonneg_left h ha
  omega
theorem leftDn_mono {n a d H H' M M' L L' : Int} (hn : 0 ≤ n) (ha : 0 ≤ a) (hd : 0 ≤ d) (h1 : 0 ≤ H ∧ H ≤ H') (h2 : 0 ≤ M ∧ M ≤ M') (h3 : 0 ≤ L' ∧ L' ≤ L) : 0 ≤ leftDn n a d H' M' L' ∧ leftDn n a d H' M' L' ≤ leftDn n a d H M L :=
  step_dn (by decide) (step_dn (by decide) (step_dn (by decide) ⟨hn, Int.le_refl _⟩ (aged ha h1.1 h1.2)) (aged hd h2.1 h2.2)) h3
theorem leftUp_mono {n a d H H' M M' L L' : Int} (hn : 0 ≤ n) (ha : 0 ≤ a) (hd : 0 ≤ d) (h1 : 0 ≤ H ∧ H ≤ H') (h2 : 0 ≤ M ∧ M ≤ M') (h3 : 0 ≤ L' ∧ L' ≤ L) : 0 ≤ leftUp n a d H' M' L' ∧ leftUp n a d H' M' L' ≤ leftUp n a d H M L :=
  step_up (by decide) (step_up (by decide) (step_up (by decide) ⟨hn, Int.le_refl _⟩ (aged ha h1.1 h1.2)) (aged hd h2.1 h2.2)) h3
theorem flux_mono {x : Lamp} (g : GoodL x) {H H' M M' L L' : Int} (h1 : 0 ≤ H ∧ H ≤ H') (h2 : 0 ≤ M ∧ M ≤ M') (h3 : 0 ≤ L' ∧ L' ≤ L) :
    (0 ≤ fluxLo x H' M' L' ∧ fluxLo x H' M' L' ≤ fluxLo x H M L) ∧ (0 ≤ fluxHi x H' M' L' ∧ fluxHi x H' M' L' ≤ fluxHi x H M L) := by
  have a := g.lumens
  have b := g.age
  have c := g.dirt
  exact ⟨leftDn_mono (by omega) (by omega) (by omega) h1 h2 h3, leftUp_mono (by omega) (by omega) (by omega) h1 h2 h3⟩
theorem flux_in {x : Lamp} (g : GoodL x) {H M L : Int} (h1 : 0 ≤ H) (h2 : 0 ≤ M) (h3 : 0 ≤ L ∧ L ≤ 1000) :
    (0 ≤ fluxLo x H M L ∧ fluxLo x H M L ≤ 1000000) ∧ (0 ≤ fluxHi x H M L ∧ fluxHi x H M L ≤ 1000000) := by
  have a := g.lumens
  have b := g.age
  have c := g.dirt
  have m := flux_mono g (H := 0) (M := 0) (L := 1000) ⟨Int.le_refl _, h1⟩ ⟨Int.le_refl _, h2⟩ h3
  have e1 : fluxLo x 0 0 1000 = x.lumens := by
    unfold fluxLo leftDn
    simp only [Int.mul_zero, Int.sub_zero]
    rw [show max (1000000 : Int) 0 = 1000000 from rfl, show max (1000 : Int) 0 = 1000 from rfl]
    omega
  have e2 : fluxHi x 0 0 1000 = x.lumens := by
    unfold fluxHi leftUp
    simp only [Int.mul_zero, Int.sub_zero]
    have e : ∀ (y k : Int), 0 < k → up (y * k) k = y := fun y k hk => by
      unfold up; rw [← Int.neg_mul, Int.mul_ediv_cancel _ (by omega), Int.neg_neg]
    rw [show max (1000000 : Int) 0 = 1000000 from rfl, show max (1000 : Int) 0 = 1000 from rfl, e _ _ (by decide), e _ _ (by decide), e _ _ (by decide)]
  omega
theorem useErr_ok {H M L : Int} (h : useErr H M L = 0) : (0 ≤ H ∧ H ≤ 200000) ∧ (0 ≤ M ∧ M ≤ 600) ∧ (0 ≤ L ∧ L ≤ 1000) := by
  unfold useErr at h
  split at h <;> omega
theorem power_in {x : Lamp} (g : GoodL x) {L : Int} (h : 0 ≤ L ∧ L ≤ 1000) : (0 ≤ x.standing * 1000 ∧ x.standing * 1000 ≤ 5000000000) ∧ (0 ≤ (x.power - x.standing) * L ∧ (x.power - x.standing) * L ≤ 5000000000) ∧ (0 ≤ powerT x L ∧ powerT x L ≤ 10000000000) ∧
    (0 ≤ powerT x L * (1000 - x.tolerance) ∧ powerT x L * (1000 - x.tolerance) ≤ 10000000000000) ∧ (0 ≤ powerT x L * (1000 + x.tolerance) ∧ powerT x L * (1000 + x.tolerance) ≤ 20000000000000) := by
  have a := g.power
  have b := g.standing
  have c := g.tolerance
  have m := mulN 5000000 1000 (a := x.power - x.standing) (b := L) (by omega) h
  have p : 0 ≤ powerT x L ∧ powerT x L ≤ 10000000000 := by unfold powerT; omega
  have m2 := mulN 10000000000 1000 (a := powerT x L) (b := 1000 - x.tolerance) p (by omega)
  have m3 := mulN 10000000000 2000 (a := powerT x L) (b := 1000 + x.tolerance) p (by omega)
  omega
end Go.Proofs.Ytjhecgiipajdpaa
