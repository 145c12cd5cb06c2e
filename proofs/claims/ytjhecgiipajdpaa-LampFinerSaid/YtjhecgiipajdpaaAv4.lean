/- Code over abstract states: regions, sequences, tests, blocks, loops; functions. -/
import Derived.Test.YtjhecgiipajdpaaAv3
set_option linter.unusedVariables false
set_option linter.unusedSimpArgs false
namespace Go.Proofs.Ytjhecgiipajdpaa
open Go.RowKit

def AC (F : Fence) (P : Program) (nt : Nat) (c : Code) (S : St) (Q : Exit → St → Prop) : Prop :=
  ∀ g w a hid, Rel nt g w a S hid → c.wpIn F 0 P (fun ex a' w' => ∃ g' S' hid', Rel nt g' w' a' S' hid' ∧ Ext g w g' w' ∧ Q ex S') a w

inductive Steps (P : Program) (ops : Array Oper) : List Oper → List Spec → Prop
  | nil : Steps P ops [] []
  | cons {o : Oper} {sp : Spec} {l : List Oper} {sps : List Spec} (h : Step P ops o sp) (r : Steps P ops l sps) : Steps P ops (o :: l) (sp :: sps)
theorem Steps.length {P : Program} {ops : Array Oper} {l : List Oper} {sps : List Spec} (h : Steps P ops l sps) : l.length = sps.length := by
  induction h with
  | nil => rfl
  | cons _ _ ih => simp [ih]
theorem Steps.at_ {P : Program} {ops : Array Oper} {l : List Oper} {sps : List Spec} (h : Steps P ops l sps) : ∀ (i : Nat) o sp, l[i]? = some o → sps[i]? = some sp → Step P ops o sp := by
  induction h with
  | nil => intro i o sp h; simp at h
  | cons h _ ih =>
    intro i o sp h1 h2
    cases i with
    | zero => simp at h1 h2; subst h1; subst h2; exact h
    | succ i => exact ih i o sp (by simpa using h1) (by simpa using h2)

def getsT : List Spec → St → List AV
  | [], _ => []
  | sp :: r, S => sp.rT.map (fun x => getT S.env x.1) ++ getsT r (runSt sp S)
def wantsT : List Spec → List AV
  | [] => []
  | sp :: r => sp.rT.map (·.2) ++ wantsT r
def getsM : List Spec → St → List (Option Ent)
  | [], _ => []
  | sp :: r, S => sp.rM.map (fun x => S.mem[x.1]?) ++ getsM r (runSt sp S)
def wantsM : List Spec → List (Option Ent)
  | [] => []
  | sp :: r => sp.rM.map (fun x => some x.2) ++ wantsM r
def placesM : List Spec → List Ent → Bool
  | [], _ => true
  | sp :: r, m => (match sp.wM with | none => true | some (p, _) => (m[p]?).isSome) && placesM r m
/-- What is asked of the whole memory. -/
def needsM : List Spec → St → Prop
  | [], _ => True
  | sp :: r, S => (match sp.need with | none => True | some X => ∀ l, X (S.mem ++ l)) ∧ needsM r (runSt sp S)
def noNeeds : List Spec → Bool
  | [] => true
  | sp :: r => sp.need.isNone && noNeeds r
theorem noNeeds_of : ∀ (sps : List Spec) (S : St), noNeeds sps = true → needsM sps S
  | [], _, _ => trivial
  | sp :: r, S, h => by
    simp only [noNeeds, Bool.and_eq_true, Option.isNone_iff_eq_none] at h
    exact ⟨by rw [h.1]; trivial, noNeeds_of r _ h.2⟩
def finSt : List Spec → St → St
  | [], S => S
  | sp :: r, S => finSt r (runSt sp S)
def keepSt (ks : List Nat) (S : St) : St := { env := ks.map (fun k => (k, getT S.env k)), mem := S.mem }
def symL : List Bool → (Nat → Nat) → Nat → List (Option Nat)
  | [], _, _ => []
  | b :: r, σ, i => (if b then some (σ i) else none) :: symL r σ (i + 1)
def chk (nt : Nat) (draw : Bool) (ops : List Oper) (sps : List Spec) : Bool :=
  sps.all (fun sp => sp.rT.all fun x => Nat.blt x.1 nt) && (!draw || drawOk ops sps)

theorem append_split {α : Type} {a b c d : List α} (h : a ++ b = c ++ d) (hl : a.length = c.length) : a = c ∧ b = d := List.append_inj h hl

theorem placesM_set (p : Nat) (e : Ent) : ∀ (sps : List Spec) (m : List Ent), placesM sps (m.set p e) = placesM sps m
  | [], _ => rfl
  | sp :: r, m => by
    simp only [placesM, placesM_set p e r m]
    cases sp.wM with
    | none => rfl
    | some x =>
      have : ((m.set p e)[x.1]?).isSome = (m[x.1]?).isSome := by
        rw [Bool.eq_iff_iff]
        simp
      simp only [this]

theorem valid_of : ∀ (sps : List Spec) (S : St), getsT sps S = wantsT sps → getsM sps S = wantsM sps → placesM sps S.mem = true → needsM sps S → valid sps S (finSt sps S)
  | [], S, _, _, _, _ => SEq.refl S
  | sp :: r, S, h1, h2, h3, h4 => by
    simp only [getsT, wantsT] at h1
    simp only [getsM, wantsM] at h2
    obtain ⟨h1a, h1b⟩ := append_split h1 (by simp)
    obtain ⟨h2a, h2b⟩ := append_split h2 (by simp)
    simp only [placesM, Bool.and_eq_true] at h3
    refine ⟨⟨fun x v hx => ?_, fun p e hp => ?_, fun p e hp => ?_, fun X hX => by have := h4.1; rw [hX] at this; exact this⟩, valid_of r _ h1b h2b ?_ h4.2⟩
    · have := List.map_inj_left.1 h1a _ hx
      exact this
    · have := List.map_inj_left.1 h2a _ hp
      exact this
    · rw [hp] at h3
      have := h3.1
      rw [Option.isSome_iff_exists] at this
      obtain ⟨y, hy⟩ := this
      exact (List.getElem?_eq_some_iff.1 hy).1
    · show placesM r (setM S.mem sp.wM) = true
      cases hw : sp.wM with
      | none => exact h3.2
      | some x =>
        simp only [setM]
        rw [placesM_set]
        exact h3.2

theorem getT_keep (ks : List Nat) (f : Nat → AV) (x : Nat) : getT (ks.map fun k => (k, f k)) x = .top ∨ getT (ks.map fun k => (k, f k)) x = f x := by
  induction ks with
  | nil => exact .inl rfl
  | cons k r ih =>
    simp only [List.map_cons, getT]
    by_cases h : x = k
    · rw [if_pos h, h]; exact .inr rfl
    · rw [if_neg h]; exact ih

/-- Less is known. -/
structure Weak (S S' : St) : Prop where
  t : ∀ x, getT S'.env x = .top ∨ getT S'.env x = getT S.env x
  len : S'.mem.length = S.mem.length
  m : ∀ (i : Nat) e, S'.mem[i]? = some e → e = .hole ∨ S.mem[i]? = some e
theorem Rel.weak {nt : Nat} {g : Gh} {w : World} {a : Act} {S S' : St} {hid : List Nat} (h : Rel nt g w a S hid) (k : Weak S S') : Rel nt g w a S' hid := by
  refine ⟨h.size, h.defers, fun x u hx => ?_, ⟨?_, ?_, h.inv.base, h.inv.lt, h.inv.room⟩⟩
  · rcases k.t x with h1 | h1 <;> rw [h1]
    · exact .top u
    · exact h.env x u hx
  · intro e he
    rw [List.mem_append] at he
    rcases he with he | he
    · obtain ⟨i, hi⟩ := List.getElem?_of_mem he
      rcases k.m i e hi with rfl | hm
      · trivial
      · exact h.inv.ok e (List.mem_append_left _ (List.mem_of_getElem? hm))
    · exact h.inv.ok e (List.mem_append_right _ he)
  · have one : ∀ (i : Nat) e b, (S'.mem ++ hid.map Ent.mark)[i]? = some e → e.block g = some b → (S.mem ++ hid.map Ent.mark)[i]? = some e := by
      intro i e b hi hb
      by_cases hlt : i < S'.mem.length
      · rw [List.getElem?_append_left hlt] at hi
        rcases k.m i e hi with rfl | hm
        · simp [Ent.block] at hb
        · rw [List.getElem?_append_left (by rw [← k.len]; exact hlt)]; exact hm
      · rw [List.getElem?_append_right (by omega)] at hi
        rw [List.getElem?_append_right (by rw [← k.len]; omega), ← k.len]; exact hi
    intro i j ei ej b hi hj bi bj
    exact h.inv.apart i j ei ej b (one i ei b hi bi) (one j ej b hj bj) bi bj

theorem AC.weaken {F : Fence} {P : Program} {nt : Nat} {c : Code} {S S' : St} {Q : Exit → St → Prop} (k : Weak S S') (h : AC F P nt c S' Q) : AC F P nt c S Q :=
  fun g w a hid hr => h g w a hid (hr.weak k)
theorem AC.mono {F : Fence} {P : Program} {nt : Nat} {c : Code} {S : St} {Q Q' : Exit → St → Prop} (h : AC F P nt c S Q) (k : ∀ ex S, Q ex S → Q' ex S) : AC F P nt c S Q' :=
  fun g w a hid hr => wpIn_mono (h g w a hid hr) fun ex a' w' ⟨g', S', hid', h1, h2, h3⟩ => ⟨g', S', hid', h1, h2, k _ _ h3⟩

/-- A region from an abstract state: its operations' specifications, what is kept of the temporaries, the state behind it. -/
def RegOK (P : Program) (nt : Nat) (ops : Array Oper) (draw : Bool) (S : St) (σ : Nat → Nat) (next : St → Prop) : Prop :=
  ∃ sps ks Fin, Steps P ops ops.toList sps ∧ getsT sps S = wantsT sps ∧ getsM sps S = wantsM sps ∧ placesM sps S.mem = true ∧ needsM sps S ∧ chk nt draw ops.toList sps = true ∧
    sps.map Spec.sym = symL (sps.map fun sp => sp.sym.isSome) σ 0 ∧ keepSt ks (finSt sps S) = Fin ∧ next Fin

theorem symL_at : ∀ (l : List Bool) (σ : Nat → Nat) (k i : Nat) s, (symL l σ k)[i]? = some (some s) → s = σ (k + i)
  | [], _, _, i, s, h => by simp [symL] at h
  | b :: r, σ, k, i, s, h => by
    cases i with
    | zero =>
      simp only [symL, List.getElem?_cons_zero, Option.some.injEq] at h
      split at h
      · simpa using h.symm
      · cases h
    | succ i =>
      simp only [symL, List.getElem?_cons_succ] at h
      rw [symL_at r σ (k + 1) i s h, Nat.add_assoc, Nat.add_comm 1 i]

/-- Symbols that nobody has. -/
def Gh.hold (g : Gh) (N n : Nat) : Gh := { g with sy := fun s => if N ≤ s ∧ s < N + n then .held else g.sy s }

theorem AC.region {F : Fence} (hF : Fr F) {P : Program} (hm : P.follows .mixedOrders = true) {nt id : Nat} {ops : Array Oper} {draw : Bool} {S : St} {Q : Exit → St → Prop}
    (h : ∀ σ, RegOK P nt ops draw S σ (Q .normal)) : AC F P nt (.region id ops draw) S Q := by
  intro g w a hid hr
  obtain ⟨N, hN⟩ := hr.inv.room
  obtain ⟨sps, ks, Fin, hst, ht, hmm, hp, hnd, hc, hsy, hk, hq⟩ := h (fun i => N + i)
  have hlen : ops.size = sps.length := by rw [← Array.length_toList]; exact hst.length
  simp only [chk, Bool.and_eq_true, List.all_eq_true, Bool.or_eq_true, Bool.not_eq_true'] at hc
  have hnt : ∀ sp ∈ sps, ∀ x v, (x, v) ∈ sp.rT → x < nt := fun sp hsp x v hx => by
    have := hc.1 sp hsp (x, v) hx
    simpa [Nat.blt_eq] using this
  have hsym : ∀ (i : Nat) sp s, sps[i]? = some sp → sp.sym = some s → s = N + i ∧ i < ops.size := by
    intro i sp s hi hs
    have h1 : (sps.map Spec.sym)[i]? = some (some s) := by rw [List.getElem?_map, hi, ← hs]; rfl
    rw [hsy] at h1
    have := symL_at _ _ 0 i s h1
    refine ⟨by simpa using this, ?_⟩
    rw [hlen]
    exact (List.getElem?_eq_some_iff.1 hi).1
  let g1 := g.hold N ops.size
  have hext : ∀ w1 : World, Below g.base w w1 → (∀ x, w1.cell? x = w.cell? x) → Ext g w g1 w1 := fun w1 hb hcell =>
    ⟨rfl, hb, fun b o hi => ⟨hi, hcell _⟩, fun s _ hs => by
      show (if N ≤ s ∧ s < N + ops.size then Sym.held else g.sy s) = g.sy s
      rw [if_neg]
      intro hlt
      exact hs (hN s hlt.1), fun s hs => by cases hs⟩
  have hinv : ∀ w1 : World, Below g.base w w1 → (∀ x, w1.cell? x = w.cell? x) → w1.heap = w.heap → Inv g1 w1 (S.mem ++ hid.map Ent.mark) := fun w1 hb hcell hh =>
    hr.inv.keep (hext w1 hb hcell) (fun e b _ _ => by rw [hh]) (fun e b o _ _ hi => hi) (fun b o hi => by rw [hh]; exact hr.inv.lt b o hi)
      ⟨N + ops.size, fun s hs => by
        show (if N ≤ s ∧ s < N + ops.size then Sym.held else g.sy s) = Sym.free
        rw [if_neg (by omega)]
        exact hN s (by omega)⟩
  have hway : ∀ w1 : World, Below g.base w w1 → (∀ x, w1.cell? x = w.cell? x) → w1.heap = w.heap → ∀ l : List Spec, (∀ sp ∈ l, sp ∈ sps) → Way nt g w g1 w1 a S hid l := fun w1 hb hcell hh l hl =>
    ⟨hext w1 hb hcell, ⟨hr.size, hr.defers, EnvOK.stab (hext w1 hb hcell) hr.env, hinv w1 hb hcell hh⟩, fun sp s hsp hs => by
      obtain ⟨i, hi⟩ := List.getElem?_of_mem (hl sp hsp)
      obtain ⟨h1, h2⟩ := hsym i sp s hi hs
      subst h1
      refine ⟨?_, hN _ (by omega)⟩
      show (if N ≤ N + i ∧ N + i < N + ops.size then Sym.held else g.sy (N + i)) = Sym.held
      rw [if_pos (by omega)]⟩
  have hQ : ∀ g' w' a' S', Way nt g w g' w' a' S' hid [] → SEq S' (finSt sps S) → ∃ g'' S'' hid', Rel nt g'' w' a' S'' hid' ∧ Ext g w g'' w' ∧ Q .normal S'' := by
    intro g' w' a' S' hw hs
    refine ⟨g', Fin, hid, hw.rel.weak ⟨fun x => ?_, ?_, fun i e he => ?_⟩, hw.ext, hq⟩
    · rw [← hk, hs.t x]
      exact getT_keep ks (getT (finSt sps S).env) x
    · rw [← hk, hs.m]; rfl
    · rw [← hk] at he
      rw [hs.m]
      exact .inr he
  have hval := valid_of sps S ht hmm hp hnd
  cases draw with
  | false =>
    refine wpIn_region_list ?_
    refine way_list hF (hid := hid) (Fin := finSt sps S) (Q := fun ex a' w' => ∃ g' S' hid', Rel nt g' w' a' S' hid' ∧ Ext g w g' w' ∧ Q ex S') (g0 := g) (w0 := w) (nt := nt) hQ ops.toList sps
      hst.length hst.at_ hnt ?_ g1 w a S (hway w (Below.refl _ _) (fun _ => rfl) rfl sps (fun _ h => h)) hval
    rw [List.pairwise_iff_getElem]
    intro i j hi hj hij s h1 h2
    have e1 := (hsym i _ s (List.getElem?_eq_getElem hi) h1).1
    have e2 := (hsym j _ s (List.getElem?_eq_getElem hj) h2).1
    omega
  | true =>
    refine wpIn_region_any hm ?_
    have hz : unlisted ops.size (Array.replicate ops.size false) = List.range ops.size := by
      unfold unlisted
      rw [List.filter_eq_self]
      intro i hi
      simp only [List.mem_range] at hi
      simp [Array.getD_eq_getD_getElem?, hi]
    have hmap : (List.range ops.size).map (fun i => sps.getD i {}) = sps := by
      apply List.ext_getElem?
      intro i
      rw [List.getElem?_map]
      by_cases hi : i < sps.length
      · rw [List.getElem?_range (by omega)]
        simp [List.getD_eq_getElem?_getD, List.getElem?_eq_getElem hi]
      · rw [List.getElem?_eq_none (by simpa using Nat.le_of_not_lt (by rw [hlen]; exact hi)), List.getElem?_eq_none (by omega)]
        rfl
    have hdrew : Below g.base w { w with drawn := w.drawn + 1 } := (Below.refl _ _).drew
    refine way_any hF sps hlen (fun i o sp h1 h2 => hst.at_ i o sp (by rw [Array.getElem?_toList]; exact h1) h2) hnt ?_ ?_
      (hid := hid) (Fin := finSt sps S) (Q := fun ex a' w' => ∃ g' S' hid', Rel nt g' w' a' S' hid' ∧ Ext g w g' w' ∧ Q ex S') (g0 := g) (w0 := w) (nt := nt) hQ ops.size (Array.replicate ops.size false) (by simp) (by rw [hz]; simp)
      g1 { w with drawn := w.drawn + 1 } a S ?_ ?_
    · intro i j x y s hi hj h1 h2
      have e1 := (hsym i _ s hi h1).1
      have e2 := (hsym j _ s hj h2).1
      omega
    · simpa using hc.2
    · rw [hz, hmap]; exact hway _ hdrew (fun _ => rfl) rfl sps (fun _ h => h)
    · rw [hz, hmap]; exact hval

/-! ### Code -/
def thenQ (next : St → Prop) (Q : Exit → St → Prop) : Exit → St → Prop
  | .normal, S => next S
  | e, S => Q e S
def blockQ (id : Nat) (Q : Exit → St → Prop) : Exit → St → Prop
  | .exit id', S => if id' = id then Q .normal S else Q (.exit id') S
  | e, S => Q e S
section
variable {F : Fence} {P : Program} {nt : Nat} {S : St} {Q : Exit → St → Prop}

theorem AC.seq {x y : Code} (h : AC F P nt x S (thenQ (fun S' => AC F P nt y S' Q) Q)) : AC F P nt (.seq x y) S Q := by
  intro g w a hid hr
  refine wpIn_seq (wpIn_mono (h g w a hid hr) ?_)
  rintro ex a' w' ⟨g', S', hid', h1, h2, h3⟩
  cases ex with
  | normal => exact wpIn_mono (h3 g' w' a' hid' h1) fun ex a'' w'' ⟨g'', S'', hid'', k1, k2, k3⟩ => ⟨g'', S'', hid'', k1, h2.trans k2, k3⟩
  | exit id => exact ⟨g', S', hid', h1, h2, h3⟩
  | goto l => exact ⟨g', S', hid', h1, h2, h3⟩
  | ret => exact ⟨g', S', hid', h1, h2, h3⟩
  | panic c => exact ⟨g', S', hid', h1, h2, h3⟩
  | outgrown => exact ⟨g', S', hid', h1, h2, h3⟩
theorem AC.skip (h : Q .normal S) : AC F P nt .skip S Q := fun g w a hid hr => wpIn_skip ⟨g, S, hid, hr, Stab.refl g w, h⟩
theorem AC.ret (h : Q .ret S) : AC F P nt .ret S Q := fun g w a hid hr => wpIn_ret ⟨g, S, hid, hr, Stab.refl g w, h⟩
theorem AC.exit {id : Nat} (h : Q (.exit id) S) : AC F P nt (.exit id) S Q := fun g w a hid hr => wpIn_exit ⟨g, S, hid, hr, Stab.refl g w, h⟩
theorem AC.block {id : Nat} {c : Code} (h : AC F P nt c S (blockQ id Q)) : AC F P nt (.block id c) S Q := by
  intro g w a hid hr
  refine wpIn_block (wpIn_mono (h g w a hid hr) ?_)
  rintro ex a' w' ⟨g', S', hid', h1, h2, h3⟩
  cases ex with
  | exit id' =>
    simp only [blockQ] at h3
    simp only [Exit.inBlock]
    split
    · rename_i hid; rw [if_pos hid] at h3; exact ⟨g', S', hid', h1, h2, h3⟩
    · rename_i hid; rw [if_neg hid] at h3; exact ⟨g', S', hid', h1, h2, h3⟩
  | normal => exact ⟨g', S', hid', h1, h2, h3⟩
  | goto l => exact ⟨g', S', hid', h1, h2, h3⟩
  | ret => exact ⟨g', S', hid', h1, h2, h3⟩
  | panic c => exact ⟨g', S', hid', h1, h2, h3⟩
  | outgrown => exact ⟨g', S', hid', h1, h2, h3⟩

theorem Rel.eval {g : Gh} {w : World} {a : Act} {hid : List Nat} (hr : Rel nt g w a S hid) {c : Nat} (hc : c < nt) : Rep g w (a.eval (.tmp c)) (getT S.env c) := by
  have hlt : c < a.tmps.size := by rw [hr.size]; exact hc
  have := hr.env c _ (Array.getElem?_eq_getElem hlt)
  simpa [Act.eval, Array.getD_eq_getD_getElem?, hlt] using this

theorem AC.cond {c : Nat} {b : Bool} {x y : Code} (hb : getT S.env c = .bool b) (ht : b = true → AC F P nt x S Q) (hf : b = false → AC F P nt y S Q) (hc : Nat.blt c nt = true) :
    AC F P nt (.cond (.tmp c) x y) S Q := by
  intro g w a hid hr
  have h := hr.eval (c := c) (by simpa [Nat.blt_eq] using hc)
  rw [hb] at h
  have he : a.eval (.tmp c) = .bool b := by
    generalize a.eval (.tmp c) = u at h
    cases h
    rfl
  cases b with
  | true => exact wpIn_cond_true he (ht rfl g w a hid hr)
  | false => exact wpIn_cond_false he (hf rfl g w a hid hr)

theorem AC.loop {c : Code} (I : Nat → St → Prop) (n0 : Nat) (h0 : I n0 S) (round : ∀ n S, I n S → AC F P nt c S (thenQ (fun S' => ∃ m, m < n ∧ I m S') Q)) (hF : Fr F) : AC F P nt (.loop c) S Q := by
  intro g0 w0 a0 hid0 hr0 b k cs hro hb hroom
  have key : ∀ n S g w a hid, I n S → Rel nt g w a S hid →
      ∃ e a' w', (∃ g' S' hid', Rel nt g' w' a' S' hid' ∧ Ext g w g' w' ∧ Q e S') ∧ ArrivesIn (Machine.fenced P F) P (lone (b.atR a (.code c :: .inLoop c :: k)) cs w) b k cs e a' w' := by
    intro n
    induction n using Nat.strongRecOn with
    | _ n ih =>
      intro S g w a hid hI hr
      obtain ⟨e, a₁, w₁, ⟨g₁, S₁, hid₁, hr₁, he₁, hq⟩, harr⟩ := round n S hI g w a hid hr b (.inLoop c :: k) cs hro hb hroom
      cases e with
      | normal =>
        obtain ⟨m, hlt, hI₁⟩ := hq
        obtain ⟨e₂, a₂, w₂, ⟨g₂, S₂, hid₂, hr₂, he₂, hq₂⟩, harr₂⟩ := ih m hlt S₁ g₁ w₁ a₁ hid₁ hI₁ hr₁
        exact ⟨e₂, a₂, w₂, ⟨g₂, S₂, hid₂, hr₂, he₁.trans he₂, hq₂⟩, .of_steps (StepsIn.trans harr (.one (fenced_calm hb hroom rfl) stepR_inLoop)) harr₂⟩
      | exit id => exact ⟨_, a₁, w₁, ⟨g₁, S₁, hid₁, hr₁, he₁, hq⟩, .pass (x := .inLoop c) rfl (fun _ _ => .inl (by simp)) harr⟩
      | goto l => exact ⟨_, a₁, w₁, ⟨g₁, S₁, hid₁, hr₁, he₁, hq⟩, .pass (x := .inLoop c) rfl (fun _ _ => .inl (by simp)) harr⟩
      | ret => exact ⟨_, a₁, w₁, ⟨g₁, S₁, hid₁, hr₁, he₁, hq⟩, .pass (x := .inLoop c) rfl (fun _ _ => .inl (by simp)) harr⟩
      | panic ch => exact ⟨_, a₁, w₁, ⟨g₁, S₁, hid₁, hr₁, he₁, hq⟩, .pass (x := .inLoop c) rfl (fun _ _ => .inl (by simp)) harr⟩
      | outgrown => exact ⟨_, a₁, w₁, ⟨g₁, S₁, hid₁, hr₁, he₁, hq⟩, .pass (x := .inLoop c) rfl (fun _ _ => .inl (by simp)) harr⟩
  obtain ⟨e, a', w', hq, harr⟩ := key n0 S g0 w0 a0 hid0 h0 hr0
  exact ⟨e, a', w', hq, .of_steps (.one (fenced_calm hb hroom rfl) stepR_loop) harr⟩
end

/-! ### Functions -/
def RepAll (g : Gh) (w : World) (vs : Array Value) (as : List AV) : Prop := vs.size = as.length ∧ ∀ (i : Nat) v a, vs[i]? = some v → as[i]? = some a → Rep g w v a

def Meets (P : Program) (f : FuncId) (args : List AV) (mem : List Ent) (R : AV → List Ent → Prop) : Prop :=
  ∀ g w vs, Inv g w mem → RepAll g w vs args → Calls P f vs w fun e w' => ∃ v r mem' g', e = .returned v ∧ R r mem' ∧ Rep g' w' v r ∧ Inv g' w' mem' ∧ Ext g w g' w'

/-- It leaves the caller's memory alone and returns just this. -/
def Pure (P : Program) (f : FuncId) (args : List AV) (r : AV) : Prop := ∀ mem, Meets P f args mem fun r' mem' => r' = r ∧ mem' = mem

def argEnv : Nat → List AV → List (Nat × AV)
  | _, [] => []
  | i, a :: r => (i, a) :: argEnv (i + 1) r
theorem getT_argEnv : ∀ (as : List AV) (k x : Nat), getT (argEnv k as) x = .top ∨ (k ≤ x ∧ as[x - k]? = some (getT (argEnv k as) x))
  | [], _, _ => .inl rfl
  | a :: r, k, x => by
    simp only [argEnv, getT]
    by_cases h : x = k
    · subst h
      rw [if_pos rfl]
      exact .inr ⟨Nat.le_refl _, by simp⟩
    · rw [if_neg h]
      rcases getT_argEnv r (k + 1) x with h1 | ⟨h1, h2⟩
      · exact .inl h1
      · refine .inr ⟨by omega, ?_⟩
        rw [show x - k = (x - (k + 1)) + 1 from by omega, List.getElem?_cons_succ]
        exact h2

def Result (P : Program) (fn : Func) (nt : Nat) (S : St) (r : AV) : Prop := ∀ g w a hid, Rel nt g w a S hid → ∃ v, (results fn a.tmps).run P w = .ok v w ∧ Rep g w v r

theorem Inv.drop {g : Gh} {w : World} {mem : List Ent} (h : Inv g w mem) (n : Nat) : Inv g w (mem.drop n) :=
  ⟨fun e he => h.ok e (List.mem_of_mem_drop he), fun i j ei ej b hi hj bi bj => by
    rw [List.getElem?_drop] at hi hj
    have := h.apart _ _ ei ej b hi hj bi bj
    omega, h.base, h.lt, h.room⟩
theorem Inv.take {g : Gh} {w : World} {mem : List Ent} (h : Inv g w mem) (n : Nat) : Inv g w (mem.take n) := by
  refine ⟨fun e he => h.ok e (List.mem_of_mem_take he), ?_, h.base, h.lt, h.room⟩
  · intro i j ei ej b hi hj bi bj
    rw [List.getElem?_take] at hi hj
    split at hi <;> split at hj
    · exact h.apart _ _ ei ej b hi hj bi bj
    · cases hj
    · cases hi
    · cases hi
theorem Inv.holes {g : Gh} {w : World} {mem : List Ent} (h : Inv g w mem) (n : Nat) : Inv g w (List.replicate n .hole ++ mem) := by
  refine ⟨fun e he => ?_, fun i j ei ej b hi hj bi bj => ?_, h.base, h.lt, h.room⟩
  · rw [List.mem_append] at he
    rcases he with he | he
    · rw [List.eq_of_mem_replicate he]; trivial
    · exact h.ok e he
  · have one : ∀ (i : Nat) e, (List.replicate n Ent.hole ++ mem)[i]? = some e → e.block g = some b → n ≤ i ∧ mem[i - n]? = some e := by
      intro i e hi hb
      by_cases hlt : i < n
      · rw [List.getElem?_append_left (by simpa using hlt), List.getElem?_replicate, if_pos hlt] at hi
        injection hi with hi
        subst hi
        simp [Ent.block] at hb
      · rw [List.getElem?_append_right (by simp; omega)] at hi
        exact ⟨by omega, by simpa using hi⟩
    obtain ⟨a1, a2⟩ := one i ei hi bi
    obtain ⟨b1, b2⟩ := one j ej hj bj
    have := h.apart _ _ ei ej b a2 b2 bi bj
    omega

/-- The marks are taken, one after the other. -/
theorem leaves_marks {F : Fence} {P : Program} {fn : Func} {nt : Nat} {r : AV} {R : Ending → World → Prop} {mem : List Ent} {a : Act} {env : List (Nat × AV)} :
    ∀ (hid : List Nat) g w, Rel nt g w { a with defers := hid.map markDefer } ⟨env, mem⟩ hid → Result P fn nt ⟨env, mem⟩ r →
      (∀ g' w' v, Rep g' w' v r → Inv g' w' mem → Ext g w g' w' → R (.returned v) w') → LeavesInM F 0 P fn a.tmps R (hid.map markDefer) .returning w
  | [], g, w, hr, hres, hR => by
    obtain ⟨v, h1, h2⟩ := hres g w _ [] hr
    exact ⟨v, h1, hR g w v h2 (by simpa using hr.inv) (Stab.refl g w)⟩
  | x :: hid, g, w, hr, hres, hR => by
    have hmark : (mem ++ (x :: hid).map Ent.mark)[mem.length]? = some (.mark x) := by
      rw [List.getElem?_append_right (Nat.le_refl _)]; simp
    obtain ⟨hb, hx, him⟩ := hr.inv.ok (.mark x) (List.mem_of_getElem? hmark)
    have hlt : x < w.heap.size := (Array.getElem?_eq_some_iff.1 hx).1
    let w1 : World := { w with heap := w.heap.setIfInBounds x (.deferred none) }
    have hrun : (Instr.takeDeferred x).run P w = .ok [] w1 := by
      unfold Instr.takeDeferred
      simp [getObj, setObj, Sem.run, hx, w1, Result.andThen]
    refine ⟨by simp, .inl ⟨x, w1, rfl, hrun, ?_⟩⟩
    have hheap : ∀ b, b ≠ x → w1.heap[b]? = w.heap[b]? := fun b hne => by
      show (w.heap.setIfInBounds x _)[b]? = _
      rw [Array.getElem?_setIfInBounds_ne (Ne.symm hne)]
    have hst : Ext g w g w1 := ⟨rfl, ⟨rfl, rfl, rfl, by simp [w1], fun k hk => hheap k (by omega)⟩, fun b o hi => ⟨hi, by
      have hne : b ≠ x := fun e => by subst e; exact him o hi
      simp only [World.cell?, hheap b hne]⟩, fun _ _ _ => rfl, fun s hs => by cases hs⟩
    have hinv : Inv g w1 ((mem ++ (x :: hid).map Ent.mark).set mem.length .hole) := by
      refine hr.inv.set hst mem.length .hole ?_ trivial (fun b o hi => by simpa [w1] using hr.inv.lt b o hi) hr.inv.room
      intro i e b hi hne hbk
      refine ⟨hheap b ?_, fun _ h => h, by simp [Ent.block]⟩
      intro e'
      subst e'
      exact hne (hr.inv.apart i mem.length e (.mark b) b hi hmark hbk rfl)
    have hinv' : Inv g w1 (mem ++ hid.map Ent.mark) := by
      rw [List.set_append_right _ _ (Nat.le_refl _)] at hinv
      simp only [Nat.sub_self, List.map_cons, List.set_cons_zero] at hinv
      refine ⟨fun e he => hinv.ok e ?_, ?_, hinv.base, hinv.lt, hinv.room⟩
      · simp only [List.mem_append, List.mem_cons] at he ⊢
        rcases he with he | he
        · exact .inl he
        · exact .inr (.inr he)
      · have one : ∀ (i : Nat) e, (mem ++ hid.map Ent.mark)[i]? = some e → (mem ++ Ent.hole :: hid.map Ent.mark)[if i < mem.length then i else i + 1]? = some e := by
          intro i e hi
          by_cases hlt : i < mem.length
          · rw [if_pos hlt, List.getElem?_append_left hlt]
            rw [List.getElem?_append_left hlt] at hi
            exact hi
          · rw [if_neg hlt, List.getElem?_append_right (by omega), show i + 1 - mem.length = (i - mem.length) + 1 from by omega, List.getElem?_cons_succ]
            rw [List.getElem?_append_right (by omega)] at hi
            exact hi
        intro i j ei ej b hi hj bi bj
        have := hinv.apart _ _ ei ej b (one i ei hi) (one j ej hj) bi bj
        split at this <;> split at this <;> omega
    refine leaves_marks (a := a) hid g w1 ⟨hr.size, rfl, EnvOK.stab hst hr.env, hinv'⟩ hres ?_
    intro g' w' v h1 h2 h3
    exact hR g' w' v h1 h2 (hst.trans h3)

theorem Fr.plain : Fr Fence.wide := ⟨fun _ => trivial, rfl, fun _ => rfl⟩
theorem Fr.round (l : Nat) : Fr (Fence.wide.inRound l) := ⟨fun _ => trivial, rfl, fun _ => rfl⟩

theorem Meets.of_body {P : Program} {f : FuncId} {fn : Func} {c : Code} {args : List AV} {mem : List Ent} {R : AV → List Ent → Prop} (nh : Nat) (hf : P.funcs[f]? = some fn) (hb : fn.body = some c)
    (hn : Nat.ble args.length fn.ntmps = true)
    (h : AC Fence.wide P fn.ntmps c ⟨argEnv 0 args, List.replicate nh .hole ++ mem⟩ fun ex S => (ex = .ret ∨ ex = .normal) ∧ ∃ r, Result P fn fn.ntmps S r ∧ R r (S.mem.drop nh)) : Meets P f args mem R := by
  intro g w vs hinv hargs
  refine callsIn_wide (n := 0).1 ?_
  refine callsIn_of_wp_marks hf hb trivial ?_ rfl
  have hle := Nat.le_of_ble_eq_true hn
  have hrel : Rel fn.ntmps g w { tmps := vs ++ Array.replicate (fn.ntmps - vs.size) undef, defers := [] } ⟨argEnv 0 args, List.replicate nh .hole ++ mem⟩ [] := by
    refine ⟨?_, rfl, ?_, ?_⟩
    · have := hargs.1
      simp only [Array.size_append, Array.size_replicate]
      omega
    · intro x u hx
      rcases getT_argEnv args 0 x with h1 | ⟨_, h1⟩
      · rw [h1]; exact .top u
      · simp only [Nat.sub_zero] at h1
        have hlt : x < vs.size := by rw [hargs.1]; exact (List.getElem?_eq_some_iff.1 h1).1
        rw [Array.getElem?_append_left hlt] at hx
        exact hargs.2 x u _ hx h1
    · simpa using hinv.holes nh
  refine wpIn_mono (h g w _ [] hrel) ?_
  rintro ex a' w' ⟨g', S', hid', h1, h2, h3, r, h4, h5⟩
  obtain ⟨env', mem'⟩ := S'
  have hleave : LeavesInM Fence.wide 0 P fn a'.tmps (fun e w' => ∃ v r mem' g', e = .returned v ∧ R r mem' ∧ Rep g' w' v r ∧ Inv g' w' mem' ∧ Ext g w g' w') a'.defers .returning w' := by
    rw [h1.defers]
    refine leaves_marks (a := a') (env := env') (mem := mem') (r := r) hid' g' w' ?_ h4 ?_
    · exact ⟨h1.size, rfl, h1.env, h1.inv⟩
    · intro g'' w'' v k1 k2 k3
      exact ⟨v, r, mem'.drop nh, g'', rfl, h5, k1, k2.drop nh, h2.trans k3⟩
  rcases h3 with rfl | rfl
  · exact hleave
  · exact hleave

end Go.Proofs.Ytjhecgiipajdpaa
