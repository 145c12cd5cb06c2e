/- What one operation does to an abstract state; a region of operations, in the text's order and in any order that its edges allow. -/
import Derived.Test.YtjhecgiipajdpaaAv1
set_option linter.unusedVariables false
set_option linter.unusedSimpArgs false
namespace Go.Proofs.Ytjhecgiipajdpaa
open Go.RowKit

/-! ### The heap's part -/
theorem Inv.keep {o : Option Nat} {g g' : Gh} {w w' : World} {mem : List Ent} (h : Inv g w mem) (k : Stab o g w g' w')
    (hb : ∀ e b, e ∈ mem → e.block g = some b → w'.heap[b]? = w.heap[b]?) (hi : ∀ e b o, e ∈ mem → e.block g = some b → g'.imm b o → g.imm b o)
    (hl : ∀ b o, g'.imm b o → b < w'.heap.size) (hr : ∃ N, ∀ s, N ≤ s → g'.sy s = .free) : Inv g' w' mem where
  ok e he := ((h.ok e he).kept k (fun b => hb e b he) (fun b o => hi e b o he)).1
  apart i j ei ej b h1 h2 h3 h4 := by
    have m1 := List.mem_of_getElem? h1
    have m2 := List.mem_of_getElem? h2
    rw [((h.ok ei m1).kept k (fun b => hb ei b m1) (fun b o => hi ei b o m1)).2] at h3
    rw [((h.ok ej m2).kept k (fun b => hb ej b m2) (fun b o => hi ej b o m2)).2] at h4
    exact h.apart i j ei ej b h1 h2 h3 h4
  base := by rw [k.base]; exact Nat.le_trans h.base k.below.size
  lt := hl
  room := hr

theorem Inv.set {o : Option Nat} {g g' : Gh} {w w' : World} {mem : List Ent} (h : Inv g w mem) (k : Stab o g w g' w') (p : Nat) (e' : Ent)
    (ho : ∀ (i : Nat) e b, mem[i]? = some e → i ≠ p → e.block g = some b → w'.heap[b]? = w.heap[b]? ∧ (∀ o, g'.imm b o → g.imm b o) ∧ e'.block g' ≠ some b)
    (hk : EntOK g' w' e') (hl : ∀ b o, g'.imm b o → b < w'.heap.size) (hr : ∃ N, ∀ s, N ≤ s → g'.sy s = .free) : Inv g' w' (mem.set p e') := by
  have one : ∀ (i : Nat) e, (mem.set p e')[i]? = some e → i ≠ p → mem[i]? = some e ∧ EntOK g' w' e ∧ e.block g' = e.block g := by
    intro i e hi hne
    rw [List.getElem?_set_ne (Ne.symm hne)] at hi
    have := (h.ok e (List.mem_of_getElem? hi)).kept k (fun b hb => (ho i e b hi hne hb).1) (fun b o hb => (ho i e b hi hne hb).2.1 o)
    exact ⟨hi, this.1, this.2⟩
  have at_p : ∀ (i : Nat) e, (mem.set p e')[i]? = some e → i = p → e = e' := by
    intro i e hi heq
    subst heq
    by_cases hlt : i < mem.length
    · rw [List.getElem?_set_self hlt] at hi
      exact (Option.some.inj hi).symm
    · rw [List.getElem?_eq_none (by simp; omega)] at hi
      cases hi
  refine ⟨?_, ?_, by rw [k.base]; exact Nat.le_trans h.base k.below.size, hl, hr⟩
  · intro e he
    obtain ⟨i, hi⟩ := List.getElem?_of_mem he
    by_cases hne : i = p
    · rw [at_p i e hi hne]; exact hk
    · exact (one i e hi hne).2.1
  · intro i j ei ej b hi hj bi bj
    by_cases h1 : i = p <;> by_cases h2 : j = p
    · omega
    · exfalso
      obtain ⟨hj', _, hjb⟩ := one j ej hj h2
      rw [hjb] at bj
      rw [at_p i ei hi h1] at bi
      exact (ho j ej b hj' h2 bj).2.2 bi
    · exfalso
      obtain ⟨hi', _, hib⟩ := one i ei hi h1
      rw [hib] at bi
      rw [at_p j ej hj h2] at bj
      exact (ho i ei b hi' h1 bi).2.2 bj
    · obtain ⟨hi', _, hib⟩ := one i ei hi h1
      obtain ⟨hj', _, hjb⟩ := one j ej hj h2
      rw [hib] at bi
      rw [hjb] at bj
      exact h.apart i j ei ej b hi' hj' bi bj

/-! ### One operation -/
structure Fr (F : Fence) : Prop where
  fn : ∀ f, F.fn f
  depth : F.depth = none
  wide : ∀ P, Machine.fenced P F = Machine.fenced P Fence.wide

structure Spec where
  rT : List (Nat × AV) := []
  rM : List (Nat × Ent) := []
  wT : Option (Nat × AV) := none
  wM : Option (Nat × Ent) := none
  sym : Option Nat := none
  need : Option (List Ent → Prop) := none

def setM (mem : List Ent) : Option (Nat × Ent) → List Ent
  | none => mem
  | some (p, e) => mem.set p e
theorem setM_length (mem : List Ent) (x : Option (Nat × Ent)) : (setM mem x).length = mem.length := by cases x <;> simp [setM]
theorem setM_append (mem r : List Ent) (x : Option (Nat × Ent)) (h : ∀ p e, x = some (p, e) → p < mem.length) : setM (mem ++ r) x = setM mem x ++ r := by
  cases x with
  | none => rfl
  | some pe =>
    obtain ⟨p, e⟩ := pe
    simp only [setM]
    rw [List.set_append_left _ _ (h p e rfl)]

structure Step (P : Program) (ops : Array Oper) (o : Oper) (sp : Spec) : Prop where
  dst : o.dst = sp.wT.map (·.1)
  go : ∀ (F : Fence), Fr F → ∀ (g : Gh) (w : World) (a : Act) (mem : List Ent), Inv g w mem →
    (∀ x v, (x, v) ∈ sp.rT → ∃ u, a.tmps[x]? = some u ∧ Rep g w u v) →
    (∀ p e, (p, e) ∈ sp.rM → mem[p]? = some e) →
    (∀ s, sp.sym = some s → g.sy s = .held) →
    (∀ p e, sp.wM = some (p, e) → p < mem.length) →
    (∀ X, sp.need = some X → X mem) →
    ∀ (K : Act → World → Prop) (Q : Exit → Act → World → Prop),
      (∀ g' w' u, Stab sp.sym g w g' w' → Inv g' w' (setM mem sp.wM) → (∀ d v, sp.wT = some (d, v) → Rep g' w' u v) → K (a.put o.dst u) w') →
      if Region.wanted o (yielded ops a.tmps) then o.wpIn F 0 P a w K Q else (∀ f, o.about P w a.eval = some f → F.fn f) ∧ K (a.put o.dst undef) w

/-! ### Abstract programs: requirements and constant updates -/
def runSt (sp : Spec) (S : St) : St := { env := match sp.wT with | none => S.env | some kv => kv :: S.env, mem := setM S.mem sp.wM }
structure Req (sp : Spec) (S : St) : Prop where
  t : ∀ x v, (x, v) ∈ sp.rT → getT S.env x = v
  m : ∀ p e, (p, e) ∈ sp.rM → S.mem[p]? = some e
  w : ∀ p e, sp.wM = some (p, e) → p < S.mem.length
  n : ∀ X, sp.need = some X → ∀ l, X (S.mem ++ l)
structure SEq (S S' : St) : Prop where
  t : ∀ x, getT S.env x = getT S'.env x
  m : S.mem = S'.mem
theorem SEq.refl (S : St) : SEq S S := ⟨fun _ => rfl, rfl⟩
theorem SEq.symm {S S' : St} (h : SEq S S') : SEq S' S := ⟨fun x => (h.t x).symm, h.m.symm⟩
theorem SEq.trans {S S' S'' : St} (h : SEq S S') (k : SEq S' S'') : SEq S S'' := ⟨fun x => (h.t x).trans (k.t x), h.m.trans k.m⟩
theorem Req.seq {sp : Spec} {S S' : St} (h : Req sp S) (k : SEq S S') : Req sp S' := ⟨fun x v hx => (k.t x).symm.trans (h.t x v hx), fun p e hp => by rw [← k.m]; exact h.m p e hp, fun p e hp => by rw [← k.m]; exact h.w p e hp, fun X hX l => by rw [← k.m]; exact h.n X hX l⟩
theorem getT_runSt (sp : Spec) (S : St) (x : Nat) : getT (runSt sp S).env x = match sp.wT with | none => getT S.env x | some (d, v) => if x = d then v else getT S.env x := by
  unfold runSt
  cases h : sp.wT with
  | none => rfl
  | some kv => obtain ⟨k, v⟩ := kv; rfl
theorem runSt_seq {sp : Spec} {S S' : St} (k : SEq S S') : SEq (runSt sp S) (runSt sp S') := by
  refine ⟨fun x => ?_, by simp only [runSt, k.m]⟩
  rw [getT_runSt, getT_runSt]
  cases sp.wT with
  | none => exact k.t x
  | some kv => simp only [k.t x]

def valid : List Spec → St → St → Prop
  | [], S, F => SEq S F
  | sp :: r, S, F => Req sp S ∧ valid r (runSt sp S) F
theorem valid_seq : ∀ (l : List Spec) {S S' F : St}, SEq S S' → valid l S F → valid l S' F
  | [], _, _, _, k, h => k.symm.trans h
  | _ :: r, _, _, _, k, h => ⟨h.1.seq k, valid_seq r (runSt_seq k) h.2⟩

/-- Neither sees nor undoes what the other writes. -/
def indep (k i : Spec) : Bool :=
  (match k.wT with
   | none => true
   | some (d, _) => i.rT.all (fun x => x.1 != d) && (match i.wT with | none => true | some (d', _) => d' != d)) &&
  (match i.wT with
   | none => true
   | some (d, _) => k.rT.all (fun x => x.1 != d)) &&
  (match k.wM with
   | none => true
   | some (p, _) => i.rM.all (fun x => x.1 != p) && (match i.wM with | none => true | some (p', _) => p' != p)) &&
  (match i.wM with
   | none => true
   | some (p, _) => k.rM.all (fun x => x.1 != p)) &&
  (match i.need with
   | none => true
   | some _ => k.wM.isNone) &&
  (match k.need with
   | none => true
   | some _ => i.wM.isNone)

structure Indep (k i : Spec) : Prop where
  kt : ∀ d v, k.wT = some (d, v) → (∀ x u, (x, u) ∈ i.rT → x ≠ d) ∧ ∀ d' v', i.wT = some (d', v') → d' ≠ d
  it : ∀ d v, i.wT = some (d, v) → ∀ x u, (x, u) ∈ k.rT → x ≠ d
  km : ∀ p e, k.wM = some (p, e) → (∀ x u, (x, u) ∈ i.rM → x ≠ p) ∧ ∀ p' e', i.wM = some (p', e') → p' ≠ p
  im : ∀ p e, i.wM = some (p, e) → ∀ x u, (x, u) ∈ k.rM → x ≠ p
  ni : ∀ X, i.need = some X → k.wM = none
  nk : ∀ X, k.need = some X → i.wM = none

theorem indep_spec {k i : Spec} (h : indep k i = true) : Indep k i := by
  unfold indep at h
  simp only [Bool.and_eq_true] at h
  obtain ⟨⟨⟨⟨⟨h1, h2⟩, h3⟩, h4⟩, h5⟩, h6⟩ := h
  refine ⟨?_, ?_, ?_, ?_, fun X hX => by rw [hX] at h5; simpa using h5, fun X hX => by rw [hX] at h6; simpa using h6⟩
  · intro d v hk
    rw [hk] at h1
    simp only [Bool.and_eq_true, List.all_eq_true, bne_iff_ne] at h1
    refine ⟨fun x u hx => h1.1 _ hx, fun d' v' hi => ?_⟩
    rw [hi] at h1
    simpa using h1.2
  · intro d v hi x u hx
    rw [hi] at h2
    simp only [List.all_eq_true, bne_iff_ne] at h2
    exact h2 _ hx
  · intro d v hk
    rw [hk] at h3
    simp only [Bool.and_eq_true, List.all_eq_true, bne_iff_ne] at h3
    refine ⟨fun x u hx => h3.1 _ hx, fun d' v' hi => ?_⟩
    rw [hi] at h3
    simpa using h3.2
  · intro d v hi x u hx
    rw [hi] at h4
    simp only [List.all_eq_true, bne_iff_ne] at h4
    exact h4 _ hx

theorem Req.back {k i : Spec} {S : St} (h : Indep k i) (r : Req i (runSt k S)) : Req i S := by
  refine ⟨fun x v hx => ?_, fun p e hp => ?_, fun p e hp => ?_, fun X hX l => by simpa [runSt, setM, h.ni X hX] using r.n X hX l⟩
  · have := r.t x v hx
    rw [getT_runSt] at this
    cases hk : k.wT with
    | none => rw [hk] at this; exact this
    | some kv =>
      obtain ⟨d, u⟩ := kv
      rw [hk] at this
      simp only [if_neg ((h.kt d u hk).1 x v hx)] at this
      exact this
  · have := r.m p e hp
    cases hk : k.wM with
    | none => simpa [runSt, setM, hk] using this
    | some kv =>
      obtain ⟨q, u⟩ := kv
      have hne := (h.km q u hk).1 p e hp
      simp only [runSt, setM, hk, List.getElem?_set_ne (Ne.symm hne)] at this
      exact this
  · have := r.w p e hp
    simpa [runSt, setM_length] using this
theorem Req.forth {k i : Spec} {S : St} (h : Indep k i) (r : Req k S) : Req k (runSt i S) := by
  refine ⟨fun x v hx => ?_, fun p e hp => ?_, fun p e hp => ?_, fun X hX l => by simpa [runSt, setM, h.nk X hX] using r.n X hX l⟩
  · rw [getT_runSt]
    cases hi : i.wT with
    | none => exact r.t x v hx
    | some kv =>
      obtain ⟨d, u⟩ := kv
      simp only [if_neg (h.it d u hi x v hx)]
      exact r.t x v hx
  · cases hi : i.wM with
    | none => simpa [runSt, setM, hi] using r.m p e hp
    | some kv =>
      obtain ⟨q, u⟩ := kv
      simp only [runSt, setM, hi, List.getElem?_set_ne (Ne.symm (h.im q u hi p e hp))]
      exact r.m p e hp
  · simpa [runSt, setM_length] using r.w p e hp
theorem run_comm {k i : Spec} {S : St} (h : Indep k i) : SEq (runSt i (runSt k S)) (runSt k (runSt i S)) := by
  refine ⟨fun x => ?_, ?_⟩
  · simp only [getT_runSt]
    cases hk : k.wT with
    | none => rfl
    | some kv =>
      obtain ⟨d, u⟩ := kv
      cases hi : i.wT with
      | none => rfl
      | some kv' =>
        obtain ⟨d', u'⟩ := kv'
        have := (h.kt d u hk).2 d' u' hi
        dsimp only
        by_cases h1 : x = d <;> by_cases h2 : x = d' <;> simp_all
  · simp only [runSt]
    cases hk : k.wM with
    | none => simp [setM]
    | some kv =>
      obtain ⟨p, u⟩ := kv
      cases hi : i.wM with
      | none => simp [setM]
      | some kv' =>
        obtain ⟨p', u'⟩ := kv'
        simp only [setM]
        exact List.set_comm _ _ (Ne.symm ((h.km p u hk).2 p' u' hi))

theorem valid_move : ∀ (A B : List Spec) (i : Spec) {S F : St}, valid (A ++ i :: B) S F → (∀ k ∈ A, Indep k i) → Req i S ∧ valid (A ++ B) (runSt i S) F
  | [], _, _, _, _, h, _ => h
  | k :: A, B, i, S, F, h, hi => by
    obtain ⟨hk, hr⟩ := h
    obtain ⟨h1, h2⟩ := valid_move A B i hr (fun k hk => hi k (List.mem_cons_of_mem _ hk))
    have hki := hi k List.mem_cons_self
    exact ⟨h1.back hki, hk.forth hki, valid_seq _ (run_comm hki) h2⟩

end Go.Proofs.Ytjhecgiipajdpaa
