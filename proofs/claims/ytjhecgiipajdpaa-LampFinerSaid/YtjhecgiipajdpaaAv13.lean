/- Ranges over functions: the statement and its rounds. -/
import Derived.Test.YtjhecgiipajdpaaAv12
import Derived.RangeFuncIn
set_option linter.unusedVariables false
set_option linter.unusedSimpArgs false
namespace Go.Proofs.Ytjhecgiipajdpaa
open Go.RowKit

section
variable {F : Fence} {P : Program} {nt : Nat} {ops : Array Oper} {S : St} {Q : Exit → St → Prop}
theorem yielded_bool {j gt : Nat} {b : Bool} (hj : (ops[j]?).bind (·.dst) = some gt) (hb : getT S.env gt = .bool b) (hgt : Nat.blt gt nt = true) {g : Gh} {w : World} {a : Act} {hid : List Nat} (hr : Rel nt g w a S hid) : yielded ops a.tmps j = some b := by
  have h := hr.eval (c := gt) (by simpa [Nat.blt_eq] using hgt)
  rw [hb] at h
  have hlt : gt < a.tmps.size := by rw [hr.size]; simpa [Nat.blt_eq] using hgt
  unfold yielded
  rw [hj]
  simp only [Option.bind_some]
  have he : a.eval (.tmp gt) = a.tmps[gt] := by simp [Act.eval, hlt]
  rw [he] at h
  generalize hu : a.tmps[gt] = u at h
  cases h
  rw [Array.getElem?_eq_getElem hlt, hu]
theorem want_gd {j gt : Nat} {b want : Bool} {d : Option Nat} {op : Op} {ty : TypeId} {pos : String} {aft : Array Edge} (hj : (ops[j]?).bind (·.dst) = some gt) (hb : getT S.env gt = .bool b) (hgt : Nat.blt gt nt = true) (e : b = want) {g : Gh} {w : World} {a : Act} {hid : List Nat} (hr : Rel nt g w a S hid) :
    Region.wanted ⟨d, op, ty, pos, aft, some (j, want)⟩ (yielded ops a.tmps) = true := by
  simp only [Region.wanted, yielded_bool hj hb hgt hr]
  subst e
  simp
theorem unwant_gd {j gt : Nat} {b want : Bool} {d : Option Nat} {op : Op} {ty : TypeId} {pos : String} {aft : Array Edge} (hj : (ops[j]?).bind (·.dst) = some gt) (hb : getT S.env gt = .bool b) (hgt : Nat.blt gt nt = true) (e : b = !want) {g : Gh} {w : World} {a : Act} {hid : List Nat} (hr : Rel nt g w a S hid) :
    Region.wanted ⟨d, op, ty, pos, aft, some (j, want)⟩ (yielded ops a.tmps) = false := by
  simp only [Region.wanted, yielded_bool hj hb hgt hr]
  subst e
  cases want <;> rfl
theorem RunL.cases {l : List Oper} (b : Bool) (h1 : b = true → RunL F P nt ops l S Q) (h2 : b = false → RunL F P nt ops l S Q) : RunL F P nt ops l S Q := by
  cases b with
  | true => exact h1 rfl
  | false => exact h2 rfl
theorem RunL.skip (hF : Fr F) {l2 : List Oper} {o : Oper} {b : Bool} (v : AV) (hb : b = false) (hw : ∀ g w a hid, Rel nt g w a S hid → Region.wanted o (yielded ops a.tmps) = false) (h : RunL F P nt ops l2 ⟨putT o.dst (.cond b v) S.env, S.mem⟩ Q) : RunL F P nt ops (o :: l2) S Q := by
  intro g0 w0 g w a hid he hr
  unfold wpListIn
  rw [hw g w a hid hr]
  exact ⟨fun f _ => hF.fn f, h g0 w0 g w _ hid he (hr.put (Stab.refl g w) hr.inv (.condF hb))⟩
end
theorem Fr.inRound {F : Fence} (hF : Fr F) (l : Nat) : Fr (F.inRound l) := ⟨hF.fn, hF.depth, fun P => hF.wide P⟩

def World.putO (w : World) (l : Nat) (o : Obj) : World := { w with heap := w.heap.setIfInBounds l o }
/-- The record turned. -/
theorem Inv.setLoop {g : Gh} {w : World} {mem : List Ent} (h : Inv g w mem) {p l : Nat} {st : LoopState} {pend : Option Code} {ps : Array Tmp} {as bo : Code} {env : List (Nat × AV)} {nt : Nat}
    (hm : mem[p]? = some (.loop l st pend ps as bo env nt)) (st' : LoopState) (pend' : Option Code) :
    ∃ fn tmps d, w.heap[l]? = some (.loop { state := st, pending := pend, fn := fn, tmps := tmps, params := ps, assign := as, body := bo, defers := d }) ∧ tmps.size = nt ∧ EnvOK g w env tmps ∧
      (let w' := World.putO w l (.loop { state := st', pending := pend', fn := fn, tmps := tmps, params := ps, assign := as, body := bo, defers := d })
       Ext g w g w' ∧ Inv g w' (mem.set p (.loop l st' pend' ps as bo env nt))) := by
  obtain ⟨hb, ⟨fn, tmps, d, hl, hsz, henv⟩, him⟩ := h.ok _ (List.mem_of_getElem? hm)
  refine ⟨fn, tmps, d, hl, hsz, henv, ?_⟩
  intro w'
  have hlt : l < w.heap.size := (Array.getElem?_eq_some_iff.1 hl).1
  have hheap : ∀ b, b ≠ l → w'.heap[b]? = w.heap[b]? := fun b hne => by
    show (w.heap.setIfInBounds l _)[b]? = _
    rw [Array.getElem?_setIfInBounds_ne (Ne.symm hne)]
  have hst : Ext g w g w' := ⟨rfl, ⟨rfl, rfl, rfl, by simp [w', World.putO], fun k hk => hheap k (by omega)⟩, fun b o hi => ⟨hi, by
    have hne : b ≠ l := fun e => by subst e; exact him o hi
    simp only [World.cell?, hheap b hne]⟩, fun _ _ _ => rfl, fun s hs => by cases hs⟩
  refine ⟨hst, h.set hst p _ ?_ ?_ (fun b o hi => by simpa [w', World.putO] using h.lt b o hi) h.room⟩
  · intro i e b hi hne hbk
    have hbl : b ≠ l := by
      intro e'
      subst e'
      exact hne (h.apart i p e _ b hi hm hbk rfl)
    exact ⟨hheap b hbl, fun _ h => h, by simp only [Ent.block, ne_eq, Option.some.injEq]; exact fun e => hbl e.symm⟩
  · refine ⟨hb, ⟨fn, tmps, d, ?_, hsz, henv.stab hst⟩, him⟩
    show (w.heap.setIfInBounds l _)[l]? = _
    rw [Array.getElem?_setIfInBounds_self_of_lt hlt]

theorem run_newObj' {P : Program} (w : World) (o : Obj) : (newObj o).run P w = .ok w.heap.size (w.alloc o) := by
  unfold newObj Sem.run
  rfl
theorem run_getLoop {P : Program} {w : World} {l : Nat} {r : Loop} (h : w.heap[l]? = some (.loop r)) : (Instr.getLoop l).run P w = .ok r w := by
  simp [Instr.getLoop, getObj, Sem.run, h, Result.andThen]
theorem run_setLoop {P : Program} {w : World} {l : Nat} {r : Loop} {o' : Obj} (h : w.heap[l]? = some (.loop r)) : (setObj l o').run P w = .ok () (World.putO w l o') := by
  have hlt := (Array.getElem?_eq_some_iff.1 h).1
  simp [setObj, Sem.run, World.putO, h]
theorem run_begin {P : Program} {w : World} {l : Nat} {r : Loop} (h : w.heap[l]? = some (.loop r)) (hr : r.state = .ready) : (Instr.beginRound l).run P w = .ok () (World.putO w l (.loop { r with state := .busy })) := by
  simp [Instr.beginRound, run_getLoop h, run_setLoop h, hr, Result.andThen]
theorem run_endRound {P : Program} {w : World} {l : Nat} {r : Loop} (j : Option Code) (h : w.heap[l]? = some (.loop r)) :
    (Instr.endRound l j).run P w = .ok (.bool j.isNone) (World.putO w l (.loop { r with state := if j.isNone then .ready else .done, pending := j })) := by
  simp [Instr.endRound, run_getLoop h, run_setLoop h, Result.andThen]
theorem run_endLoop {P : Program} {w : World} {l : Nat} {r : Loop} (h : w.heap[l]? = some (.loop r)) (hr : r.state ≠ .busy) :
    (Instr.endLoop l).run P w = .ok r.pending (World.putO w l (.loop { r with state := .exhausted })) := by
  have : (r.state == LoopState.busy) = false := by cases hs : r.state <;> simp_all
  simp [Instr.endLoop, run_getLoop h, run_setLoop h, this, Result.andThen]
  exact fun h => absurd h hr

/-- The parameters of a round. -/
def parEnv : List Tmp → List AV → List (Nat × AV) → List (Nat × AV)
  | p :: ps, a :: as, env => parEnv ps as ((p, a) :: env)
  | _, _, env => env
theorem env_par {g : Gh} {w : World} : ∀ (ps : List Tmp) (vs : List Value) (as : List AV) (env : List (Nat × AV)) (tmps : Array Value), ps.length = vs.length → vs.length = as.length →
    (∀ (i : Nat) v a, vs[i]? = some v → as[i]? = some a → Rep g w v a) → EnvOK g w env tmps → EnvOK g w (parEnv ps as env) ((ps.zip vs).foldl (fun tmps (t, a) => tmps.setIfInBounds t a) tmps)
  | [], [], [], env, tmps, _, _, _, he => he
  | p :: ps, v :: vs, a :: as, env, tmps, h1, h2, hr, he => by
    simp only [parEnv, List.zip_cons_cons, List.foldl_cons]
    refine env_par ps vs as _ _ (by simpa using h1) (by simpa using h2) (fun i v a x y => hr (i + 1) v a (by simpa using x) (by simpa using y)) ?_
    intro x u hx
    rw [Array.getElem?_setIfInBounds] at hx
    show Rep g w u (if x = p then a else getT env x)
    by_cases hxp : p = x
    · subst hxp
      rw [if_pos rfl] at hx ⊢
      split at hx
      · injection hx with hx
        subst hx
        exact hr 0 v a rfl rfl
      · cases hx
    · rw [if_neg hxp] at hx
      rw [if_neg (fun e => hxp e.symm)]
      exact he x u hx
theorem size_par : ∀ (ps : List Tmp) (vs : List Value) (tmps : Array Value), ((ps.zip vs).foldl (fun tmps (t, a) => tmps.setIfInBounds t a) tmps).size = tmps.size
  | [], _, _ => rfl
  | _ :: _, [], _ => rfl
  | p :: ps, v :: vs, tmps => by
    simp only [List.zip_cons_cons, List.foldl_cons]
    rw [size_par ps vs]
    simp

section
variable {P : Program} {nt : Nat}
/-- How a round's end is told. -/
def roundR (l p : Nat) (ps : Array Tmp) (as bo : Code) (env : List (Nat × AV)) (nt : Nat) (tail : List Ent) (R : AV → List Ent → Prop) (ex : Exit) (S : St) : Prop :=
  ∃ T, Weak S T ∧ ∃ m', T.mem = m' ++ tail ∧ m'[p]? = some (.loop l .busy none ps as bo env nt) ∧
    match ex with
    | .normal => R (.bool true) (m'.set p (.loop l .ready none ps as bo env nt))
    | .ret => R (.bool false) (m'.set p (.loop l .done (some .ret) ps as bo env nt))
    | .exit id => R (.bool false) (m'.set p (.loop l .done (some (.exit id)) ps as bo env nt))
    | _ => False

theorem Yields.round {l p : Nat} {ps : Array Tmp} {as bo : Code} {env : List (Nat × AV)} {args : List AV} {m : List Ent} {R : AV → List Ent → Prop} (hm : m[p]? = some (.loop l .ready none ps as bo env nt)) (hps : ps.size = args.length)
    (h : ∀ (F : Fence), Fr F → F.round = some l → ∀ tail, AC F P nt as ⟨parEnv ps.toList args env, m ++ tail⟩ (thenQ (fun S => ∃ m1, S.mem = m1 ++ tail ∧ m1[p]? = some (.loop l .ready none ps as bo env nt) ∧
      AC F P nt bo ⟨S.env, m1.set p (.loop l .busy none ps as bo env nt) ++ tail⟩ (roundR l p ps as bo env nt tail R)) (fun _ _ => False))) : Yields P l args m R := by
  intro tail g w vs hi hr
  have hmt : (m ++ tail)[p]? = some (.loop l .ready none ps as bo env nt) := by rw [List.getElem?_append_left (List.getElem?_eq_some_iff.1 hm).1]; exact hm
  obtain ⟨hb, ⟨fn, tmps, d, hl, hsz, henv⟩, him⟩ := hi.ok _ (List.mem_of_getElem? hmt)
  have hvs : ps.size = vs.size := by rw [hps, hr.1]
  refine ⟨fn, (ps.zip vs).foldl (fun tmps (t, a) => tmps.setIfInBounds t a) tmps, as, bo, ?_, ?_⟩
  · simp [Instr.yield, run_getLoop hl, hvs, Result.andThen]
  intro F hF
  refine roundIn_of_wpIn (hF.fn fn) ?_
  have hfold : (ps.zip vs).foldl (fun tmps (t, a) => tmps.setIfInBounds t a) tmps = (ps.toList.zip vs.toList).foldl (fun tmps (t, a) => tmps.setIfInBounds t a) tmps := by
    rw [← Array.foldl_toList, Array.toList_zip]
  have hrel : Rel nt g w { tmps := (ps.zip vs).foldl (fun tmps (t, a) => tmps.setIfInBounds t a) tmps, defers := [] } ⟨parEnv ps.toList args env, m ++ tail⟩ [] := by
    refine ⟨?_, rfl, ?_, by simpa using hi⟩
    · show Array.size _ = nt
      rw [hfold, size_par, hsz]
    · show EnvOK g w (parEnv ps.toList args env) ((ps.zip vs).foldl (fun tmps (t, a) => tmps.setIfInBounds t a) tmps)
      rw [hfold]
      exact env_par ps.toList vs.toList args env tmps (by simpa using hvs) (by simpa using hr.1) (fun i v a x y => hr.2 i v a (by simpa using x) y) henv
  refine wpIn_mono (h (F.inRound l) (hF.inRound l) rfl tail g w _ [] hrel) ?_
  rintro ex a1 w1 ⟨g1, S1, hid1, h1, h2, h3⟩
  cases ex with
  | normal =>
    obtain ⟨m1, hm1, hp1, hbody⟩ := h3
    have hlt1 := (List.getElem?_eq_some_iff.1 hp1).1
    have hat : (S1.mem ++ hid1.map Ent.mark)[p]? = some (.loop l .ready none ps as bo env nt) := by
      rw [hm1, List.append_assoc, List.getElem?_append_left hlt1]; exact hp1
    obtain ⟨fn1, tmps1, d1, hl1, hsz1, henv1, hext, hinv⟩ := h1.inv.setLoop hat .busy none
    refine ⟨_, run_begin hl1 rfl, ?_⟩
    have hrel2 : Rel nt g1 (World.putO w1 l (.loop { state := .busy, pending := none, fn := fn1, tmps := tmps1, params := ps, assign := as, body := bo, defers := d1 })) a1 ⟨S1.env, m1.set p (.loop l .busy none ps as bo env nt) ++ tail⟩ hid1 := by
      refine ⟨h1.size, h1.defers, EnvOK.stab hext h1.env, ?_⟩
      rw [hm1, List.append_assoc, List.set_append_left _ _ hlt1, ← List.append_assoc] at hinv
      exact hinv
    refine wpIn_mono (hbody g1 (World.putO w1 l (.loop { state := .busy, pending := none, fn := fn1, tmps := tmps1, params := ps, assign := as, body := bo, defers := d1 })) a1 hid1 hrel2) ?_
    rintro ex2 a2 w2 ⟨g2, S20, hid2, k10, k2, S2, kw, m2, k3, k4, k5⟩
    have k1 := k10.weak kw
    have hlt2 := (List.getElem?_eq_some_iff.1 k4).1
    have hat2 : (S2.mem ++ hid2.map Ent.mark)[p]? = some (.loop l .busy none ps as bo env nt) := by
      rw [k3, List.append_assoc, List.getElem?_append_left hlt2]; exact k4
    have fin : ∀ (st : LoopState) (j : Option Code), ∃ fn d tmps, w2.heap[l]? = some (.loop { state := .busy, pending := none, fn := fn, tmps := tmps, params := ps, assign := as, body := bo, defers := d }) ∧
        Ext g w g2 (World.putO w2 l (.loop { state := st, pending := j, fn := fn, tmps := tmps, params := ps, assign := as, body := bo, defers := d })) ∧
        Inv g2 (World.putO w2 l (.loop { state := st, pending := j, fn := fn, tmps := tmps, params := ps, assign := as, body := bo, defers := d })) (m2.set p (.loop l st j ps as bo env nt) ++ tail) := by
      intro st j
      obtain ⟨fn2, tmps2, d2, hl2, hsz2, henv2, hext2, hinv2⟩ := k1.inv.setLoop hat2 st j
      refine ⟨fn2, d2, tmps2, hl2, h2.trans (hext.trans (k2.trans hext2)), ?_⟩
      rw [k3, List.append_assoc, List.set_append_left _ _ hlt2, ← List.append_assoc] at hinv2
      have := hinv2.take (m2.set p (.loop l st j ps as bo env nt) ++ tail).length
      rw [List.take_left] at this
      exact this
    cases ex2 with
    | normal =>
      obtain ⟨fn2, d2, tmps2, f1, f2, f3⟩ := fin .ready none
      exact ⟨_, _, run_endRound none f1, _, _, _, g2, rfl, k5, .bool _, f3, f2⟩
    | ret =>
      obtain ⟨fn2, d2, tmps2, f1, f2, f3⟩ := fin .done (some .ret)
      exact ⟨_, _, run_endRound (some .ret) f1, _, _, _, g2, rfl, k5, .bool _, f3, f2⟩
    | exit id =>
      obtain ⟨fn2, d2, tmps2, f1, f2, f3⟩ := fin .done (some (.exit id))
      exact ⟨_, _, run_endRound (some (.exit id)) f1, _, _, _, g2, rfl, k5, .bool _, f3, f2⟩
    | goto t => exact k5.elim
    | panic ch => exact k5.elim
    | outgrown => exact k5.elim
  | ret => exact h3.elim
  | exit id => exact h3.elim
  | goto t => exact h3.elim
  | panic ch => exact h3.elim
  | outgrown => exact h3.elim

/-- A round's end, the record named. -/
def roundL (l p : Nat) (ps : Array Tmp) (as bo : Code) (env : List (Nat × AV)) (nt : Nat) (L Lb : Ent) (tail : List Ent) (R : AV → List Ent → Prop) (ex : Exit) (S : St) : Prop :=
  ∃ T, Weak S T ∧ ∃ m', T.mem = m' ++ tail ∧ m'[p]? = some Lb ∧
    match ex with
    | .normal => R (.bool true) (m'.set p L)
    | .ret => R (.bool false) (m'.set p (.loop l .done (some .ret) ps as bo env nt))
    | .exit id => R (.bool false) (m'.set p (.loop l .done (some (.exit id)) ps as bo env nt))
    | _ => False
theorem set_same {m : List Ent} {p : Nat} {e : Ent} (h : m[p]? = some e) : m.set p e = m := by
  apply List.ext_getElem?
  intro i
  rw [List.getElem?_set]
  split
  · rename_i hip
    subst hip
    rw [if_pos (List.getElem?_eq_some_iff.1 h).1, h]
  · rfl
theorem Yields.roundL {l p : Nat} {ps : Array Tmp} {as bo : Code} {env : List (Nat × AV)} {args : List AV} {m : List Ent} {R : AV → List Ent → Prop} (hm : m[p]? = some (.loop l .ready none ps as bo env nt)) (hps : ps.size = args.length)
    (h : ∀ L Lb : Ent, L = .loop l .ready none ps as bo env nt → Lb = .loop l .busy none ps as bo env nt → ∀ (F : Fence), Fr F → F.round = some l → ∀ tail, AC F P nt as ⟨parEnv ps.toList args env, m.set p L ++ tail⟩ (thenQ (fun S => ∃ m1, S.mem = m1 ++ tail ∧ m1[p]? = some L ∧
      AC F P nt bo ⟨S.env, m1.set p Lb ++ tail⟩ (Go.Proofs.Ytjhecgiipajdpaa.roundL l p ps as bo env nt L Lb tail R)) (fun _ _ => False))) : Yields P l args m R := by
  refine .round hm hps fun F hF hr tail => ?_
  have := h _ _ rfl rfl F hF hr tail
  rw [set_same hm] at this
  exact this
/-- The loop that the round is of is there. -/
def RoundOK (F : Fence) (mem : List Ent) : Prop := F.round = none ∨ ∃ (l q : Nat) (st : LoopState) (pend : Option Code) (ps : Array Tmp) (as bo : Code) (env : List (Nat × AV)) (nt : Nat), F.round = some l ∧ mem[q]? = some (Ent.loop l st pend ps as bo env nt)

theorem Inv.newLoop {g : Gh} {w : World} {mem : List Ent} (h : Inv g w mem) {p : Nat} (hp : mem[p]? = some .hole) {fn : FuncId} {tmps : Array Value} {ps : Array Tmp} {as bo : Code} {d : Nat} {env : List (Nat × AV)} {nt : Nat} (hsz : tmps.size = nt) (he : EnvOK g w env tmps) :
    let w' := w.alloc (Obj.loop { state := .ready, pending := none, fn := fn, tmps := tmps, params := ps, assign := as, body := bo, defers := d })
    Ext g w g w' ∧ Inv g w' (mem.set p (Ent.loop w.heap.size .ready none ps as bo env nt)) := by
  intro w'
  have hst : Ext g w g w' := ⟨rfl, (Below.refl _ _).alloc h.base _, fun b o hi => ⟨hi, by simp only [World.cell?, w', alloc_old w _ (h.lt b o hi)]⟩, fun _ _ _ => rfl, fun s hs => by cases hs⟩
  refine ⟨hst, h.set hst p _ ?_ ?_ (fun b o hi => by have := h.lt b o hi; simp [w']; omega) h.room⟩
  · intro i e b hi hne hb
    have hlt := (h.ok e (List.mem_of_getElem? hi)).block_lt hb
    refine ⟨alloc_old w _ hlt.2, fun _ hh => hh, ?_⟩
    simp only [Ent.block, ne_eq, Option.some.injEq]
    omega
  · exact ⟨h.base, ⟨fn, tmps, d, alloc_new w _, hsz, he.stab hst⟩, fun o ho => by have := h.lt _ _ ho; omega⟩
theorem Inv.newMark {g : Gh} {w : World} {mem : List Ent} (h : Inv g w mem) : Ext g w g (w.alloc (.deferred (some []))) ∧ Inv g (w.alloc (.deferred (some []))) (Ent.mark w.heap.size :: mem) := by
  have hst : Ext g w g (w.alloc (.deferred (some []))) := ⟨rfl, (Below.refl _ _).alloc h.base _, fun b o hi => ⟨hi, by simp only [World.cell?, alloc_old w _ (h.lt b o hi)]⟩, fun _ _ _ => rfl, fun s hs => by cases hs⟩
  refine ⟨hst, ?_⟩
  have h1 : Inv g w (.hole :: mem) := by simpa using h.holes 1
  have := h1.set hst 0 (.mark w.heap.size) ?_ ?_ (fun b o hi => by have := h.lt b o hi; simp; omega) h.room
  · simpa using this
  · intro i e b hi hne hb
    have hlt := (h1.ok e (List.mem_of_getElem? hi)).block_lt hb
    refine ⟨alloc_old w _ hlt.2, fun _ hh => hh, ?_⟩
    simp only [Ent.block, ne_eq, Option.some.injEq]
    omega
  · exact ⟨h.base, alloc_new w _, fun o ho => by have := h.lt _ _ ho; omega⟩

/-- What the pending jump asks. -/
def jumpQ (Q : Exit → St → Prop) (S : St) : Option Code → Prop
  | none => Q .normal S
  | some .ret => Q .ret S
  | some (.exit id) => Q (.exit id) S
  | _ => False

theorem AC.range {F : Fence} (hF : Fr F) {x : Nat} {ps : Array Tmp} {as bo : Code} {S : St} {Q : Exit → St → Prop} (p : Nat) {n : FuncId} {fs caps : List AV} (hx : getT S.env x = .func n fs caps) (hxn : Nat.blt x nt = true) (hc : Callable P n)
    (hp : S.mem[p]? = some .hole) (hR : RoundOK F S.mem)
    (h : ∀ l, ∃ R, MeetsT P n (fs ++ [.yieldf l] ++ caps) (S.mem.set p (.loop l .ready none ps as bo S.env nt)) R ∧
      ∀ r m', R r m' → ∃ st pend, m'[p]? = some (.loop l st pend ps as bo S.env nt) ∧ st ≠ .busy ∧ jumpQ Q ⟨S.env, m'.set p .hole⟩ pend) : AC F P nt (.rangeFunc (.tmp x) ps as bo) S Q := by
  intro g w a hid hr
  refine wpIn_rangeFunc fun fn hfn => ?_
  have hlt : p < S.mem.length := (List.getElem?_eq_some_iff.1 hp).1
  -- the record is laid
  have hent : ∃ (mark : List Nat) (w1 : World) (l : Nat) (d : Nat), (Instr.enterLoop fn a.tmps ps as bo F.round).run P w = .ok (l, mark.map markDefer) w1 ∧ Ext g w g w1 ∧
      Inv g w1 (S.mem.set p (.loop l .ready none ps as bo S.env nt) ++ (mark ++ hid).map Ent.mark) := by
    rcases hR with hR | ⟨l0, q, st, pend, ps', as', bo', env', nt', hR, hq⟩
    · obtain ⟨e1, i1⟩ := hr.inv.newMark
      have hset : (Ent.mark w.heap.size :: (S.mem ++ hid.map Ent.mark))[p + 1]? = some .hole := by
        rw [List.getElem?_cons_succ, List.getElem?_append_left hlt]; exact hp
      obtain ⟨e2, i2⟩ := i1.newLoop hset (fn := fn) (ps := ps) (as := as) (bo := bo) (d := w.heap.size) hr.size (EnvOK.stab e1 hr.env)
      refine ⟨[w.heap.size], _, (w.alloc (Obj.deferred (some []))).heap.size, w.heap.size, ?_, e1.trans e2, ?_⟩
      · simp [Instr.enterLoop, hR, run_newObj', Result.andThen, markDefer]
      · rw [List.set_cons_succ, List.set_append_left _ _ hlt] at i2
        refine i2.perm ?_
        rw [List.singleton_append, List.map_cons]
        exact (List.perm_middle (l₁ := S.mem.set p _) (l₂ := hid.map Ent.mark) (a := Ent.mark w.heap.size)).symm
    · have hq' : (S.mem ++ hid.map Ent.mark)[q]? = some (.loop l0 st pend ps' as' bo' env' nt') := by
        rw [List.getElem?_append_left (List.getElem?_eq_some_iff.1 hq).1]; exact hq
      obtain ⟨_, ⟨fn0, tmps0, d0, hl0, _⟩, _⟩ := hr.inv.ok _ (List.mem_of_getElem? hq')
      have hset : (S.mem ++ hid.map Ent.mark)[p]? = some .hole := by rw [List.getElem?_append_left hlt]; exact hp
      obtain ⟨e2, i2⟩ := hr.inv.newLoop hset (fn := fn) (ps := ps) (as := as) (bo := bo) (d := d0) hr.size hr.env
      refine ⟨[], _, w.heap.size, d0, ?_, e2, ?_⟩
      · simp [Instr.enterLoop, hR, run_getLoop hl0, run_newObj', Result.andThen]
      · rw [List.set_append_left _ _ hlt] at i2
        exact i2
  obtain ⟨mark, w1, l, d, hrun, hext, hinv⟩ := hent
  obtain ⟨R, hmeets, hend⟩ := h l
  have hxv := hr.eval (c := x) (by simpa [Nat.blt_eq] using hxn)
  rw [hx] at hxv
  generalize hu : a.eval (.tmp x) = u at hxv
  cases hxv with
  | func h1 h2 r1 r2 =>
    rename_i first cs
    have hall : RepAll g w1 (first ++ #[.func (.yield l) #[] #[]] ++ cs) (fs ++ [.yieldf l] ++ caps) :=
      RepAll.append (RepAll.append ⟨h1, fun i v a x y => (r1 i v a x y).stab hext⟩ ⟨rfl, fun i v a x y => by
        match i with
        | 0 => simp at x y; subst x; subst y; exact .yieldf l
        | i + 1 => simp at x⟩) ⟨h2, fun i v a x y => (r2 i v a x y).stab hext⟩
    refine ⟨l, mark.map markDefer, w1, { target := .fn (.func n) cs, args := first ++ #[.func (.yield l) #[] #[]] }, w1, n, first ++ #[.func (.yield l) #[] #[]] ++ cs, w1, hrun, ?_, fun f' _ => hF.fn f', ?_, fun hd => by rw [hF.depth] at hd; simp at hd, ?_⟩
    · simp only [rangeCall, resolve, hu, Deferred.ofValue]
      simp [Act.eval]
    · simp [invoke, run_callFunc hc]
    refine Calls.inF hF ?_ _
    refine (hmeets _ g w1 _ hinv hall).mono ?_
    rintro e w2 ⟨v, r, mm, g2, rfl, ⟨m', rfl, hRr⟩, k1, k2, k3⟩
    obtain ⟨st, pend, hpm, hst, hj⟩ := hend r m' hRr
    have hltm := (List.getElem?_eq_some_iff.1 hpm).1
    have hat : (m' ++ (mark ++ hid).map Ent.mark)[p]? = some (.loop l st pend ps as bo S.env nt) := by rw [List.getElem?_append_left hltm]; exact hpm
    obtain ⟨fn3, tmps3, d3, hl3, _, _, hext3, hinv3⟩ := k2.setLoop hat .exhausted pend
    refine ⟨pend, _, run_endLoop hl3 hst, ?_⟩
    have hinv4 : Inv g2 (World.putO w2 l (.loop { state := .exhausted, pending := pend, fn := fn3, tmps := tmps3, params := ps, assign := as, body := bo, defers := d3 })) (m'.set p .hole ++ (mark ++ hid).map Ent.mark) := by
      have h5 := hinv3.set (o := none) (Stab.refl g2 _) p .hole (fun i e b hi hne hb => ⟨rfl, fun _ h => h, by simp [Ent.block]⟩) trivial hinv3.lt hinv3.room
      rw [List.set_set, List.set_append_left _ _ hltm] at h5
      exact h5
    have hext4 := hext.trans (k3.trans hext3)
    have hrel : Rel nt g2 (World.putO w2 l (.loop { state := .exhausted, pending := pend, fn := fn3, tmps := tmps3, params := ps, assign := as, body := bo, defers := d3 })) { a with defers := mark.map markDefer ++ a.defers } ⟨S.env, m'.set p .hole⟩ (mark ++ hid) :=
      ⟨hr.size, by simp [hr.defers], EnvOK.stab hext4 hr.env, hinv4⟩
    match pend, hj with
    | none, hj => exact ⟨g2, _, _, hrel, hext4, hj⟩
    | some .ret, hj => exact wpIn_ret ⟨g2, _, _, hrel, hext4, hj⟩
    | some (.exit id), hj => exact wpIn_exit ⟨g2, _, _, hrel, hext4, hj⟩
end
end Go.Proofs.Ytjhecgiipajdpaa
