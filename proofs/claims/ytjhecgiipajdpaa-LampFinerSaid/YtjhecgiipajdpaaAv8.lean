/- Calls, results, appends. -/
import Derived.Test.YtjhecgiipajdpaaAv7
set_option linter.unusedVariables false
set_option linter.unusedSimpArgs false
namespace Go.Proofs.Ytjhecgiipajdpaa
open Go.RowKit

/-! ### Calls -/
def Callable (P : Program) (n : FuncId) : Prop := ∃ fn, P.funcs[n]? = some fn ∧ (fn.name == "runtime.NumGoroutine") = false ∧ fn.body.isNone = false
theorem run_callFunc {P : Program} {n : FuncId} (h : Callable P n) (args : Array Value) (w : World) : (callFunc n args).run P w = .ok (.enter n args) w := by
  obtain ⟨fn, h1, h2, h3⟩ := h
  simp only [callFunc, Sem.run_bind, run_program, Result.andThen_ok, h1]
  rw [if_neg (by rw [h2]; simp), if_neg (by rw [h3]; simp)]
  rfl
theorem Calls.inF {P : Program} {F : Fence} (hF : Fr F) {f : FuncId} {args : Array Value} {w : World} {R : Ending → World → Prop} (h : Calls P f args w R) (n : Nat) : CallsIn F n P f args w R := by
  obtain ⟨_, h'⟩ := (callsIn_wide (n := n)).2 h
  refine ⟨hF.fn f, fun cs hr => ?_⟩
  obtain ⟨e, w', fr, h1, h2, h3⟩ := h' cs (room_wide _)
  exact ⟨e, w', fr, h1, by rw [hF.wide]; exact h2, h3⟩

/-- It returns just this, and turns at most one thing of the caller's memory, where it has the needed entries. -/
def EffAt (P : Program) (n : FuncId) (args : List AV) (rM : List (Nat × Ent)) (nd : Option (List Ent → Prop)) (r : AV) (wM : Option (Nat × Ent)) : Prop :=
  ∀ mem : List Ent, (∀ p e, (p, e) ∈ rM → mem[p]? = some e) → (∀ X, nd = some X → X mem) → (∀ p e, wM = some (p, e) → p < mem.length) → Meets P n args mem fun r' mem' => r' = r ∧ mem' = setM mem wM
theorem Pure.eff {P : Program} {n : FuncId} {args : List AV} {r : AV} (h : Pure P n args r) : EffAt P n args [] none r none := fun mem _ _ _ => h mem

theorem RepAll.append {g : Gh} {w : World} {v1 v2 : Array Value} {a1 a2 : List AV} (h1 : RepAll g w v1 a1) (h2 : RepAll g w v2 a2) : RepAll g w (v1 ++ v2) (a1 ++ a2) := by
  refine ⟨by simp [h1.1, h2.1], fun i v a hv ha => ?_⟩
  by_cases hi : i < v1.size
  · rw [Array.getElem?_append_left hi] at hv
    rw [List.getElem?_append_left (by rw [← h1.1]; exact hi)] at ha
    exact h1.2 i v a hv ha
  · rw [Array.getElem?_append_right (by omega)] at hv
    rw [List.getElem?_append_right (by rw [← h1.1]; omega), ← h1.1] at ha
    exact h2.2 _ v a hv ha

section
variable {P : Program} {ops : Array Oper} {ty : TypeId} {pos : String} {aft : Array Edge} {d : Nat}

theorem call_go {dst : Option Nat} {n : FuncId} {f : Operand} {as : List Operand} {ts : Array TypeId} {fa ca avs : List AV} {lf la : List (Nat × AV)} {rM : List (Nat × Ent)} {nd : Option (List Ent → Prop)} {r : AV} {wM : Option (Nat × Ent)}
    (hf : Opd f (.func n fa ca) lf) (ha : Opds as avs la) (hc : Callable P n) (hm : EffAt P n (fa ++ avs ++ ca) rM nd r wM)
    {F : Fence} (hF : Fr F) {g : Gh} {w : World} {a : Act} {mem : List Ent} (hi : Inv g w mem) (hT : HasT g w a (lf ++ la)) (hM : ∀ p e, (p, e) ∈ rM → mem[p]? = some e) (hp : ∀ p e, wM = some (p, e) → p < mem.length) (hN : ∀ X, nd = some X → X mem)
    (K : Act → World → Prop) (Q : Exit → Act → World → Prop) (hK : ∀ g' w' u, Ext g w g' w' → Inv g' w' (setM mem wM) → Rep g' w' u r → K (a.put dst u) w') :
    Oper.wpIn F 0 P ⟨dst, .call { callee := .value f, args := as.toArray, argTypes := ts }, ty, pos, aft, none⟩ a w K Q := by
  refine ⟨fun f _ => hF.fn f, ?_⟩
  rw [Oper.semAt_eq _ _ _ (by simp)]
  have h := hf g w a hT.left
  have hargs := ha.rep hT.right
  generalize hu : a.eval f = u at h
  cases h with
  | func h1 h2 r1 r2 =>
    rename_i first caps
    have hall : RepAll g w (first ++ (as.map a.eval).toArray ++ caps) (fa ++ avs ++ ca) := RepAll.append (RepAll.append ⟨h1, r1⟩ hargs) ⟨h2, r2⟩
    have hrun : (execOp a.eval ⟨dst, .call { callee := .value f, args := as.toArray, argTypes := ts }, ty, pos, aft, none⟩).run P w = .ok (.enter n (first ++ (as.map a.eval).toArray ++ caps)) w := by
      simp [execOp, resolve, hu, Deferred.ofValue, invoke, run_callFunc hc]
    rw [hrun, Oper.uponIn_enter]
    refine ⟨fun hd => by rw [hF.depth] at hd; simp at hd, Calls.inF hF ?_ _⟩
    refine (hm mem hM hN hp g w _ hi hall).mono ?_
    rintro e w' ⟨v, r', mem', g', rfl, ⟨rfl, rfl⟩, h3, h4, h5⟩
    exact hK g' w' v h5 h4 h3

theorem s_callE {n : FuncId} {f : Operand} {as : List Operand} {ts : Array TypeId} {fa ca avs : List AV} {lf la : List (Nat × AV)} {rM : List (Nat × Ent)} {nd : Option (List Ent → Prop)} {r : AV} {wM : Option (Nat × Ent)}
    (hf : Opd f (.func n fa ca) lf) (ha : Opds as avs la) (hc : Callable P n) (hm : EffAt P n (fa ++ avs ++ ca) rM nd r wM) :
    Step P ops ⟨some d, .call { callee := .value f, args := as.toArray, argTypes := ts }, ty, pos, aft, none⟩ { rT := lf ++ la, rM := rM, wT := some (d, r), wM := wM, need := nd } := by
  refine ⟨rfl, fun F hF g w a mem hi hT hM hs hp hN K Q hK => ?_⟩
  simp only [Region.wanted, if_true]
  exact call_go hf ha hc hm hF hi hT hM hp hN K Q fun g' w' u h1 h2 h3 => hK g' w' u h1 h2 fun d' v' e => by injection e with e; injection e with _ e; subst e; exact h3
theorem s_callN {n : FuncId} {f : Operand} {as : List Operand} {ts : Array TypeId} {fa ca avs : List AV} {lf la : List (Nat × AV)} {rM : List (Nat × Ent)} {nd : Option (List Ent → Prop)} {r : AV} {wM : Option (Nat × Ent)}
    (hf : Opd f (.func n fa ca) lf) (ha : Opds as avs la) (hc : Callable P n) (hm : EffAt P n (fa ++ avs ++ ca) rM nd r wM) :
    Step P ops ⟨none, .call { callee := .value f, args := as.toArray, argTypes := ts }, ty, pos, aft, none⟩ { rT := lf ++ la, rM := rM, wM := wM, need := nd } := by
  refine ⟨rfl, fun F hF g w a mem hi hT hM hs hp hN K Q hK => ?_⟩
  simp only [Region.wanted, if_true]
  exact call_go hf ha hc hm hF hi hT hM hp hN K Q fun g' w' u h1 h2 h3 => hK g' w' u h1 h2 fun d' v' e => by cases e
/-- It returns just this, where the memory has the needed entries somewhere. -/
def EffR (P : Program) (n : FuncId) (args : List AV) (es : List Ent) (r : AV) : Prop := ∀ mem : List Ent, (∀ e ∈ es, e ∈ mem) → Meets P n args mem fun r' mem' => r' = r ∧ mem' = mem
def Has (es mem : List Ent) : Prop := ∀ e ∈ es, e ∈ mem
theorem Has.nil (mem : List Ent) : Has [] mem := fun e he => by cases he
theorem Has.at_ {es mem : List Ent} {e : Ent} (p : Nat) (h : mem[p]? = some e) (r : Has es mem) : Has (e :: es) mem := fun x hx => by
  rcases List.mem_cons.1 hx with rfl | hx
  · exact List.mem_of_getElem? h
  · exact r x hx
theorem Has.cons {es mem : List Ent} {e : Ent} (h : e ∈ mem) (r : Has es mem) : Has (e :: es) mem := fun x hx => by
  rcases List.mem_cons.1 hx with rfl | hx
  · exact h
  · exact r x hx
theorem Has.right {es mem pre : List Ent} (h : Has es mem) : Has es (pre ++ mem) := fun e he => List.mem_append_right _ (h e he)
theorem Has.left {es mem post : List Ent} (h : Has es mem) : Has es (mem ++ post) := fun e he => List.mem_append_left _ (h e he)
theorem Has.app {es es' mem : List Ent} (h : Has es mem) (k : Has es' mem) : Has (es ++ es') mem := fun e he => by
  rcases List.mem_append.1 he with he | he
  · exact h e he
  · exact k e he
theorem Pure.effR {P : Program} {n : FuncId} {args : List AV} {r : AV} (h : Pure P n args r) {es : List Ent} : EffR P n args es r := fun mem _ => h mem
theorem EffR.pure {P : Program} {n : FuncId} {args : List AV} {r : AV} (h : EffR P n args [] r) : Pure P n args r := fun mem => h mem (Has.nil mem)
theorem EffR.more {P : Program} {n : FuncId} {args : List AV} {r : AV} {es es' : List Ent} (h : EffR P n args es r) (k : ∀ e ∈ es, e ∈ es') : EffR P n args es' r := fun mem hm => h mem fun e he => hm e (k e he)
theorem s_callR {n : FuncId} {f : Operand} {as : List Operand} {ts : Array TypeId} {fa ca avs : List AV} {lf la : List (Nat × AV)} {es : List Ent} {r : AV}
    (hf : Opd f (.func n fa ca) lf) (ha : Opds as avs la) (hc : Callable P n) (hm : EffR P n (fa ++ avs ++ ca) es r) :
    Step P ops ⟨some d, .call { callee := .value f, args := as.toArray, argTypes := ts }, ty, pos, aft, none⟩ { rT := lf ++ la, wT := some (d, r), need := some (Has es) } :=
  s_callE (rM := []) (wM := none) hf ha hc fun mem _ hN _ => hm mem (hN _ rfl)
/-- A call of a function that leaves the caller's memory alone. -/
theorem s_call {n : FuncId} {f : Operand} {as : List Operand} {ts : Array TypeId} {avs : List AV} {lf la : List (Nat × AV)} {r : AV}
    (hf : Opd f (.func n [] []) lf) (ha : Opds as avs la) (hc : Callable P n) (hm : Pure P n avs r) :
    Step P ops ⟨some d, .call { callee := .value f, args := as.toArray, argTypes := ts }, ty, pos, aft, none⟩ { rT := lf ++ la, wT := some (d, r) } :=
  s_callE hf ha hc (by rw [List.nil_append, List.append_nil]; exact hm.eff)
end

/-! ### Results -/
section
variable {P : Program} {fn : Func} {nt : Nat} {S : St}
def rvSem (tmps : Array Value) : ResultVar → Sem Value
  | .tmp t => Sem.pure (tmps.getD t undef)
  | .cell x t => do loadVar t (← asAddr (tmps.getD x undef))
theorem results_rv (fn : Func) (tmps : Array Value) : results fn tmps = (do let vs ← fn.results.mapM (rvSem tmps); Sem.pure (if h : vs.size = 1 then vs[0] else .tuple vs)) := by
  unfold results
  congr 1
def ResOK (P : Program) (nt : Nat) (S : St) (rv : ResultVar) (v : AV) : Prop := ∀ g w a hid, Rel nt g w a S hid → ∃ u, (rvSem a.tmps rv).run P w = .ok u w ∧ Rep g w u v
theorem res_tmp {t : Nat} {v : AV} (h : getT S.env t = v) (ht : Nat.blt t nt = true) : ResOK P nt S (.tmp t) v := by
  intro g w a hid hr
  have := hr.eval (c := t) (by simpa [Nat.blt_eq] using ht)
  rw [h] at this
  exact ⟨_, rfl, this⟩
theorem res_cell {x t s n : Nat} {cs l : List AV} (p : Nat) (h : getT S.env x = .ptr s 0) (hx : Nat.blt x nt = true) (hm : S.mem[p]? = some (.box s cs)) (ht : TyA P t n) (hc : cs.take n = l) (hn : l.length = n) : ResOK P nt S (.cell x t) (.agg l) := by
  intro g w a hid hr
  have hp := hr.eval (c := x) (by simpa [Nat.blt_eq] using hx)
  rw [h] at hp
  simp only [Act.eval] at hp
  generalize hu : a.tmps.getD x undef = u at hp
  cases hp with
  | ptr hs =>
    have hm' : (S.mem ++ hid.map Ent.mark)[p]? = some (.box s cs) := by rw [List.getElem?_append_left (List.getElem?_eq_some_iff.1 hm).1]; exact hm
    obtain ⟨arr, tt, hb, _, hrc, _, hcell⟩ := box_cell hr.inv hm' hs
    have hlen : n ≤ cs.length := by rw [← hc] at hn; simp only [List.length_take] at hn; omega
    have hrun : (loadCells ⟨_, 0, none⟩ n).run P w = .ok ((List.range n).map fun j => arr.getD (0 + j) undef).toArray w :=
      run_cells (P := P) (fun j => arr.getD (0 + j) undef) n fun j hj => by
        have hlt : 0 + j < arr.size := by rw [hrc.1]; omega
        rw [hcell (0 + j) _ (Array.getElem?_eq_getElem hlt), Array.getD_eq_getD_getElem?, Array.getElem?_eq_getElem hlt]
        rfl
    refine ⟨_, by simp only [rvSem, hu]; simp [asAddr, loadVar, run_aggr ht, run_size ht.choose_spec.2.2, hrun]; rfl, .agg (by simp [hn]) fun i v x hv hx => ?_⟩
    rw [← hc, List.getElem?_take] at hx
    simp only [List.getElem?_toArray, List.getElem?_map] at hv
    split at hx
    · rename_i hin
      rw [List.getElem?_range hin] at hv
      have hlt : i < arr.size := by rw [hrc.1]; omega
      simp only [Option.map_some, Nat.zero_add, Array.getD_eq_getD_getElem?, Array.getElem?_eq_getElem hlt, Option.getD_some, Option.some.injEq] at hv
      exact hrc.2 i v x (by rw [← hv]; exact Array.getElem?_eq_getElem hlt) hx
    · cases hx
theorem result0 (h : fn.results = #[]) : Result P fn nt S (.tuple []) := fun g w a hid hr => ⟨.tuple #[], results_none h _ _ _, .tuple rfl fun i v a h => by simp at h⟩
theorem result1 {r1 : ResultVar} {v1 : AV} (h : fn.results = #[r1]) (h1 : ResOK P nt S r1 v1) : Result P fn nt S v1 := fun g w a hid hr => by
  obtain ⟨u1, e1, k1⟩ := h1 g w a hid hr
  refine ⟨u1, ?_, k1⟩
  rw [results_rv, h]
  simp [e1]
theorem result2 {r1 r2 : ResultVar} {v1 v2 : AV} (h : fn.results = #[r1, r2]) (h1 : ResOK P nt S r1 v1) (h2 : ResOK P nt S r2 v2) : Result P fn nt S (.tuple [v1, v2]) := fun g w a hid hr => by
  obtain ⟨u1, e1, k1⟩ := h1 g w a hid hr
  obtain ⟨u2, e2, k2⟩ := h2 g w a hid hr
  refine ⟨.tuple #[u1, u2], ?_, .tuple rfl fun i v x hv hx => ?_⟩
  · rw [results_rv, h]
    simp [e1, e2]
  · match i with
    | 0 => simp at hv hx; subst hv; subst hx; exact k1
    | 1 => simp at hv hx; subst hv; subst hx; exact k2
    | i + 2 => simp at hv
theorem result3 {r1 r2 r3 : ResultVar} {v1 v2 v3 : AV} (h : fn.results = #[r1, r2, r3]) (h1 : ResOK P nt S r1 v1) (h2 : ResOK P nt S r2 v2) (h3 : ResOK P nt S r3 v3) : Result P fn nt S (.tuple [v1, v2, v3]) := fun g w a hid hr => by
  obtain ⟨u1, e1, k1⟩ := h1 g w a hid hr
  obtain ⟨u2, e2, k2⟩ := h2 g w a hid hr
  obtain ⟨u3, e3, k3⟩ := h3 g w a hid hr
  refine ⟨.tuple #[u1, u2, u3], ?_, .tuple rfl fun i v x hv hx => ?_⟩
  · rw [results_rv, h]
    simp [e1, e2, e3]
  · match i with
    | 0 => simp at hv hx; subst hv; subst hx; exact k1
    | 1 => simp at hv hx; subst hv; subst hx; exact k2
    | 2 => simp at hv hx; subst hv; subst hx; exact k3
    | i + 3 => simp at hv
/-- The result's slice is nobody's any more. -/
theorem Result.free {es : List AV} {own : Option Nat} (h : Result P fn nt S (.slice es own)) : Result P fn nt S (.slice es none) := fun g w a hid hr => by
  obtain ⟨u, h1, h2⟩ := h g w a hid hr
  refine ⟨u, h1, ?_⟩
  cases h2 with
  | slice b o vals hl hA hsz hc hr hle how => exact .slice b o vals hl hA hsz hc hr hle (fun s hs => by cases hs)
theorem Result.freeN (h : Result P fn nt S .nils) : Result P fn nt S (.slice [] none) := fun g w a hid hr => by
  obtain ⟨u, h1, h2⟩ := h g w a hid hr
  refine ⟨u, h1, ?_⟩
  cases h2
  exact .slice 0 0 (fun _ _ => undef) rfl (fun h => absurd rfl h) (sz := 0) (fun e he => by cases he) (fun i e j c h => by simp at h) (fun i e j c h => by simp at h) (Nat.le_refl _) (fun s hs => by cases hs)
end

/-! ### The rules as a program's text uses them -/
def FinQ (P : Program) (fn : Func) (nh : Nat) (R : AV → List Ent → Prop) (ex : Exit) (S : St) : Prop := (ex = .ret ∨ ex = .normal) ∧ ∃ r, Result P fn fn.ntmps S r ∧ R r (S.mem.drop nh)
theorem FinQ.ret {P : Program} {fn : Func} {S : St} {r : AV} {R : AV → List Ent → Prop} {nh : Nat} (h : Result P fn fn.ntmps S r) (hR : R r (S.mem.drop nh)) : FinQ P fn nh R .ret S := ⟨.inl rfl, r, h, hR⟩
theorem FinQ.normal {P : Program} {fn : Func} {S : St} {r : AV} {R : AV → List Ent → Prop} {nh : Nat} (h : Result P fn fn.ntmps S r) (hR : R r (S.mem.drop nh)) : FinQ P fn nh R .normal S := ⟨.inr rfl, r, h, hR⟩
theorem Meets.body {P : Program} {f : FuncId} {fn : Func} {c : Code} {args : List AV} {mem : List Ent} {R : AV → List Ent → Prop} (nh : Nat) (hf : P.funcs[f]? = some fn) (hb : fn.body = some c)
    (hn : Nat.ble args.length fn.ntmps = true) (h : AC Fence.wide P fn.ntmps c ⟨argEnv 0 args, List.replicate nh .hole ++ mem⟩ (FinQ P fn nh R)) : Meets P f args mem R := Meets.of_body nh hf hb hn h

theorem RegOK.mk {P : Program} {nt : Nat} {ops : Array Oper} {draw : Bool} {S : St} {σ : Nat → Nat} {next : St → Prop} {sps : List Spec} (ks : List Nat) (Fin : St) (h1 : Steps P ops ops.toList sps) (h2 : getsT sps S = wantsT sps) (h3 : getsM sps S = wantsM sps)
    (h4 : placesM sps S.mem = true) (h4' : noNeeds sps = true) (h5 : chk nt draw ops.toList sps = true) (h6 : sps.map Spec.sym = symL (sps.map fun sp => sp.sym.isSome) σ 0) (h7 : keepSt ks (finSt sps S) = Fin) (h8 : next Fin) : RegOK P nt ops draw S σ next :=
  ⟨sps, ks, Fin, h1, h2, h3, h4, noNeeds_of _ _ h4', h5, h6, h7, h8⟩
theorem RegOK.mk1 {P : Program} {nt : Nat} {ops : Array Oper} {draw : Bool} {S : St} {σ : Nat → Nat} {next : St → Prop} {sps : List Spec} (ks : List Nat) (Fin : St) (h1 : Steps P ops ops.toList sps)
    (h : (getsT sps S, getsM sps S, placesM sps S.mem && (noNeeds sps && chk nt draw ops.toList sps), sps.map Spec.sym, keepSt ks (finSt sps S)) = (wantsT sps, wantsM sps, true, symL (sps.map fun sp => sp.sym.isSome) σ 0, Fin)) (h8 : next Fin) : RegOK P nt ops draw S σ next := by
  simp only [Prod.mk.injEq, Bool.and_eq_true] at h
  exact ⟨sps, ks, Fin, h1, h.1, h.2.1, h.2.2.1.1, noNeeds_of _ _ h.2.2.1.2.1, h.2.2.1.2.2, h.2.2.2.1, h.2.2.2.2, h8⟩
theorem RegOK.mkN {P : Program} {nt : Nat} {ops : Array Oper} {draw : Bool} {S : St} {σ : Nat → Nat} {next : St → Prop} {sps : List Spec} (ks : List Nat) (Fin : St) (h1 : Steps P ops ops.toList sps) (h2 : getsT sps S = wantsT sps) (h3 : getsM sps S = wantsM sps)
    (h4 : placesM sps S.mem = true) (h4' : needsM sps S) (h5 : chk nt draw ops.toList sps = true) (h6 : sps.map Spec.sym = symL (sps.map fun sp => sp.sym.isSome) σ 0) (h7 : keepSt ks (finSt sps S) = Fin) (h8 : next Fin) : RegOK P nt ops draw S σ next :=
  ⟨sps, ks, Fin, h1, h2, h3, h4, h4', h5, h6, h7, h8⟩
section
variable {F : Fence} {P : Program} {nt : Nat} {S : St} {Q : Exit → St → Prop}
theorem AC.rseq (hF : Fr F) (hm : P.follows .mixedOrders = true) {id : Nat} {ops : Array Oper} {draw : Bool} {y : Code} (h : ∀ σ, RegOK P nt ops draw S σ (fun S' => AC F P nt y S' Q)) : AC F P nt (.seq (.region id ops draw) y) S Q := .seq (.region hF hm h)
theorem AC.rend (hF : Fr F) (hm : P.follows .mixedOrders = true) {id : Nat} {ops : Array Oper} {draw : Bool} (h : ∀ σ, RegOK P nt ops draw S σ (fun S' => Q .normal S')) : AC F P nt (.region id ops draw) S Q := .region hF hm h
theorem AC.cseq {c : Nat} {x y z : Code} (b : Bool) (hb : getT S.env c = .bool b) (hc : Nat.blt c nt = true) (ht : b = true → AC F P nt x S (thenQ (fun S' => AC F P nt z S' Q) Q)) (hf : b = false → AC F P nt y S (thenQ (fun S' => AC F P nt z S' Q) Q)) :
    AC F P nt (.seq (.cond (.tmp c) x y) z) S Q := .seq (.cond hb ht hf hc)
theorem AC.cend {c : Nat} {x y : Code} (b : Bool) (hb : getT S.env c = .bool b) (hc : Nat.blt c nt = true) (ht : b = true → AC F P nt x S Q) (hf : b = false → AC F P nt y S Q) : AC F P nt (.cond (.tmp c) x y) S Q := .cond hb ht hf hc
theorem AC.bseq {id : Nat} {c y : Code} (h : AC F P nt c S (blockQ id (thenQ (fun S' => AC F P nt y S' Q) Q))) : AC F P nt (.seq (.block id c) y) S Q := .seq (.block h)
theorem AC.sseq {y : Code} (h : AC F P nt y S Q) : AC F P nt (.seq .skip y) S Q := .seq (.skip h)
theorem thenQ_n {next : St → Prop} (h : next S) : thenQ next Q .normal S := h
theorem thenQ_r {next : St → Prop} (h : Q .ret S) : thenQ next Q .ret S := h
theorem thenQ_x {next : St → Prop} {id : Nat} (h : Q (.exit id) S) : thenQ next Q (.exit id) S := h
theorem blockQ_n {id : Nat} (h : Q .normal S) : blockQ id Q .normal S := h
theorem blockQ_r {id : Nat} (h : Q .ret S) : blockQ id Q .ret S := h
theorem blockQ_x {id : Nat} (h : Q .normal S) : blockQ id Q (.exit id) S := by simp only [blockQ, if_true]; exact h
theorem blockQ_p {id id' : Nat} (hne : id' ≠ id) (h : Q (.exit id') S) : blockQ id Q (.exit id') S := by simp only [blockQ, if_neg hne]; exact h
end

end Go.Proofs.Ytjhecgiipajdpaa
