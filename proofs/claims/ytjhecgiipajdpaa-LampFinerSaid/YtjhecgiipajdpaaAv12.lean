/- Calls that turn the memory otherwise; rounds; ranges over functions. -/
import Derived.Test.YtjhecgiipajdpaaAv11
set_option linter.unusedVariables false
set_option linter.unusedSimpArgs false
namespace Go.Proofs.Ytjhecgiipajdpaa
open Go.RowKit

/-! ### The order of the entries -/
theorem Inv.perm {g : Gh} {w : World} {l l' : List Ent} (h : Inv g w l) (hp : l.Perm l') : Inv g w l' := by
  refine ⟨fun e he => h.ok e (hp.mem_iff.2 he), ?_, h.base, h.lt, h.room⟩
  have h1 : l.Pairwise (fun e e' => ∀ b, e.block g = some b → e'.block g ≠ some b) := by
    rw [List.pairwise_iff_getElem]
    intro i j hi hj hij b h1 h2
    have := h.apart i j _ _ b (List.getElem?_eq_getElem hi) (List.getElem?_eq_getElem hj) h1 h2
    omega
  have h2 := (hp.pairwise_iff (R := fun e e' => ∀ b, Ent.block g e = some b → Ent.block g e' ≠ some b) (fun {x y} hxy b h1 h2 => hxy b h2 h1)).1 h1
  rw [List.pairwise_iff_getElem] at h2
  intro i j ei ej b hi hj bi bj
  obtain ⟨hi1, hi2⟩ := List.getElem?_eq_some_iff.1 hi
  obtain ⟨hj1, hj2⟩ := List.getElem?_eq_some_iff.1 hj
  rcases Nat.lt_trichotomy i j with h3 | h3 | h3
  · exact absurd (by rw [hj2]; exact bj) (h2 i j hi1 hj1 h3 b (by rw [hi2]; exact bi))
  · exact h3
  · exact absurd (by rw [hi2]; exact bi) (h2 j i hj1 hi1 h3 b (by rw [hj2]; exact bj))
theorem perm_mid (H m t : List Ent) : (H ++ (m ++ t)).Perm (m ++ (H ++ t)) := by
  rw [← List.append_assoc, ← List.append_assoc]
  exact List.Perm.append_right t (List.perm_append_comm)

/-- New entries laid into holes. -/
def Move (L new L' : List Ent) : Prop := ∀ g w tail, Inv g w (new ++ (L ++ tail)) → Inv g w (L' ++ tail)
theorem Move.nil (L : List Ent) : Move L [] L := fun g w tail h => h
theorem set_perm {L : List Ent} {p : Nat} {e x : Ent} (h : L[p]? = some x) : (e :: L).Perm (x :: L.set p e) := by
  induction L generalizing p with
  | nil => simp at h
  | cons a r ih =>
    cases p with
    | zero => simp at h; subst h; exact List.Perm.swap _ _ _
    | succ p =>
      simp only [List.getElem?_cons_succ] at h
      simp only [List.set_cons_succ]
      exact (List.Perm.swap _ _ _).trans (((ih h).cons a).trans (List.Perm.swap _ _ _))
theorem Inv.tail {g : Gh} {w : World} {e : Ent} {l : List Ent} (h : Inv g w (e :: l)) : Inv g w l := h.drop 1
theorem Move.cons {L new L' : List Ent} {e : Ent} (p : Nat) (hp : L[p]? = some .hole) (h : Move (L.set p e) new L') : Move L (e :: new) L' := by
  intro g w tail hi
  refine h g w tail ?_
  have hlt : p < L.length := (List.getElem?_eq_some_iff.1 hp).1
  have h1 : (e :: new ++ (L ++ tail)).Perm (Ent.hole :: (new ++ (L.set p e ++ tail))) := by
    have h2 : (e :: (L ++ tail)).Perm (.hole :: (L.set p e ++ tail)) := by
      rw [← List.set_append_left _ _ hlt]
      exact set_perm (by rw [List.getElem?_append_left hlt]; exact hp)
    have h3 : (e :: new ++ (L ++ tail)).Perm (new ++ (e :: (L ++ tail))) := (List.perm_middle (l₁ := new) (l₂ := L ++ tail) (a := e)).symm
    exact h3.trans ((List.Perm.append_left new h2).trans (List.perm_middle (l₁ := new) (l₂ := L.set p e ++ tail) (a := .hole)))
  exact (hi.perm h1).tail

/-! ### Contracts -/
def MeetsT (P : Program) (n : FuncId) (args : List AV) (m : List Ent) (R : AV → List Ent → Prop) : Prop :=
  ∀ tail, Meets P n args (m ++ tail) fun r mm => ∃ m', mm = m' ++ tail ∧ R r m'
def MeetsNew (P : Program) (n : FuncId) (args : List AV) (R : AV → List Ent → Prop) : Prop :=
  ∀ mem, Meets P n args mem fun r mm => ∃ new, mm = new ++ mem ∧ R r new
def Yields (P : Program) (l : Nat) (args : List AV) (m : List Ent) (R : AV → List Ent → Prop) : Prop :=
  ∀ tail g w vs, Inv g w (m ++ tail) → RepAll g w vs args → ∃ f tmps as bo, (Instr.yield l vs).run P w = .ok (.round l f tmps as bo) w ∧
    ∀ F, Fr F → RoundIn F 0 P l f tmps as bo w fun e w' => ∃ v r m' g', e = .returned v ∧ R r m' ∧ Rep g' w' v r ∧ Inv g' w' (m' ++ tail) ∧ Ext g w g' w'

/-- A body that leaves new entries to its caller: the own ones first. -/
theorem MeetsNew.body {P : Program} {f : FuncId} {fn : Func} {c : Code} {args : List AV} {R : AV → List Ent → Prop} (nh : Nat) (hf : P.funcs[f]? = some fn) (hb : fn.body = some c) (hn : Nat.ble args.length fn.ntmps = true)
    (h : ∀ mem, AC Fence.wide P fn.ntmps c ⟨argEnv 0 args, List.replicate nh .hole ++ mem⟩ (FinQ P fn 0 fun r mm => ∃ new, mm = new ++ mem ∧ R r new)) : MeetsNew P f args R := by
  intro mem g w vs hi ha
  have := Meets.of_body (P := P) (args := args) (mem := List.replicate nh .hole ++ mem) (R := fun r mm => ∃ new, mm = new ++ mem ∧ R r new) 0 hf hb hn (h mem)
  exact this g w vs (hi.holes nh) ha

/-! ### The operations of a region, one after the other -/
def RunL (F : Fence) (P : Program) (nt : Nat) (ops : Array Oper) (l : List Oper) (S : St) (Q : Exit → St → Prop) : Prop :=
  ∀ g0 w0 g w a hid, Ext g0 w0 g w → Rel nt g w a S hid → wpListIn F 0 P ops (fun ex a' w' => ∃ g' S' hid', Rel nt g' w' a' S' hid' ∧ Ext g0 w0 g' w' ∧ Q ex S') l a w
def RegOKL (P : Program) (nt : Nat) (ops : Array Oper) (l : List Oper) (S : St) (σ : Nat → Nat) (next : St → Prop) : Prop :=
  ∃ sps ks Fin, Steps P ops l sps ∧ getsT sps S = wantsT sps ∧ getsM sps S = wantsM sps ∧ placesM sps S.mem = true ∧ needsM sps S ∧ chk nt false l sps = true ∧
    sps.map Spec.sym = symL (sps.map fun sp => sp.sym.isSome) σ 0 ∧ keepSt ks (finSt sps S) = Fin ∧ next Fin
theorem RegOKL.mk {P : Program} {nt : Nat} {ops : Array Oper} {l : List Oper} {S : St} {σ : Nat → Nat} {next : St → Prop} {sps : List Spec} (ks : List Nat) (Fin : St) (h1 : Steps P ops l sps) (h2 : getsT sps S = wantsT sps) (h3 : getsM sps S = wantsM sps)
    (h4 : placesM sps S.mem = true) (h4' : needsM sps S) (h5 : chk nt false l sps = true) (h6 : sps.map Spec.sym = symL (sps.map fun sp => sp.sym.isSome) σ 0) (h7 : keepSt ks (finSt sps S) = Fin) (h8 : next Fin) : RegOKL P nt ops l S σ next :=
  ⟨sps, ks, Fin, h1, h2, h3, h4, h4', h5, h6, h7, h8⟩

theorem way_app {P : Program} {ops : Array Oper} {F : Fence} (hF : Fr F) {nt : Nat} {g0 : Gh} {w0 : World} {hid : List Nat} {Fin : St} {Q : Exit → Act → World → Prop} {l2 : List Oper}
    (hQ : ∀ g w a S, Way nt g0 w0 g w a S hid [] → SEq S Fin → wpListIn F 0 P ops Q l2 a w) :
    ∀ (l : List Oper) (sps : List Spec), l.length = sps.length → (∀ (i : Nat) o sp, l[i]? = some o → sps[i]? = some sp → Step P ops o sp) →
      (∀ sp ∈ sps, ∀ x v, (x, v) ∈ sp.rT → x < nt) → sps.Pairwise (fun x y => ∀ s, x.sym = some s → y.sym ≠ some s) →
      ∀ g w a S, Way nt g0 w0 g w a S hid sps → valid sps S Fin → wpListIn F 0 P ops Q (l ++ l2) a w
  | [], [], _, _, _, _, g, w, a, S, h, hv => hQ g w a S h hv
  | o :: l, sp :: sps, hl, hst, hnt, hsy, g, w, a, S, h, hv => by
    rw [List.cons_append]
    unfold wpListIn
    refine h.step hF (hst 0 o sp rfl rfl) hv.1 (hnt sp List.mem_cons_self) (fun sp' s hm hs => (List.pairwise_cons.1 hsy).1 sp' hm s hs) _ Q ?_
    intro g' w' a' h'
    exact way_app hF hQ l sps (by simpa using hl) (fun i o sp h1 h2 => hst (i + 1) o sp (by simpa using h1) (by simpa using h2))
      (fun sp' hm => hnt sp' (List.mem_cons_of_mem _ hm)) (List.pairwise_cons.1 hsy).2 g' w' a' _ h' hv.2

section
variable {F : Fence} {P : Program} {nt : Nat} {ops : Array Oper} {S : St} {Q : Exit → St → Prop}
theorem RunL.region {id : Nat} (h : RunL F P nt ops ops.toList S Q) : AC F P nt (.region id ops false) S Q :=
  fun g w a hid hr => wpIn_region_list (h g w g w a hid (Stab.refl g w) hr)
theorem RunL.nil (h : Q .normal S) : RunL F P nt ops [] S Q := fun g0 w0 g w a hid he hr => ⟨g, S, hid, hr, he, h⟩
theorem RunL.weaken {l : List Oper} {S' : St} (k : Weak S S') (h : RunL F P nt ops l S' Q) : RunL F P nt ops l S Q := fun g0 w0 g w a hid he hr => h g0 w0 g w a hid he (hr.weak k)

theorem RunL.chunk (hF : Fr F) {l : List Oper} (k : Nat) (h : ∀ σ, RegOKL P nt ops (l.take k) S σ (fun S' => RunL F P nt ops (l.drop k) S' Q)) : RunL F P nt ops l S Q := by
  intro g0 w0 g w a hid he hr
  obtain ⟨N, hN⟩ := hr.inv.room
  obtain ⟨sps, ks, Fin, hst, ht, hmm, hp, hnd, hc, hsy, hk, hq⟩ := h (fun i => N + i)
  have hlen := hst.length
  simp only [chk, Bool.and_eq_true, List.all_eq_true, Bool.or_eq_true, Bool.not_eq_true'] at hc
  have hnt : ∀ sp ∈ sps, ∀ x v, (x, v) ∈ sp.rT → x < nt := fun sp hsp x v hx => by
    have := hc.1 sp hsp (x, v) hx
    simpa [Nat.blt_eq] using this
  have hsym : ∀ (i : Nat) sp s, sps[i]? = some sp → sp.sym = some s → s = N + i ∧ i < sps.length := by
    intro i sp s hi hs
    have h1 : (sps.map Spec.sym)[i]? = some (some s) := by rw [List.getElem?_map, hi, ← hs]; rfl
    rw [hsy] at h1
    have := symL_at _ _ 0 i s h1
    exact ⟨by simpa using this, (List.getElem?_eq_some_iff.1 hi).1⟩
  let g1 := g.hold N sps.length
  have hext : Ext g w g1 w := ⟨rfl, Below.refl _ _, fun b o hi => ⟨hi, rfl⟩, fun s _ hs => by
    show (if N ≤ s ∧ s < N + sps.length then Sym.held else g.sy s) = g.sy s
    rw [if_neg]
    intro hlt
    exact hs (hN s hlt.1), fun s hs => by cases hs⟩
  have hinv : Inv g1 w (S.mem ++ hid.map Ent.mark) := hr.inv.keep hext (fun e b _ _ => rfl) (fun e b o _ _ hi => hi) hr.inv.lt
    ⟨N + sps.length, fun s hs => by
      show (if N ≤ s ∧ s < N + sps.length then Sym.held else g.sy s) = Sym.free
      rw [if_neg (by omega)]
      exact hN s (by omega)⟩
  have hway : Way nt g w g1 w a S hid sps := ⟨hext, ⟨hr.size, hr.defers, EnvOK.stab hext hr.env, hinv⟩, fun sp s hsp hs => by
    obtain ⟨i, hi⟩ := List.getElem?_of_mem hsp
    obtain ⟨h1, h2⟩ := hsym i sp s hi hs
    subst h1
    refine ⟨?_, hN _ (by omega)⟩
    show (if N ≤ N + i ∧ N + i < N + sps.length then Sym.held else g.sy (N + i)) = Sym.held
    rw [if_pos (by omega)]⟩
  have hval := valid_of sps S ht hmm hp hnd
  rw [← List.take_append_drop k l]
  refine way_app hF (hid := hid) (Fin := finSt sps S) (g0 := g) (w0 := w) (nt := nt) ?_ (l.take k) sps hlen hst.at_ hnt ?_ g1 w a S hway hval
  · intro g' w' a' S' hw hs
    refine hq g0 w0 g' w' a' hid (he.trans hw.ext) (hw.rel.weak ⟨fun x => ?_, ?_, fun i e he => ?_⟩)
    · rw [← hk, hs.t x]
      exact getT_keep ks (getT (finSt sps S).env) x
    · rw [← hk, hs.m]; rfl
    · rw [← hk] at he
      rw [hs.m]
      exact .inr he
  · rw [List.pairwise_iff_getElem]
    intro i j hi hj hij s h1 h2
    have e1 := (hsym i _ s (List.getElem?_eq_getElem hi) h1).1
    have e2 := (hsym j _ s (List.getElem?_eq_getElem hj) h2).1
    omega

/-- The guard lets it run. -/
def Want (ops : Array Oper) (o : Oper) (S : St) : Prop := ∀ g w (a : Act), (∀ x u, a.tmps[x]? = some u → Rep g w u (getT S.env x)) → a.tmps.size = a.tmps.size → Region.wanted o (yielded ops a.tmps) = true
theorem Want.none {o : Oper} (h : o.guard = none) : Want ops o S := fun g w a _ _ => by simp only [Region.wanted, h]

def putT (dst : Option Nat) (r : AV) (env : List (Nat × AV)) : List (Nat × AV) := match dst with | none => env | some d => (d, r) :: env
theorem Rel.put {g g' : Gh} {w w' : World} {a : Act} {hid : List Nat} (hr : Rel nt g w a S hid) (he : Ext g w g' w') {m' : List Ent} (hi : Inv g' w' (m' ++ hid.map Ent.mark)) {dst : Option Nat} {v : Value} {r : AV} (hv : Rep g' w' v r) :
    Rel nt g' w' (a.put dst v) ⟨putT dst r S.env, m'⟩ hid := by
  refine ⟨?_, ?_, ?_, hi⟩
  · cases dst <;> simp [Act.put, hr.size]
  · cases dst <;> simp [Act.put, hr.defers]
  · intro x u hx
    cases dst with
    | none => exact (hr.env x u hx).stab he
    | some d =>
      simp only [Act.put, Array.getElem?_setIfInBounds] at hx
      show Rep g' w' u (if x = d then r else getT S.env x)
      by_cases hxd : x = d
      · subst hxd
        rw [if_pos rfl] at hx ⊢
        split at hx
        · injection hx with hx
          subst hx
          exact hv
        · cases hx
      · rw [if_neg (fun e => hxd e.symm)] at hx
        rw [if_neg hxd]
        exact (hr.env x u hx).stab he

theorem Rel.hasT {g : Gh} {w : World} {a : Act} {hid : List Nat} (hr : Rel nt g w a S hid) {l : List (Nat × AV)} (h : ∀ x v, (x, v) ∈ l → getT S.env x = v ∧ x < nt) : HasT g w a l := by
  intro x v hx
  obtain ⟨h1, h2⟩ := h x v hx
  have hlt : x < a.tmps.size := by rw [hr.size]; exact h2
  exact ⟨_, Array.getElem?_eq_getElem hlt, by rw [← h1]; exact hr.env x _ (Array.getElem?_eq_getElem hlt)⟩

/-- What an operation's temporaries are, by one check. -/
def okT (nt : Nat) (l : List (Nat × AV)) (env : List (Nat × AV)) : Prop := l.map (fun x => getT env x.1) = l.map (·.2) ∧ l.all (fun x => Nat.blt x.1 nt) = true
theorem okT.all {l env : List (Nat × AV)} (h : okT nt l env) : ∀ x v, (x, v) ∈ l → getT env x = v ∧ x < nt := fun x v hx => by
  refine ⟨List.map_inj_left.1 h.1 _ hx, ?_⟩
  have := List.all_eq_true.1 h.2 _ hx
  simpa [Nat.blt_eq] using this

theorem RunL.yield (hF : Fr F) {l2 : List Oper} {dst : Option Nat} {f : Operand} {as : List Operand} {ts : Array TypeId} {ty : TypeId} {pos : String} {aft : Array Edge} {gd : Option (Nat × Bool)} {l : Nat} {avs : List AV} {lf la : List (Nat × AV)} {R : AV → List Ent → Prop}
    (H m tl : List Ent) (hm : S.mem = H ++ (m ++ tl)) (hf : Opd f (.yieldf l) lf) (ha : Opds as avs la) (hT : okT nt (lf ++ la) S.env)
    (hw : ∀ g w a hid, Rel nt g w a S hid → Region.wanted ⟨dst, .call { callee := .value f, args := as.toArray, argTypes := ts }, ty, pos, aft, gd⟩ (yielded ops a.tmps) = true) (hy : Yields P l avs m R)
    (k : ∀ r m', R r m' → RunL F P nt ops l2 ⟨putT dst r S.env, H ++ (m' ++ tl)⟩ Q) : RunL F P nt ops (⟨dst, .call { callee := .value f, args := as.toArray, argTypes := ts }, ty, pos, aft, gd⟩ :: l2) S Q := by
  intro g0 w0 g w a hid he hr
  unfold wpListIn
  rw [hw g w a hid hr]
  have hTT := hr.hasT hT.all
  have h := hf g w a hTT.left
  have hargs := ha.rep hTT.right
  refine ⟨fun f _ => hF.fn f, ?_⟩
  rw [Oper.semAt_eq _ _ _ (by simp)]
  generalize hu : a.eval f = u at h
  cases h with
  | yieldf =>
    have hi0 : Inv g w (m ++ (H ++ (tl ++ hid.map Ent.mark))) := by
      have := hr.inv
      rw [hm] at this
      refine this.perm ?_
      simp only [List.append_assoc]
      exact perm_mid H m _
    obtain ⟨f', tmps, as', bo, hrun, hround⟩ := hy _ g w _ hi0 hargs
    have hexec : (execOp a.eval ⟨dst, .call { callee := .value f, args := as.toArray, argTypes := ts }, ty, pos, aft, gd⟩).run P w = .ok (.round l f' tmps as' bo) w := by
      simp only [execOp, resolve, hu, Deferred.ofValue, invoke, Sem.run_bind, Sem.run_pure, Result.andThen_ok]
      simpa using hrun
    rw [hexec, Oper.uponIn_round]
    refine ⟨fun hd => by rw [hF.depth] at hd; simp at hd, (hround F hF).mono ?_⟩
    rintro e w' ⟨v, r, m', g', rfl, hR, hv, hinv, hext⟩
    refine k r m' hR g0 w0 g' w' _ hid (he.trans hext) (hr.put hext ?_ hv)
    refine hinv.perm ?_
    rw [List.append_assoc, List.append_assoc]
    exact (perm_mid H m' _).symm

theorem RunL.callNew (hF : Fr F) {l2 : List Oper} {dst : Option Nat} {n : FuncId} {f : Operand} {as : List Operand} {ts : Array TypeId} {ty : TypeId} {pos : String} {aft : Array Edge} {fa ca avs : List AV} {lf la : List (Nat × AV)} {R : AV → List Ent → Prop}
    (hf : Opd f (.func n fa ca) lf) (ha : Opds as avs la) (hc : Callable P n) (hT : okT nt (lf ++ la) S.env) (hm : MeetsNew P n (fa ++ avs ++ ca) R)
    (k : ∀ r new, R r new → ∃ L', Move S.mem new L' ∧ RunL F P nt ops l2 ⟨putT dst r S.env, L'⟩ Q) : RunL F P nt ops (⟨dst, .call { callee := .value f, args := as.toArray, argTypes := ts }, ty, pos, aft, none⟩ :: l2) S Q := by
  intro g0 w0 g w a hid he hr
  unfold wpListIn
  simp only [Region.wanted, if_true]
  have hTT := hr.hasT hT.all
  have h := hf g w a hTT.left
  have hargs := ha.rep hTT.right
  refine ⟨fun f _ => hF.fn f, ?_⟩
  rw [Oper.semAt_eq _ _ _ (by simp)]
  generalize hu : a.eval f = u at h
  cases h with
  | func h1 h2 r1 r2 =>
    rename_i first caps
    have hall : RepAll g w (first ++ (as.map a.eval).toArray ++ caps) (fa ++ avs ++ ca) := RepAll.append (RepAll.append ⟨h1, r1⟩ hargs) ⟨h2, r2⟩
    have hrun : (execOp a.eval ⟨dst, .call { callee := .value f, args := as.toArray, argTypes := ts }, ty, pos, aft, none⟩).run P w = .ok (.enter n (first ++ (as.map a.eval).toArray ++ caps)) w := by
      simp [execOp, resolve, hu, Deferred.ofValue, invoke, run_callFunc hc]
    rw [hrun, Oper.uponIn_enter]
    refine ⟨fun hd => by rw [hF.depth] at hd; simp at hd, Calls.inF hF ?_ _⟩
    refine (hm _ g w _ hr.inv hall).mono ?_
    rintro e w' ⟨v, r', mem', g', rfl, ⟨new, rfl, hR⟩, h3, h4, h5⟩
    obtain ⟨L', hmv, hk⟩ := k r' new hR
    exact hk g0 w0 g' w' _ hid (he.trans h5) (hr.put h5 (hmv g' w' _ h4) h3)
end
end Go.Proofs.Ytjhecgiipajdpaa
