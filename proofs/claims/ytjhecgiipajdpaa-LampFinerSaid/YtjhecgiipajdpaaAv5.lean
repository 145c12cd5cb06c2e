/- The operations that compute: what each does to an abstract state. -/
import Derived.Test.YtjhecgiipajdpaaAv4
set_option linter.unusedVariables false
set_option linter.unusedSimpArgs false
namespace Go.Proofs.Ytjhecgiipajdpaa
open Go.RowKit

/-! ### Operands -/
def HasT (g : Gh) (w : World) (a : Act) (l : List (Nat × AV)) : Prop := ∀ x v, (x, v) ∈ l → ∃ u, a.tmps[x]? = some u ∧ Rep g w u v
theorem HasT.left {g : Gh} {w : World} {a : Act} {l r : List (Nat × AV)} (h : HasT g w a (l ++ r)) : HasT g w a l := fun x v hx => h x v (List.mem_append_left _ hx)
theorem HasT.right {g : Gh} {w : World} {a : Act} {l r : List (Nat × AV)} (h : HasT g w a (l ++ r)) : HasT g w a r := fun x v hx => h x v (List.mem_append_right _ hx)
def Opd (o : Operand) (v : AV) (l : List (Nat × AV)) : Prop := ∀ g w (a : Act), HasT g w a l → Rep g w (a.eval o) v
theorem Opd.tmp (x : Nat) (v : AV) : Opd (.tmp x) v [(x, v)] := by
  intro g w a h
  obtain ⟨u, h1, h2⟩ := h x v (by simp)
  have : a.eval (.tmp x) = u := by simp [Act.eval, Array.getD_eq_getD_getElem?, h1]
  rw [this]; exact h2
/-- Under a guard. -/
theorem Opd.tmpC {b : Bool} (hb : b = true) (x : Nat) (v : AV) : Opd (.tmp x) v [(x, .cond b v)] := by
  intro g w a h
  have := Opd.tmp x (.cond b v) g w a h
  generalize a.eval (.tmp x) = u at this
  cases this with
  | condT _ h => exact h
  | condF h => rw [hb] at h; cases h
theorem Opd.int (k : IntKind) (n : Int) : Opd (.const (.int k n)) (.int k n) [] := fun _ _ _ _ => .int k n
theorem Opd.bool (b : Bool) : Opd (.const (.bool b)) (.bool b) [] := fun _ _ _ _ => .bool b
theorem Opd.str (s : ByteArray) : Opd (.const (.string s)) (.str s) [] := fun _ _ _ _ => .str s
theorem Opd.nils : Opd (.const (.slice none 0 0)) .nils [] := fun _ _ _ _ => .nils
theorem Opd.func (f : FuncId) : Opd (.func f) (.func f [] []) [] := fun _ _ _ _ => .func rfl rfl (fun i v a h => by simp at h) (fun i v a h => by simp at h)

/-! ### From a run to a step -/
theorem Step.value {P : Program} {ops : Array Oper} {o : Oper} {sp : Spec} (hd : o.dst = sp.wT.map (·.1)) (hg : o.guard = none) (hnd : ∀ c, o.op ≠ .defer c)
    (h : ∀ (g : Gh) (w : World) (a : Act) (mem : List Ent), Inv g w mem → HasT g w a sp.rT → (∀ p e, (p, e) ∈ sp.rM → mem[p]? = some e) → (∀ s, sp.sym = some s → g.sy s = .held) → (∀ p e, sp.wM = some (p, e) → p < mem.length) →
      ∃ u w' g', (execOp a.eval o).run P w = .ok (.value u) w' ∧ Stab sp.sym g w g' w' ∧ Inv g' w' (setM mem sp.wM) ∧ (∀ d v, sp.wT = some (d, v) → Rep g' w' u v)) : Step P ops o sp := by
  refine ⟨hd, fun F hF g w a mem hi hT hM hs hp hN K Q hK => ?_⟩
  simp only [Region.wanted, hg, if_true]
  obtain ⟨u, w', g', hrun, h1, h2, h3⟩ := h g w a mem hi hT hM hs hp
  refine ⟨fun f _ => hF.fn f, ?_⟩
  rw [Oper.semAt_eq _ _ _ hnd, hrun]
  exact hK g' w' u h1 h2 h3

theorem Step.skip {P : Program} {ops : Array Oper} {o : Oper} {sp : Spec} (hd : o.dst = none) (hw : sp.wT = none) (hg : o.guard = none) (hnd : ∀ c, o.op ≠ .defer c)
    (h : ∀ (g : Gh) (w : World) (a : Act) (mem : List Ent), Inv g w mem → HasT g w a sp.rT → (∀ p e, (p, e) ∈ sp.rM → mem[p]? = some e) → (∀ s, sp.sym = some s → g.sy s = .held) → (∀ p e, sp.wM = some (p, e) → p < mem.length) →
      ∃ w' g', (execOp a.eval o).run P w = .ok .skip w' ∧ Stab sp.sym g w g' w' ∧ Inv g' w' (setM mem sp.wM)) : Step P ops o sp := by
  refine ⟨by rw [hd, hw]; rfl, fun F hF g w a mem hi hT hM hs hp hN K Q hK => ?_⟩
  simp only [Region.wanted, hg, if_true]
  obtain ⟨w', g', hrun, h1, h2⟩ := h g w a mem hi hT hM hs hp
  refine ⟨fun f _ => hF.fn f, ?_⟩
  rw [Oper.semAt_eq _ _ _ hnd, hrun]
  exact hK g' w' undef h1 h2 (fun d v e => by rw [hw] at e; cases e)

/-- An operation that only computes. -/
theorem Step.calc {P : Program} {ops : Array Oper} {op : Op} {ty : TypeId} {pos : String} {aft : Array Edge} {d : Nat} {v : AV} {rT : List (Nat × AV)} {rM : List (Nat × Ent)} (hnd : ∀ c, op ≠ .defer c)
    (h : ∀ (g : Gh) (w : World) (a : Act) (mem : List Ent), Inv g w mem → HasT g w a rT → (∀ p e, (p, e) ∈ rM → mem[p]? = some e) →
      ∃ u, (execOp a.eval ⟨some d, op, ty, pos, aft, none⟩).run P w = .ok (.value u) w ∧ Rep g w u v) :
    Step P ops ⟨some d, op, ty, pos, aft, none⟩ { rT := rT, rM := rM, wT := some (d, v) } :=
  Step.value rfl rfl hnd fun g w a mem hi hT hM hs hp => by
    obtain ⟨u, h1, h2⟩ := h g w a mem hi hT hM
    exact ⟨u, w, g, h1, Stab.refl g w, hi, fun d' v' e => by injection e with e; injection e with _ e; subst e; exact h2⟩

/-- A guarded operation, its guard known. -/
theorem Step.guard {P : Program} {ops : Array Oper} {op : Op} {ty : TypeId} {pos : String} {aft : Array Edge} {d : Nat} {v : AV} {rT : List (Nat × AV)} {rM : List (Nat × Ent)} {j gt : Nat} {want : Bool} {nd : Option (List Ent → Prop)} (b : Bool)
    (hj : (ops[j]?).bind (·.dst) = some gt) (x : AV) (hx : ∀ g w u, Rep g w u x → (match u with | .bool c => (some c == some want) = b | _ => b = false))
    (h : b = true → Step P ops ⟨some d, op, ty, pos, aft, none⟩ { rT := rT, rM := rM, wT := some (d, v), need := nd }) :
    Step P ops ⟨some d, op, ty, pos, aft, some (j, want)⟩ { rT := (gt, x) :: rT, rM := rM, wT := some (d, .cond b v), need := nd } := by
  refine ⟨rfl, fun F hF g w a mem hi hT hM hs hp hN K Q hK => ?_⟩
  obtain ⟨u, hu, hr⟩ := hT gt x List.mem_cons_self
  have hy : yielded ops a.tmps j = match u with | .bool c => some c | _ => none := by
    unfold yielded
    rw [hj]
    simp only [Option.bind_some, hu]
    cases u <;> rfl
  have hw : Region.wanted ⟨some d, op, ty, pos, aft, some (j, want)⟩ (yielded ops a.tmps) = b := by
    simp only [Region.wanted, hy]
    have := hx g w u hr
    cases u <;> simp_all
  rw [hw]
  cases b with
  | true =>
    have := (h rfl).go F hF g w a mem hi (fun y v' hy => hT y v' (List.mem_cons_of_mem _ hy)) hM (fun s hs => by cases hs) (fun p e hp => by cases hp) hN K Q (fun g' w' u' h1 h2 h3 =>
      hK g' w' u' h1 h2 (fun d' v' e => by injection e with e; injection e with e1 e2; subst e1; subst e2; exact .condT rfl (h3 _ _ rfl)))
    simp only [Region.wanted, if_true] at this ⊢
    exact this
  | false =>
    simp only [Bool.false_eq_true, if_false]
    exact ⟨fun f _ => hF.fn f, hK g w undef (Stab.refl g w) hi (fun d' v' e => by injection e with e; injection e with e1 e2; subst e1; subst e2; exact .condF rfl)⟩

/-- A guard's value, plain. -/
theorem gv_bool {b : Bool} (want : Bool) : ∀ g w u, Rep g w u (.bool b) → (match u with | .bool c => (some c == some want) = (b == want) | _ => (b == want) = false) := by
  intro g w u h
  cases h
  cases b <;> cases want <;> rfl
/-- A guard's value, guarded itself. -/
theorem gv_cond {e b : Bool} (want : Bool) : ∀ g w u, Rep g w u (.cond e (.bool b)) → (match u with | .bool c => (some c == some want) = (e && (b == want)) | _ => (e && (b == want)) = false) := by
  intro g w u h
  cases h with
  | condT he h => subst he; cases h; cases b <;> cases want <;> rfl
  | condF he => subst he; rfl

section
variable {P : Program} {ops : Array Oper} {ty : TypeId} {pos : String} {aft : Array Edge} {d : Nat}

theorem s_move {o : Operand} {v : AV} {l : List (Nat × AV)} (h : Opd o v l) : Step P ops ⟨some d, .move o, ty, pos, aft, none⟩ { rT := l, wT := some (d, v) } :=
  Step.calc (rM := []) (by simp) fun g w a mem hi hT hM => ⟨a.eval o, rfl, h g w a hT⟩
theorem s_assign {o : Operand} {v : AV} {l : List (Nat × AV)} (h : Opd o v l) : Step P ops ⟨some d, .assign o, ty, pos, aft, none⟩ { rT := l, wT := some (d, v) } :=
  Step.calc (rM := []) (by simp) fun g w a mem hi hT hM => ⟨a.eval o, rfl, h g w a hT⟩

theorem bool_of {g : Gh} {w : World} {u : Value} {b : Bool} (h : Rep g w u (.bool b)) : u = .bool b := by cases h; rfl
theorem int_of {g : Gh} {w : World} {u : Value} {k : IntKind} {n : Int} (h : Rep g w u (.int k n)) : u = .int k n := by cases h; rfl
theorem str_of {g : Gh} {w : World} {u : Value} {s : ByteArray} (h : Rep g w u (.str s)) : u = .string s := by cases h; rfl

/-- 'a && b' -/
theorem s_and {c x : Operand} {p q : Bool} {lc : List (Nat × AV)} {t : Nat} (hc : Opd c (.bool p) lc) : Step P ops ⟨some d, .pick c (.tmp t) (.const (.bool false)), ty, pos, aft, none⟩ { rT := lc ++ [(t, .cond p (.bool q))], wT := some (d, .bool (p && q)) } :=
  Step.calc (rM := []) (by simp) fun g w a mem hi hT hM => by
    have h1 := bool_of (hc g w a hT.left)
    refine ⟨_, by simp [execOp, h1, asBool]; rfl, ?_⟩
    cases p with
    | true => simpa using Opd.tmpC rfl t (.bool q) g w a hT.right
    | false => exact .bool false
/-- 'a || b' -/
theorem s_or {c : Operand} {p q : Bool} {lc : List (Nat × AV)} {t : Nat} (hc : Opd c (.bool p) lc) : Step P ops ⟨some d, .pick c (.const (.bool true)) (.tmp t), ty, pos, aft, none⟩ { rT := lc ++ [(t, .cond (p == false) (.bool q))], wT := some (d, .bool (p || q)) } :=
  Step.calc (rM := []) (by simp) fun g w a mem hi hT hM => by
    have h1 := bool_of (hc g w a hT.left)
    refine ⟨_, by simp [execOp, h1, asBool]; rfl, ?_⟩
    cases p with
    | false => simpa using Opd.tmpC (b := (false == false)) rfl t (.bool q) g w a hT.right
    | true => exact .bool true
/-- both sides known -/
theorem s_pick {c x y : Operand} {p : Bool} {q r : Bool} {lc lx ly : List (Nat × AV)} (hc : Opd c (.bool p) lc) (hx : Opd x (.bool q) lx) (hy : Opd y (.bool r) ly) :
    Step P ops ⟨some d, .pick c x y, ty, pos, aft, none⟩ { rT := lc ++ (lx ++ ly), wT := some (d, .bool (if p then q else r)) } :=
  Step.calc (rM := []) (by simp) fun g w a mem hi hT hM => by
    have h1 := bool_of (hc g w a hT.left)
    refine ⟨_, by simp [execOp, h1, asBool]; rfl, ?_⟩
    cases p with
    | false => simpa using hy g w a hT.right.right
    | true => simpa using hx g w a hT.right.left

/-! ### Numbers -/
def InK (k : IntKind) (n : Int) : Prop := k.wrap n = n
theorem inK_i64 {n : Int} (h : -9223372036854775808 ≤ n ∧ n ≤ 9223372036854775807) : InK .i64 n := IntWalk.i64_in _ h

theorem s_int2 {op : BinOp} {xt yt : TypeId} {x y : Operand} {k : IntKind} {m n : Int} {v : AV} {lx ly : List (Nat × AV)} (hx : Opd x (.int k m) lx) (hy : Opd y (.int k n) ly)
    (h : ∀ w, ∃ u, (binOp op xt (.int k m) (.int k n)).run P w = .ok u w ∧ ∀ g, Rep g w u v) (hop : op ≠ .shl ∧ op ≠ .shr) :
    Step P ops ⟨some d, .binOp op xt x y yt, ty, pos, aft, none⟩ { rT := lx ++ ly, wT := some (d, v) } :=
  Step.calc (rM := []) (by simp) fun g w a mem hi hT hM => by
    have h1 := int_of (hx g w a hT.left)
    have h2 := int_of (hy g w a hT.right)
    obtain ⟨u, h3, h4⟩ := h w
    refine ⟨u, ?_, h4 g⟩
    have he : (eqGuard op xt x y (.int k m) (.int k n)).run P w = .ok () w := by
      unfold eqGuard
      split <;> rfl
    simp [execOp, h1, h2, he, h3]
theorem s_add {xt yt : TypeId} {x y : Operand} {k : IntKind} {m n : Int} {lx ly : List (Nat × AV)} (hx : Opd x (.int k m) lx) (hy : Opd y (.int k n) ly) (h : InK k (m + n)) :
    Step P ops ⟨some d, .binOp .add xt x y yt, ty, pos, aft, none⟩ { rT := lx ++ ly, wT := some (d, .int k (m + n)) } :=
  s_int2 hx hy (fun w => ⟨.int k (m + n), by simp [binOp, Op.intArith]; exact h, fun g => .int k _⟩) (by simp)
theorem s_sub {xt yt : TypeId} {x y : Operand} {k : IntKind} {m n : Int} {lx ly : List (Nat × AV)} (hx : Opd x (.int k m) lx) (hy : Opd y (.int k n) ly) (h : InK k (m - n)) :
    Step P ops ⟨some d, .binOp .sub xt x y yt, ty, pos, aft, none⟩ { rT := lx ++ ly, wT := some (d, .int k (m - n)) } :=
  s_int2 hx hy (fun w => ⟨.int k (m - n), by simp [binOp, Op.intArith]; exact h, fun g => .int k _⟩) (by simp)
theorem s_mul {xt yt : TypeId} {x y : Operand} {k : IntKind} {m n : Int} {lx ly : List (Nat × AV)} (hx : Opd x (.int k m) lx) (hy : Opd y (.int k n) ly) (h : InK k (m * n)) :
    Step P ops ⟨some d, .binOp .mul xt x y yt, ty, pos, aft, none⟩ { rT := lx ++ ly, wT := some (d, .int k (m * n)) } :=
  s_int2 hx hy (fun w => ⟨.int k (m * n), by simp [binOp, Op.intArith]; exact h, fun g => .int k _⟩) (by simp)
theorem s_quo {xt yt : TypeId} {x y : Operand} {k : IntKind} {m n : Int} {lx ly : List (Nat × AV)} (hx : Opd x (.int k m) lx) (hy : Opd y (.int k n) ly) (h0 : n ≠ 0) (h : InK k (m.tdiv n)) :
    Step P ops ⟨some d, .binOp .quo xt x y yt, ty, pos, aft, none⟩ { rT := lx ++ ly, wT := some (d, .int k (m.tdiv n)) } :=
  s_int2 hx hy (fun w => ⟨.int k (m.tdiv n), by simp [binOp, Op.intDiv, h0]; exact h, fun g => .int k _⟩) (by simp)
theorem s_rem {xt yt : TypeId} {x y : Operand} {k : IntKind} {m n : Int} {lx ly : List (Nat × AV)} (hx : Opd x (.int k m) lx) (hy : Opd y (.int k n) ly) (h0 : n ≠ 0) :
    Step P ops ⟨some d, .binOp .rem xt x y yt, ty, pos, aft, none⟩ { rT := lx ++ ly, wT := some (d, .int k (m.tmod n)) } :=
  s_int2 hx hy (fun w => ⟨.int k (m.tmod n), by simp [binOp, Op.intDiv, h0], fun g => .int k _⟩) (by simp)
theorem s_eql {xt yt : TypeId} {x y : Operand} {k : IntKind} {m n : Int} {lx ly : List (Nat × AV)} (hx : Opd x (.int k m) lx) (hy : Opd y (.int k n) ly) :
    Step P ops ⟨some d, .binOp .eql xt x y yt, ty, pos, aft, none⟩ { rT := lx ++ ly, wT := some (d, .bool (decide (m = n))) } :=
  s_int2 hx hy (fun w => ⟨.bool (decide (m = n)), by simp [binOp, Op.intCmp]; rfl, fun g => .bool _⟩) (by simp)
theorem s_neq {xt yt : TypeId} {x y : Operand} {k : IntKind} {m n : Int} {lx ly : List (Nat × AV)} (hx : Opd x (.int k m) lx) (hy : Opd y (.int k n) ly) :
    Step P ops ⟨some d, .binOp .neq xt x y yt, ty, pos, aft, none⟩ { rT := lx ++ ly, wT := some (d, .bool (decide (m ≠ n))) } :=
  s_int2 hx hy (fun w => ⟨.bool (decide (m ≠ n)), by
    have : (m != n) = decide (m ≠ n) := by by_cases h : m = n <;> simp [h]
    simp [binOp, Op.intCmp, this], fun g => .bool _⟩) (by simp)
theorem s_lss {xt yt : TypeId} {x y : Operand} {k : IntKind} {m n : Int} {lx ly : List (Nat × AV)} (hx : Opd x (.int k m) lx) (hy : Opd y (.int k n) ly) :
    Step P ops ⟨some d, .binOp .lss xt x y yt, ty, pos, aft, none⟩ { rT := lx ++ ly, wT := some (d, .bool (decide (m < n))) } :=
  s_int2 hx hy (fun w => ⟨.bool (decide (m < n)), by simp [binOp, Op.intCmp], fun g => .bool _⟩) (by simp)
theorem s_leq {xt yt : TypeId} {x y : Operand} {k : IntKind} {m n : Int} {lx ly : List (Nat × AV)} (hx : Opd x (.int k m) lx) (hy : Opd y (.int k n) ly) :
    Step P ops ⟨some d, .binOp .leq xt x y yt, ty, pos, aft, none⟩ { rT := lx ++ ly, wT := some (d, .bool (decide (m ≤ n))) } :=
  s_int2 hx hy (fun w => ⟨.bool (decide (m ≤ n)), by simp [binOp, Op.intCmp], fun g => .bool _⟩) (by simp)
theorem s_gtr {xt yt : TypeId} {x y : Operand} {k : IntKind} {m n : Int} {lx ly : List (Nat × AV)} (hx : Opd x (.int k m) lx) (hy : Opd y (.int k n) ly) :
    Step P ops ⟨some d, .binOp .gtr xt x y yt, ty, pos, aft, none⟩ { rT := lx ++ ly, wT := some (d, .bool (decide (n < m))) } :=
  s_int2 hx hy (fun w => ⟨.bool (decide (n < m)), by simp [binOp, Op.intCmp], fun g => .bool _⟩) (by simp)
theorem s_geq {xt yt : TypeId} {x y : Operand} {k : IntKind} {m n : Int} {lx ly : List (Nat × AV)} (hx : Opd x (.int k m) lx) (hy : Opd y (.int k n) ly) :
    Step P ops ⟨some d, .binOp .geq xt x y yt, ty, pos, aft, none⟩ { rT := lx ++ ly, wT := some (d, .bool (decide (n ≤ m))) } :=
  s_int2 hx hy (fun w => ⟨.bool (decide (n ≤ m)), by simp [binOp, Op.intCmp], fun g => .bool _⟩) (by simp)

theorem s_not {t : TypeId} {x : Operand} {b : Bool} {lx : List (Nat × AV)} (hx : Opd x (.bool b) lx) : Step P ops ⟨some d, .unOp .not t x, ty, pos, aft, none⟩ { rT := lx, wT := some (d, .bool (!b)) } :=
  Step.calc (rM := []) (by simp) fun g w a mem hi hT hM => ⟨.bool (!b), by simp [execOp, bool_of (hx g w a hT), Op.unary], .bool _⟩
theorem s_neg {t : TypeId} {x : Operand} {k : IntKind} {n : Int} {lx : List (Nat × AV)} (hx : Opd x (.int k n) lx) (h : InK k (-n)) : Step P ops ⟨some d, .unOp .neg t x, ty, pos, aft, none⟩ { rT := lx, wT := some (d, .int k (-n)) } :=
  Step.calc (rM := []) (by simp) fun g w a mem hi hT hM => ⟨.int k (-n), by
    simp [execOp, int_of (hx g w a hT), Op.unary, Op.intArith]; exact h, .int k _⟩
theorem s_conv {s t : TypeId} {x : Operand} {k k' : IntKind} {n : Int} {lx : List (Nat × AV)} (hx : Opd x (.int k n) lx) (hs : ∃ ds, P.underlying s = some ds) (ht : P.underlying t = some (.int k')) (h : InK k' n) :
    Step P ops ⟨some d, .convert s t x, ty, pos, aft, none⟩ { rT := lx, wT := some (d, .int k' n) } :=
  Step.calc (rM := []) (by simp) fun g w a mem hi hT hM => ⟨.int k' n, by
    obtain ⟨ds, hs⟩ := hs
    simp [execOp, int_of (hx g w a hT), convert, run_underlying hs, run_underlying ht, Conv.intToInt]; exact h, .int k' _⟩

/-! ### Strings, bools, equality of data -/
theorem bytes_beq (m n : ByteArray) : (m.toList == n.toList) = decide (m = n) := by
  rw [Bool.eq_iff_iff, beq_iff_eq, decide_eq_true_iff, ByteArray.toList_eq, ByteArray.toList_eq]
  constructor
  · intro h
    cases m; cases n
    simp only at h
    rw [Array.toList_inj.1 h]
  · rintro rfl; rfl
theorem s_bytes_eql {xt yt : TypeId} {x y : Operand} {m n : ByteArray} {lx ly : List (Nat × AV)} (hx : Opd x (.str m) lx) (hy : Opd y (.str n) ly) :
    Step P ops ⟨some d, .binOp .eql xt x y yt, ty, pos, aft, none⟩ { rT := lx ++ ly, wT := some (d, .bool (decide (m = n))) } :=
  Step.calc (rM := []) (by simp) fun g w a mem hi hT hM => ⟨.bool (decide (m = n)), by
    simp [execOp, str_of (hx g w a hT.left), str_of (hy g w a hT.right), eqGuard, binOp, Op.stringOp, bytes_beq], .bool _⟩
theorem s_bytes_neq {xt yt : TypeId} {x y : Operand} {m n : ByteArray} {lx ly : List (Nat × AV)} (hx : Opd x (.str m) lx) (hy : Opd y (.str n) ly) :
    Step P ops ⟨some d, .binOp .neq xt x y yt, ty, pos, aft, none⟩ { rT := lx ++ ly, wT := some (d, .bool (decide (m ≠ n))) } :=
  Step.calc (rM := []) (by simp) fun g w a mem hi hT hM => ⟨.bool (decide (m ≠ n)), by
    simp [execOp, str_of (hx g w a hT.left), str_of (hy g w a hT.right), eqGuard, binOp, Op.stringOp, bytes_beq], .bool _⟩

/-- Data without addresses: the one value that they are. -/
def conc : AV → Value
  | .int k n => .int k n
  | .bool b => .bool b
  | .str s => .string s
  | .agg cs => .agg (cs.map conc1).toArray
  | _ => undef
  where conc1 : AV → Value
  | .int k n => .int k n
  | .bool b => .bool b
  | .str s => .string s
  | _ => undef
def plain1 : AV → Bool
  | .int _ _ | .bool _ | .str _ => true
  | _ => false
def plainA : AV → Bool
  | .agg cs => cs.all plain1
  | a => plain1 a
theorem conc1_of {g : Gh} {w : World} {u : Value} {a : AV} (h : Rep g w u a) (hp : plain1 a = true) : u = conc.conc1 a := by
  cases h <;> first | rfl | simp [plain1] at hp
theorem conc_of {g : Gh} {w : World} {u : Value} {a : AV} (h : Rep g w u a) (hp : plainA a = true) : u = conc a := by
  cases h with
  | agg hs hr =>
    rename_i cs l
    simp only [plainA, List.all_eq_true] at hp
    simp only [conc]
    congr 1
    apply Array.ext'
    simp only
    apply List.ext_getElem?
    intro i
    rw [List.getElem?_map, Array.getElem?_toList]
    by_cases hi : i < l.length
    · have h1 : cs[i]? = some (cs[i]'(by omega)) := Array.getElem?_eq_getElem _
      rw [h1, List.getElem?_eq_getElem hi]
      simp only [Option.map_some]
      congr 1
      exact conc1_of (hr i _ _ h1 (List.getElem?_eq_getElem hi)) (hp _ (List.getElem_mem hi))
    · rw [List.getElem?_eq_none (by omega), Array.getElem?_eq_none (by omega)]
      rfl
  | int => rfl
  | bool => rfl
  | str => rfl
  | _ => simp [plainA, plain1] at hp

/-- What '==' gives at a type, of two data without addresses. -/
def EqT (P : Program) (t : TypeId) (x y : AV) (r : Bool) : Prop := ∀ w, (Op.equal t (conc x) (conc y)).run P w = .ok r w ∧ ∀ op o p, (eqGuard op t o p (conc x) (conc y)).run P w = .ok () w
theorem s_data_eql {xt yt : TypeId} {x y : Operand} {m n : AV} {r : Bool} {lx ly : List (Nat × AV)} (hx : Opd x m lx) (hy : Opd y n ly) (h : EqT P xt m n r)
    (hm : plainA m = true) (hn : plainA n = true) (hk : (match m with | .agg _ => true | .bool _ => true | _ => false) = true) :
    Step P ops ⟨some d, .binOp .eql xt x y yt, ty, pos, aft, none⟩ { rT := lx ++ ly, wT := some (d, .bool r) } :=
  Step.calc (rM := []) (by simp) fun g w a mem hi hT hM => ⟨.bool r, by
    have h1 := conc_of (hx g w a hT.left) hm
    have h2 := conc_of (hy g w a hT.right) hn
    obtain ⟨h3, h4⟩ := h w
    have h5 : binOp .eql xt (conc m) (conc n) = (do pure (.bool (← Op.equal xt (conc m) (conc n)))) := by
      cases m <;> simp at hk <;> (simp only [conc]; cases n <;> rfl)
    simp [execOp, h1, h2, h4, h5, h3], .bool _⟩
theorem s_data_neq {xt yt : TypeId} {x y : Operand} {m n : AV} {r : Bool} {lx ly : List (Nat × AV)} (hx : Opd x m lx) (hy : Opd y n ly) (h : EqT P xt m n r)
    (hm : plainA m = true) (hn : plainA n = true) (hk : (match m with | .agg _ => true | .bool _ => true | _ => false) = true) :
    Step P ops ⟨some d, .binOp .neq xt x y yt, ty, pos, aft, none⟩ { rT := lx ++ ly, wT := some (d, .bool (!r)) } :=
  Step.calc (rM := []) (by simp) fun g w a mem hi hT hM => ⟨.bool (!r), by
    have h1 := conc_of (hx g w a hT.left) hm
    have h2 := conc_of (hy g w a hT.right) hn
    obtain ⟨h3, h4⟩ := h w
    have h5 : binOp .neq xt (conc m) (conc n) = (do pure (.bool (!(← Op.equal xt (conc m) (conc n))))) := by
      cases m <;> simp at hk <;> (simp only [conc]; cases n <;> rfl)
    simp [execOp, h1, h2, h4, h5, h3], .bool _⟩

/-! ### Functions, tuples -/
theorem s_extract {x : Operand} {vs : List AV} {i : Nat} {v : AV} {lx : List (Nat × AV)} (hx : Opd x (.tuple vs) lx) (hi : vs[i]? = some v) : Step P ops ⟨some d, .extract x i, ty, pos, aft, none⟩ { rT := lx, wT := some (d, v) } :=
  Step.calc (rM := []) (by simp) fun g w a mem _ hT hM => by
    have h := hx g w a hT
    generalize hu : a.eval x = u at h
    cases h with
    | tuple hs hr =>
      rename_i cs
      have hlt : i < cs.size := by rw [hs]; exact (List.getElem?_eq_some_iff.1 hi).1
      refine ⟨cs[i], by simp [execOp, hu, Instr.extract, hlt], hr i _ _ (Array.getElem?_eq_getElem hlt) hi⟩

theorem evals_rep {g : Gh} {w : World} {a : Act} : ∀ {os : List Operand} {vs : List AV} {ls : List (List (Nat × AV))}, os.length = vs.length → vs.length = ls.length →
    (∀ (i : Nat) o v l, os[i]? = some o → vs[i]? = some v → ls[i]? = some l → Opd o v l) → HasT g w a ls.flatten → RepAll g w (os.map a.eval).toArray vs := by
  intro os vs ls h1 h2 h hT
  refine ⟨by simp [h1], fun i v x hv hx => ?_⟩
  simp only [List.getElem?_toArray, List.getElem?_map] at hv
  cases ho : os[i]? with
  | none => rw [ho] at hv; cases hv
  | some o =>
    rw [ho] at hv
    simp only [Option.map_some, Option.some.injEq] at hv
    subst hv
    have hlt : i < ls.length := by rw [← h2]; exact (List.getElem?_eq_some_iff.1 hx).1
    have hl := List.getElem?_eq_getElem hlt
    exact h i o x _ ho hx hl g w a (fun y u hy => hT y u (List.mem_flatten.2 ⟨_, List.mem_of_getElem? hl, hy⟩))

/-- The arguments of a call, one after the other. -/
inductive Opds : List Operand → List AV → List (Nat × AV) → Prop
  | nil : Opds [] [] []
  | cons {o : Operand} {v : AV} {l : List (Nat × AV)} {os : List Operand} {vs : List AV} {ls : List (Nat × AV)} (h : Opd o v l) (r : Opds os vs ls) : Opds (o :: os) (v :: vs) (l ++ ls)
theorem Opds.rep {g : Gh} {w : World} {a : Act} {os : List Operand} {vs : List AV} {ls : List (Nat × AV)} (h : Opds os vs ls) : HasT g w a ls → RepAll g w (os.map a.eval).toArray vs := by
  induction h with
  | nil => exact fun _ => ⟨rfl, fun i v x hv => by simp at hv⟩
  | cons h _ ih =>
    intro hT
    have := ih hT.right
    refine ⟨by have := this.1; simp at this ⊢; exact this, fun i v x hv hx => ?_⟩
    cases i with
    | zero =>
      simp at hv hx
      subst hv; subst hx
      exact h g w a hT.left
    | succ i => exact this.2 i v x (by simpa using hv) (by simpa using hx)

theorem s_makeFunc {f : FuncId} {fs cs : List Operand} {fv cv : List AV} {l1 l2 : List (Nat × AV)} (h1 : Opds fs fv l1) (h2 : Opds cs cv l2) :
    Step P ops ⟨some d, .makeFunc (.func f) fs.toArray cs.toArray, ty, pos, aft, none⟩ { rT := l1 ++ l2, wT := some (d, .func f fv cv) } :=
  Step.calc (rM := []) (by simp) fun g w a mem hi hT hM => by
    refine ⟨_, by simp [execOp, Instr.makeFunc]; rfl, ?_⟩
    have e1 := h1.rep hT.left
    have e2 := h2.rep hT.right
    exact .func e1.1 e2.1 e1.2 e2.2
end

end Go.Proofs.Ytjhecgiipajdpaa
