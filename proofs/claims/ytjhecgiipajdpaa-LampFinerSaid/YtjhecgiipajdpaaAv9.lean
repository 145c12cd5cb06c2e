/- Helpers of the walks: guards, conditions, lists by index. -/
import Derived.Test.YtjhecgiipajdpaaAv8
set_option linter.unusedVariables false
set_option linter.unusedSimpArgs false
namespace Go.Proofs.Ytjhecgiipajdpaa
open Go.RowKit

abbrev I (n : Int) : AV := .int .i64 n
abbrev U (n : UInt8) : AV := .int .u8 n.toNat
abbrev ints (l : List Int) : AV := .slice (l.map I) none

theorem inK_u64 {n : Int} (h : 0 ≤ n ∧ n ≤ 18446744073709551615) : InK .u64 n := IntWalk.u64_in _ h
theorem inK_u8 {n : Int} (h : 0 ≤ n ∧ n ≤ 255) : InK .u8 n := IntWalk.u8_in _ h

theorem Opd.any (o : Operand) : Opd o .top [] := fun _ _ _ _ => .top _

/-! ### Guards -/
theorem gT {b : Bool} : ∀ g w u, Rep g w u (.bool b) → (match u with | .bool c => (some c == some true) = b | _ => b = false) := by
  intro g w u h; cases h; cases b <;> rfl
theorem gF {b : Bool} : ∀ g w u, Rep g w u (.bool b) → (match u with | .bool c => (some c == some false) = (!b) | _ => (!b) = false) := by
  intro g w u h; cases h; cases b <;> rfl
theorem gcT {e b : Bool} : ∀ g w u, Rep g w u (.cond e (.bool b)) → (match u with | .bool c => (some c == some true) = (e && b) | _ => (e && b) = false) := by
  intro g w u h
  cases h with
  | condT he h => subst he; cases h; cases b <;> rfl
  | condF he => subst he; rfl
theorem gcF {e b : Bool} : ∀ g w u, Rep g w u (.cond e (.bool b)) → (match u with | .bool c => (some c == some false) = (e && !b) | _ => (e && !b) = false) := by
  intro g w u h
  cases h with
  | condT he h => subst he; cases h; cases b <;> rfl
  | condF he => subst he; rfl
theorem andMk {a b : Bool} (h : a = true) (k : b = true) : (a && b) = true := by rw [h, k]; rfl
theorem andL {a b : Bool} (h : (a && b) = true) : a = true := by cases a <;> simp_all
theorem andR {a b : Bool} (h : (a && b) = true) : b = true := by cases a <;> simp_all
theorem notMk {a : Bool} (h : a = false) : (!a) = true := by rw [h]; rfl

/-! ### From bools to propositions -/
theorem iD {p : Prop} [Decidable p] : decide p = true ↔ p := decide_eq_true_iff
theorem iB {b : Bool} : b = true ↔ b = true := Iff.rfl
theorem iA {a b : Bool} {p q : Prop} (h : a = true ↔ p) (k : b = true ↔ q) : (a && b) = true ↔ p ∧ q := by rw [Bool.and_eq_true, h, k]
theorem iO {a b : Bool} {p q : Prop} (h : a = true ↔ p) (k : b = true ↔ q) : (a || b) = true ↔ p ∨ q := by rw [Bool.or_eq_true, h, k]
theorem iN {a : Bool} {p : Prop} (h : a = true ↔ p) : (!a) = true ↔ ¬ p := by rw [← h]; cases a <;> simp
theorem iF {a : Bool} {p : Prop} (h : a = true ↔ p) (k : a = false) : ¬ p := by rw [← h, k]; simp

section
variable {P : Program} {ops : Array Oper} {ty : TypeId} {pos : String} {aft : Array Edge} {d : Nat}
theorem s_and' {c : Operand} {p q e : Bool} {lc : List (Nat × AV)} {t : Nat} (he : p = true → e = true) (hc : Opd c (.bool p) lc) : Step P ops ⟨some d, .pick c (.tmp t) (.const (.bool false)), ty, pos, aft, none⟩ { rT := lc ++ [(t, .cond e (.bool q))], wT := some (d, .bool (p && q)) } :=
  Step.calc (rM := []) (by simp) fun g w a mem hi hT hM => by
    have h1 := bool_of (hc g w a hT.left)
    refine ⟨_, by simp [execOp, h1, asBool]; rfl, ?_⟩
    cases p with
    | true => simpa using Opd.tmpC (he rfl) t (.bool q) g w a hT.right
    | false => exact .bool false
theorem s_or' {c : Operand} {p q e : Bool} {lc : List (Nat × AV)} {t : Nat} (he : p = false → e = true) (hc : Opd c (.bool p) lc) : Step P ops ⟨some d, .pick c (.const (.bool true)) (.tmp t), ty, pos, aft, none⟩ { rT := lc ++ [(t, .cond e (.bool q))], wT := some (d, .bool (p || q)) } :=
  Step.calc (rM := []) (by simp) fun g w a mem hi hT hM => by
    have h1 := bool_of (hc g w a hT.left)
    refine ⟨_, by simp [execOp, h1, asBool]; rfl, ?_⟩
    cases p with
    | false => simpa using Opd.tmpC (he rfl) t (.bool q) g w a hT.right
    | true => exact .bool true

theorem s_ixM {α : Type} {l : List α} {f : α → AV} (df : α) {t e : TypeId} {x y : Operand} {n : Nat} {own : Option Nat} {k : IntKind} {i : Int} {lx ly : List (Nat × AV)} (ht : SliceT P t e n) (hx : Opd x (.slice (l.map f) own) lx) (hy : Opd y (.int k i) ly)
    (h : 0 ≤ i ∧ i < l.length) (hn : (f (l.getD i.toNat df)).cells.length = n) : Step P ops ⟨some d, .indexAddr t x y, ty, pos, aft, none⟩ { rT := lx ++ ly, wT := some (d, .eptr (f (l.getD i.toNat df)) 0) } :=
  s_indexAddr ht hx hy h.1 (by
    rw [List.getElem?_map, List.getD_eq_getElem?_getD, List.getElem?_eq_getElem (by omega)]
    rfl) hn
theorem s_lenM {α : Type} {l : List α} {f : α → AV} {x : Operand} {t e : TypeId} {n : Nat} {own : Option Nat} {lx : List (Nat × AV)} (ht : SliceT P t e n) (hx : Opd x (.slice (l.map f) own) lx) :
    Step P ops ⟨some d, .call { callee := .builtin .len, args := #[x], argTypes := #[t] }, ty, pos, aft, none⟩ { rT := lx, wT := some (d, .int .i64 (l.length : Int)) } := by
  have := s_len (P := P) (ops := ops) (ty := ty) (pos := pos) (aft := aft) (d := d) ht hx
  simpa using this
theorem s_toM {α : Type} {l : List α} {f : α → AV} {t e : TypeId} {x y : Operand} {n : Nat} {own : Option Nat} {k : IntKind} {i : Int} {lx ly : List (Nat × AV)} (ht : SliceT P t e n) (hx : Opd x (.slice (l.map f) own) lx) (hy : Opd y (.int k i) ly)
    (h : 0 ≤ i ∧ i ≤ l.length) (hs : ∀ a, (f a).cells.length = n) : Step P ops ⟨some d, .slice t x none (some y) none, ty, pos, aft, none⟩ { rT := lx ++ ly, wT := some (d, .slice ((l.take i.toNat).map f) none) } := by
  have := s_sliceTo (P := P) (ops := ops) (ty := ty) (pos := pos) (aft := aft) (d := d) ht hx hy h.1 (by simpa using h.2) (by intro e he; obtain ⟨a, _, rfl⟩ := List.mem_map.1 he; exact hs a)
  rwa [← List.map_take] at this
theorem s_fromM {α : Type} {l : List α} {f : α → AV} {t e : TypeId} {x y : Operand} {n : Nat} {own : Option Nat} {k : IntKind} {i : Int} {lx ly : List (Nat × AV)} (ht : SliceT P t e n) (hx : Opd x (.slice (l.map f) own) lx) (hy : Opd y (.int k i) ly)
    (h : 0 ≤ i ∧ i ≤ l.length) (hs : ∀ a, (f a).cells.length = n) : Step P ops ⟨some d, .slice t x (some y) none none, ty, pos, aft, none⟩ { rT := lx ++ ly, wT := some (d, .slice ((l.drop i.toNat).map f) none) } := by
  have := s_sliceFrom (P := P) (ops := ops) (ty := ty) (pos := pos) (aft := aft) (d := d) ht hx hy h.1 (by simpa using h.2) (by intro e he; obtain ⟨a, _, rfl⟩ := List.mem_map.1 he; exact hs a)
  rwa [← List.map_drop] at this
end

/-! ### States that are known less -/
theorem Weak.of {S T : St} (hs : List Nat) (h1 : T.env.map (fun x => getT S.env x.1) = T.env.map (·.2)) (h2 : T.mem = hs.foldl (fun m p => m.set p .hole) S.mem) : Weak S T := by
  have key : ∀ (hs : List Nat) (m : List Ent), (hs.foldl (fun m p => m.set p .hole) m).length = m.length ∧ ∀ (i : Nat) e, (hs.foldl (fun m p => m.set p .hole) m)[i]? = some e → e = .hole ∨ m[i]? = some e := by
    intro hs
    induction hs with
    | nil => exact fun m => ⟨rfl, fun i e h => .inr h⟩
    | cons p r ih =>
      intro m
      obtain ⟨k1, k2⟩ := ih (m.set p .hole)
      refine ⟨by simpa using k1, fun i e h => ?_⟩
      rcases k2 i e h with h | h
      · exact .inl h
      · rw [List.getElem?_set] at h
        split at h
        · split at h
          · injection h with h; exact .inl h.symm
          · cases h
        · exact .inr h
  refine ⟨fun x => ?_, by rw [h2]; exact (key hs S.mem).1, fun i e h => by rw [h2] at h; exact (key hs S.mem).2 i e h⟩
  have : ∀ (l : List (Nat × AV)), l.map (fun x => getT S.env x.1) = l.map (·.2) → getT l x = .top ∨ getT l x = getT S.env x := by
    intro l
    induction l with
    | nil => exact fun _ => .inl rfl
    | cons a r ih =>
      intro h
      simp only [List.map_cons, List.cons.injEq] at h
      obtain ⟨k, v⟩ := a
      simp only [getT]
      by_cases hx : x = k
      · rw [if_pos hx, hx]; exact .inr h.1.symm
      · rw [if_neg hx]; exact ih h.2
  exact this _ h1
section
variable {F : Fence} {P : Program} {nt : Nat} {S : St} {Q : Exit → St → Prop}
/-- What holds behind some code, up to forgetting. -/
theorem AC.join {x y : Code} (M : St → Prop) (h : AC F P nt x S (thenQ (fun S' => ∃ T, M T ∧ Weak S' T) Q)) (k : ∀ T, M T → AC F P nt y T Q) : AC F P nt (.seq x y) S Q :=
  .seq (h.mono fun ex S' hq => by
    cases ex with
    | normal => obtain ⟨T, hT, hw⟩ := hq; exact (k T hT).weaken hw
    | _ => exact hq)
theorem AC.loopW {c : Code} (I : Nat → St → Prop) (n0 : Nat) (T0 : St) (h0 : I n0 T0) (hw : Weak S T0) (round : ∀ n S, I n S → AC F P nt c S (thenQ (fun S' => ∃ m, m < n ∧ ∃ T, I m T ∧ Weak S' T) Q)) (hF : Fr F) : AC F P nt (.loop c) S Q :=
  .loop (fun n S => ∃ T, I n T ∧ Weak S T) n0 ⟨T0, h0, hw⟩ (fun n S ⟨T, hI, hw⟩ => ((round n T hI).weaken hw).mono fun ex S' hq => by
    cases ex with
    | normal => obtain ⟨m, hm, T, hT, hw⟩ := hq; exact ⟨m, hm, T, hT, hw⟩
    | _ => exact hq) hF
end
end Go.Proofs.Ytjhecgiipajdpaa
