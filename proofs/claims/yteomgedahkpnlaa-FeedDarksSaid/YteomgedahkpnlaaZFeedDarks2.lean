import Derived.Laws.StructEq
import Derived.MapKept
import Derived.Test.YteomgedahkpnlaaZFeedDarks1
set_option linter.unusedVariables false
set_option linter.unusedSimpArgs false
section

namespace Go.Proofs.Yteomgedahkpnlaa
open Go.RowKit
section
variable {F : Fence} {P : Program} {nt : Nat} {S : St} {Q : Exit → St → Prop}
theorem AC.sealed {c : Code} (t p s off : Nat) (cs : List AV) (h : getT S.env t = .ptr s off) (hp : S.mem[p]? = some (.box s cs)) (k : AC F P nt c ⟨(t, .eptr (.agg cs) off) :: S.env, S.mem.set p .hole⟩ Q) (ht : Nat.blt t nt = true) : AC F P nt c S Q := by
  intro g w a hid hr
  have hpl : p < S.mem.length := (List.getElem?_eq_some_iff.1 hp).1
  have hat : (S.mem ++ hid.map Ent.mark)[p]? = some (.box s cs) := by rw [List.getElem?_append_left hpl]; exact hp
  have h0 := hr.eval (c := t) (by simpa [Nat.blt_eq] using ht)
  rw [h] at h0
  generalize a.eval (.tmp t) = u at h0
  cases h0 with
  | ptr hs =>
    rename_i b
    obtain ⟨R1, R2, R3, R4⟩ := hr
    obtain ⟨arr, tt, k1, k2, k3, k4, k5⟩ := box_cell R4 hat hs
    have hext : Ext g w (g.sealed b) w := ⟨rfl, Below.refl _ _, fun b o ho => ⟨.inl ho, rfl⟩, fun s _ _ => rfl, fun s hs => by cases hs⟩
    have hlt := (Array.getElem?_eq_some_iff.1 k1).1
    have hinv := R4.set hext p .hole (fun i ei b' hi hne hb => ⟨rfl, fun o ho => by
        rcases ho with ho | ho
        · exact ho
        · subst ho
          exact absurd (R4.apart i p ei _ _ hi hat hb (by simp [Ent.block, hs, symBlock])) hne, by simp [Ent.block]⟩) trivial
      (fun b' o ho => by
        rcases ho with ho | ho
        · exact R4.lt _ _ ho
        · subst ho; exact hlt) R4.room
    rw [List.set_append_left _ _ hpl] at hinv
    have hr' : Rel nt (g.sealed b) w a ⟨(t, .eptr (.agg cs) off) :: S.env, S.mem.set p .hole⟩ hid := by
      refine ⟨R1, R2, fun x v hx => ?_, hinv⟩
      show Rep (g.sealed b) w v (if x = t then _ else getT S.env x)
      have h0 := R3 x v hx
      split
      · rename_i hxt
        rw [hxt, h] at h0
        cases h0 with
        | ptr hs2 =>
          rename_i b2
          rw [hs] at hs2
          injection hs2 with hs2
          subst hs2
          have := Rep.eptr (g := g.sealed b) (w := w) (b := b) (o := 0) (off := off) (e := .agg cs) (fun j => arr.getD j undef) (fun j c hj => ⟨?_, .inr rfl⟩) (fun j c hj => ?_)
          · rw [Nat.zero_add] at this; exact this
          · have hlt : j < arr.size := by rw [k3.1]; exact (List.getElem?_eq_some_iff.1 hj).1
            rw [Nat.zero_add, k5 j arr[j] (Array.getElem?_eq_getElem hlt)]
            simp [Array.getD_eq_getD_getElem?, hlt]
          · have hlt : j < arr.size := by rw [k3.1]; exact (List.getElem?_eq_some_iff.1 hj).1
            have := (k3.stab hext).2 j arr[j] c (Array.getElem?_eq_getElem hlt) hj
            simpa [Array.getD_eq_getD_getElem?, hlt] using this
      · exact h0.stab hext
    exact wpIn_mono (k _ w a hid hr') fun ex a' w' ⟨g2, S2, hid2, h1, h2, h3⟩ => ⟨g2, S2, hid2, h1, hext.trans h2, h3⟩
theorem AC.claimB {c : Code} (q sb : Nat) (cs : List AV) (j p : Nat) (e : TypeId) (sz : Nat) (hq : S.mem[q]? = some (.box sb cs)) (hj : cs[j]? = some .nils) (hp : S.mem[p]? = some .hole) (hqp : q ≠ p)
    (k : ∀ s, AC F P nt c ⟨S.env, (S.mem.set p (.row s 0 e sz)).set q (.box sb (cs.set j (.slice [] (some s))))⟩ Q) : AC F P nt c S Q := by
  intro g w a hid hr
  obtain ⟨N, hN⟩ := hr.inv.room
  have hpl : p < S.mem.length := (List.getElem?_eq_some_iff.1 hp).1
  have hql : q < S.mem.length := (List.getElem?_eq_some_iff.1 hq).1
  let g' : Gh := g.put N (.val (.slice none 0 0))
  have hsy : g'.sy N = .val (.slice none 0 0) := by show (if N = N then _ else _) = _; rw [if_pos rfl]
  have hext : Ext g w g' w := ⟨rfl, Below.refl _ _, fun b o ho => ⟨ho, rfl⟩, fun s _ hs => by
    show (if s = N then _ else g.sy s) = g.sy s
    rw [if_neg (fun e => hs (by rw [e]; exact hN N (Nat.le_refl _)))], fun s hs => by cases hs⟩
  obtain ⟨R1, R2, R3, R4⟩ := hr
  have hinv := R4.set hext p (.row N 0 e sz) (fun i ei b hi hne hb => ⟨rfl, fun _ h => h, by simp [Ent.block, hsy, symBlock, Value.ownBlock]⟩)
    ⟨_, [], hsy, World.ownsRow_nil _ _ _ _, fun b o hb => by simp [Value.ownBlock] at hb⟩ R4.lt (put_room ⟨N, hN⟩)
  have hatq : ((S.mem ++ hid.map Ent.mark).set p (.row N 0 e sz))[q]? = some (.box sb cs) := by
    rw [List.getElem?_set_ne (Ne.symm hqp), List.getElem?_append_left hql]; exact hq
  obtain ⟨bq, arr, tt, b1, b2, b3, b4, b5, b6⟩ := hinv.ok _ (List.mem_of_getElem? hatq)
  have hblk : (Ent.box sb cs).block g' = some bq := by simp [Ent.block, b1, symBlock]
  have hinv2 := hinv.set (Stab.refl g' w) q (.box sb (cs.set j (.slice [] (some N)))) (fun i ei b hi hne hb => ⟨rfl, fun _ h => h, fun hb2 => by
      have e1 : (Ent.box sb (cs.set j (.slice [] (some N)))).block g' = some bq := by simp [Ent.block, b1, symBlock]
      rw [e1] at hb2
      injection hb2 with hb2
      subst hb2
      exact hne (hinv.apart i q ei _ _ hi hatq hb hblk)⟩)
    ⟨bq, arr, tt, b1, b2, b3, by rw [List.length_set]; exact b4, fun i v x hv hx => by
      rw [List.getElem?_set] at hx
      split at hx
      · rename_i hij
        subst hij
        split at hx
        · injection hx with hx
          subst hx
          have := b5 j v _ hv hj
          cases this
          exact .slice 0 0 (fun _ _ => undef) rfl (fun h => absurd rfl h) (sz := 0) (fun e he => by cases he) (fun i e j c h => by simp at h) (fun i e j c h => by simp at h) (Nat.le_refl _) (fun s hs => by injection hs with hs; subst hs; exact hsy)
        · cases hx
      · exact b5 i v x hv hx, b6⟩ hinv.lt hinv.room
  rw [List.set_append_left _ _ hpl, List.set_append_left _ _ (by rw [List.length_set]; exact hql)] at hinv2
  have hr' : Rel nt g' w a ⟨S.env, (S.mem.set p (.row N 0 e sz)).set q (.box sb (cs.set j (.slice [] (some N))))⟩ hid :=
    ⟨R1, R2, EnvOK.stab hext R3, hinv2⟩
  exact wpIn_mono (k N g' w a hid hr') fun ex a' w' ⟨g2, S2, hid2, h1, h2, h3⟩ => ⟨g2, S2, hid2, h1, hext.trans h2, h3⟩
end
section
variable {P : Program} {ops : Array Oper} {ty : TypeId} {pos : String} {aft : Array Edge} {d : Nat}
def rows (cs : List AV) (off n : Nat) : Nat → List AV
  | 0 => []
  | k + 1 => .agg ((cs.drop off).take n) :: rows cs (off + n) n k
theorem rows_length (cs : List AV) (n : Nat) : ∀ (k off : Nat), (rows cs off n k).length = k
  | 0, _ => rfl
  | k + 1, off => by simp [rows, rows_length]
theorem rows_at (cs : List AV) (n : Nat) : ∀ (k off i : Nat) e, (rows cs off n k)[i]? = some e → i < k ∧ e = .agg ((cs.drop (off + i * n)).take n)
  | 0, off, i, e, h => by simp [rows] at h
  | k + 1, off, 0, e, h => by simp [rows] at h; simp [h]
  | k + 1, off, i + 1, e, h => by
    simp only [rows, List.getElem?_cons_succ] at h
    obtain ⟨h1, h2⟩ := rows_at cs n k (off + n) i e h
    refine ⟨by omega, ?_⟩
    rw [h2, Nat.succ_mul]
    congr 3
    omega
theorem s_sliceArrE {t e : TypeId} {x : Operand} {n len off : Nat} {cs es : List AV} {lx : List (Nat × AV)} (ht : ArrT P t len e n) (hx : Opd x (.eptr (.agg cs) off) lx) (h0 : 0 < len) (hlen : Nat.ble (off + len * n) cs.length = true) (hes : rows cs off n len = es) :
    Step P ops ⟨some d, .slice t x none none none, ty, pos, aft, none⟩ { rT := lx, wT := some (d, .slice es none) } :=
  Step.calc (rM := []) (by simp) fun g w a mem _ hT hM => by
    have h := hx g w a hT
    have hlen' := Nat.le_of_ble_eq_true hlen
    generalize hu : a.eval x = u at h
    cases h with
    | eptr vals h1 h2 =>
      rename_i b o
      refine ⟨.slice (some ⟨b, o + off, none⟩) len len, ?_, ?_⟩
      · simp [execOp, hu, Instr.sliceAt, run_underlying ht.1, Instr.sureAddr, Instr.sliceBounds, run_size ht.2, Addr.add, Nat.pos_iff_ne_zero.1 h0]
      · subst hes
        have key : ∀ (i : Nat) e j c, (rows cs off n len)[i]? = some e → e.cells[j]? = some c → i < len ∧ j < n ∧ cs[off + (i * n + j)]? = some c := by
          intro i e j c hi hj
          obtain ⟨k1, k2⟩ := rows_at cs n len off i e hi
          subst k2
          simp only [AV.cells, List.getElem?_take, List.getElem?_drop] at hj
          split at hj
          · rename_i hjn
            exact ⟨k1, hjn, by rw [← hj]; congr 1; omega⟩
          · cases hj
        refine .slice (sz := n) b (o + off) (fun i j => vals (off + (i * n + j))) (rows_length cs n len off) (fun _ => rfl) (fun e he => ?_) (fun i e j c hi hj => ?_) (fun i e j c hi hj => ?_) (Nat.le_refl _) (fun s hs => by cases hs)
        · obtain ⟨i, hi⟩ := List.getElem?_of_mem he
          obtain ⟨k1, k2⟩ := rows_at cs n len off i e hi
          subst k2
          simp only [AV.cells, List.length_take, List.length_drop]
          have : (i + 1) * n ≤ len * n := Nat.mul_le_mul_right n k1
          rw [Nat.succ_mul] at this
          omega
        · obtain ⟨_, _, k3⟩ := key i e j c hi hj
          have := h1 (off + (i * n + j)) c k3
          rw [show o + off + (i * n + j) = o + (off + (i * n + j)) from by omega]
          exact this
        · obtain ⟨_, _, k3⟩ := key i e j c hi hj
          exact h2 _ c k3
end
section
variable {P : Program}
def EqD (P : Program) (d : Nat) (t : TypeId) (x y : Value) (r : Bool) : Prop := ∀ w, (Op.equalIn d t x y).run P w = .ok r w
theorem EqD.int {t : TypeId} {k : IntKind} (h : P.underlying t = some (.int k)) (d : Nat) (k' : IntKind) (a b : Int) : EqD P (d + 1) t (.int k' a) (.int k' b) (decide (a = b)) := fun w => by
  rw [run_eq_int h d k' a b w]
  congr 1
theorem EqD.bool {t : TypeId} (h : P.underlying t = some .bool) (d : Nat) (a b : Bool) : EqD P (d + 1) t (.bool a) (.bool b) (a == b) := fun w => run_eq_bool h d a b w
theorem EqD.str {t : TypeId} (h : P.underlying t = some .string) (d : Nat) (a b : ByteArray) : EqD P (d + 1) t (.string a) (.string b) (decide (a = b)) := fun w => by
  rw [run_equalIn_string w d t a b h, bytes_beq]
def PartD (P : Program) (t : TypeId) (xs : Array Value) (off : Nat) (v : Value) : Prop := ∀ w, (part t xs off).run P w = .ok v w
theorem PartD.one {t : TypeId} (ht : TyS P t) {xs : Array Value} {off : Nat} {v : Value} (h : xs[off]? = some v) : PartD P t xs off v := fun w => run_part1 ht h w
theorem PartD.agg {t n : Nat} (ht : TyA P t n) {xs : Array Value} {off : Nat} {v : Array Value} (h : xs.extract off (off + n) = v) (hl : Nat.ble (off + n) xs.size = true) : PartD P t xs off (.agg v) := fun w => by
  have hl' := Nat.le_of_ble_eq_true hl
  obtain ⟨ds, h1, h2, h3⟩ := ht
  unfold part
  simp only [Sem.run_bind, run_aggr ⟨ds, h1, h2, h3⟩, run_size h3, Result.andThen_ok, if_true]
  simp [hl', h]
inductive EqFs (P : Program) (d : Nat) (xs ys : Array Value) : List Field → Bool → Prop
  | nil : EqFs P d xs ys [] true
  | cons {f : Field} {fs : List Field} {a b : Value} {r1 r2 : Bool} (hn : f.name ≠ "_") (h1 : PartD P f.type xs f.offset a) (h2 : PartD P f.type ys f.offset b) (h3 : EqD P d f.type a b r1) (h4 : EqFs P d xs ys fs r2) : EqFs P d xs ys (f :: fs) (r1 && r2)
theorem EqFs.run {d : Nat} {xs ys : Array Value} {fs : List Field} {r : Bool} (h : EqFs P d xs ys fs r) (w : World) : (Op.eqFields d xs ys fs).run P w = .ok r w := by
  induction h with
  | nil => rfl
  | cons hn h1 h2 h3 h4 ih =>
    rename_i r1 r2
    unfold Op.eqFields
    rw [if_pos hn]
    simp only [Sem.run_bind, h1 w, h2 w, h3 w, Result.andThen_ok]
    cases r1 with
    | true => simpa using ih
    | false => simp [Sem.run_pure]
theorem EqD.struct {t : TypeId} {fs : Array Field} {d : Nat} {xs ys : Array Value} {r : Bool} (ht : P.underlying t = some (.struct fs)) (hs : P.stoodInHeld t = false) (h : EqFs P d xs ys fs.toList r) : EqD P (d + 1) t (.agg xs) (.agg ys) r := fun w => by
  have hf : P.fieldsOf t = fs := by unfold Program.fieldsOf; rw [ht]
  rw [run_equalIn_struct w d t xs ys (by rw [hf]; exact ht) hs, hf]
  exact h.run w
theorem EqD.array3 {t e n : TypeId} {d : Nat} {xs ys : Array Value} {a0 a1 a2 b0 b1 b2 : Value} {r0 r1 r2 : Bool} (ht : P.underlying t = some (.array 3 e)) (hn : SzT P e n)
    (p0 : PartD P e xs (0 * n) a0) (p1 : PartD P e xs (1 * n) a1) (p2 : PartD P e xs (2 * n) a2) (q0 : PartD P e ys (0 * n) b0) (q1 : PartD P e ys (1 * n) b1) (q2 : PartD P e ys (2 * n) b2)
    (e0 : EqD P d e a0 b0 r0) (e1 : EqD P d e a1 b1 r1) (e2 : EqD P d e a2 b2 r2) : EqD P (d + 1) t (.agg xs) (.agg ys) (r0 && (r1 && r2)) := fun w => by
  unfold Op.equalIn
  simp only [Sem.run_bind, run_underlying ht, run_size hn, Result.andThen_ok]
  rw [Std.Legacy.Range.forIn_eq_forIn_range']
  simp only [Std.Legacy.Range.size, Nat.sub_zero, Nat.add_sub_cancel, Nat.div_one, List.range', List.forIn_cons, List.forIn_nil, Sem.run_bind, p0 w, p1 w, p2 w, q0 w, q1 w, q2 w, e0 w, e1 w, e2 w, Result.andThen_ok]
  have p1' : (part e xs n).run P w = .ok a1 w := by have := p1 w; rwa [Nat.one_mul] at this
  have q1' : (part e ys n).run P w = .ok b1 w := by have := q1 w; rwa [Nat.one_mul] at this
  cases r0 <;> cases r1 <;> cases r2 <;> simp [p1', p2 w, q1', q2 w, e1 w, e2 w, Sem.run_pure, Result.andThen]
theorem EqT.of {t : TypeId} {x y : AV} {r : Bool} (h : EqD P 10000 t (conc x) (conc y) r) (hg : ∀ w op o p, (eqGuard op t o p (conc x) (conc y)).run P w = .ok () w) : EqT P t x y r := fun w => ⟨h w, hg w⟩
theorem eqGuard_agg {t : TypeId} (hg : P.eqGuardType P.depth t = false) (xs ys : List AV) (w : World) (op : BinOp) (o : Operand) (p : Operand) : (eqGuard op t o p (conc (.agg xs)) (conc (.agg ys))).run P w = .ok () w := by
  cases op <;> simp [eqGuard, run_program, hg, conc]
end
end Go.Proofs.Yteomgedahkpnlaa
end
section

namespace Go.Proofs.Yteomgedahkpnlaa
theorem drop1_getD {α : Type} (l : List α) (k : Nat) (d : α) : (l.drop 1).getD k d = l.getD (k + 1) d := by
  rw [List.getD_eq_getElem?_getD, List.getD_eq_getElem?_getD, List.getElem?_drop, Nat.add_comm]
theorem badPs_of {l : List Point} {j : Nat} (hj : j + 1 < l.length) (h : badP (l.getD j default) (l.getD (j + 1) default) = true) : badPs l = true := by
  unfold badPs
  rw [List.any_eq_true]
  exact ⟨j, List.mem_range.2 (by omega), h⟩
theorem badPs_not {l : List Point} (h : ∀ j : Nat, j + 1 < l.length → badP (l.getD j default) (l.getD (j + 1) default) = false) : badPs l = false := by
  unfold badPs
  rw [List.any_eq_false]
  intro j hj
  rw [h j (by have := List.mem_range.1 hj; omega)]
  simp
theorem wild_any {l : List Point} (h : ∀ j : Nat, j < l.length → wildP (l.getD j default) = false) : l.any wildP = false := any_not default h
theorem wild_none {l : List Point} (h : ¬ l.any wildP = true) (j : Nat) (hj : j < l.length) : wildP (l.getD j default) = false := by
  rw [Bool.eq_false_iff]
  exact fun hw => h (any_of default hj hw)
theorem wild_step {l : List Point} {r : Prop} {m : Nat} {g : Bool} (hg : g = true ↔ r ∧ ∀ j : Nat, j < m → wildP (l.getD j default) = false) :
    ((g && (decide (1 ≤ (l.getD m default).cur) && decide ((l.getD m default).cur ≤ 100000000))) &&
      ((decide ((l.getD m default).lo ≤ (l.getD m default).hi) && (decide (1 ≤ (l.getD m default).lo) && decide ((l.getD m default).lo ≤ 100000000))) && (decide (1 ≤ (l.getD m default).hi) && decide ((l.getD m default).hi ≤ 100000000)))) = true ↔
    r ∧ ∀ j : Nat, j < m + 1 → wildP (l.getD j default) = false := by
  have key : wildP (l.getD m default) = false ↔ (decide (1 ≤ (l.getD m default).cur) && decide ((l.getD m default).cur ≤ 100000000)) = true ∧
      ((decide ((l.getD m default).lo ≤ (l.getD m default).hi) && (decide (1 ≤ (l.getD m default).lo) && decide ((l.getD m default).lo ≤ 100000000))) && (decide (1 ≤ (l.getD m default).hi) && decide ((l.getD m default).hi ≤ 100000000))) = true := by
    unfold wildP
    simp only [Bool.or_eq_false_iff, Bool.not_eq_false', Bool.and_eq_true, decide_eq_true_eq]
    omega
  rw [Bool.and_eq_true, Bool.and_eq_true g, hg, and_assoc, ← key, and_assoc]
  constructor
  · rintro ⟨h1, h2, h3⟩
    refine ⟨h1, fun j hj => ?_⟩
    rcases Decidable.em (j = m) with e | e
    · subst e; exact h3
    · exact h2 j (by omega)
  · rintro ⟨h1, h2⟩
    exact ⟨h1, fun j hj => h2 j (by omega), h2 m (by omega)⟩
end Go.Proofs.Yteomgedahkpnlaa
end
section

namespace Go.Proofs.Yteomgedahkpnlaa
abbrev nodeAt (ns : List Node) (i : Nat) : Node := ns.getD i default
def par (ns : List Node) (i : Nat) : Nat := (nodeAt ns i).parent.toNat
def Tree (ns : List Node) : Prop := ∀ i : Nat, 0 < i → i < ns.length → 0 ≤ (nodeAt ns i).parent ∧ (nodeAt ns i).parent < (i : Int)
theorem Tree.par {ns : List Node} (h : Tree ns) {i : Nat} (h0 : 0 < i) (hi : i < ns.length) : par ns i < i ∧ ((par ns i : Nat) : Int) = (nodeAt ns i).parent := by
  have := h i h0 hi
  unfold Go.Proofs.Yteomgedahkpnlaa.par
  omega
def ancN (ns : List Node) : Nat → Nat → List Nat
  | 0, _ => []
  | k + 1, i => if i = 0 then [] else i :: ancN ns k (par ns i)
def anc (ns : List Node) (i : Nat) : List Nat := ancN ns i i
theorem ancN_more {ns : List Node} (ht : Tree ns) : ∀ (k i : Nat), i ≤ k → i < ns.length → ancN ns k i = ancN ns i i := by
  intro k
  induction k using Nat.strongRecOn with
  | ind k ih =>
    intro i hik hi
    rcases Nat.eq_zero_or_pos i with h0 | h0
    · subst h0
      cases k with
      | zero => rfl
      | succ k => rfl
    · obtain ⟨k', rfl⟩ : ∃ k', k = k' + 1 := ⟨k - 1, by omega⟩
      obtain ⟨i', rfl⟩ : ∃ i', i = i' + 1 := ⟨i - 1, by omega⟩
      have hp := ht.par h0 hi
      unfold ancN
      rw [if_neg (by omega), if_neg (by omega)]
      rw [ih k' (by omega) (par ns (i' + 1)) (by omega) (by omega)]
      rw [ih i' (by omega) (par ns (i' + 1)) (by omega) (by omega)]
theorem anc_zero (ns : List Node) : anc ns 0 = [] := rfl
theorem anc_step {ns : List Node} (ht : Tree ns) {i : Nat} (h0 : 0 < i) (hi : i < ns.length) : anc ns i = i :: anc ns (par ns i) := by
  have hp := ht.par h0 hi
  obtain ⟨i', rfl⟩ : ∃ i', i = i' + 1 := ⟨i - 1, by omega⟩
  unfold anc
  conv => lhs; unfold ancN
  rw [if_neg (by omega), ancN_more ht i' _ (by omega) (by omega)]
def nd (ns : List Node) (i j : Nat) : Nat := (anc ns i).getD j 0
theorem nd_zero {ns : List Node} (ht : Tree ns) {i : Nat} (hi : i < ns.length) : nd ns i 0 = i := by
  unfold nd
  rcases Nat.eq_zero_or_pos i with h0 | h0
  · subst h0; rfl
  · rw [anc_step ht h0 hi]; rfl
theorem nd_len (ns : List Node) (i : Nat) : nd ns i (anc ns i).length = 0 := by
  unfold nd
  rw [List.getD_eq_getElem?_getD, List.getElem?_eq_none (Nat.le_refl _)]; rfl
theorem nd_step {ns : List Node} (ht : Tree ns) {i : Nat} (h0 : 0 < i) (hi : i < ns.length) (j : Nat) : nd ns i (j + 1) = nd ns (par ns i) j := by
  unfold nd
  rw [anc_step ht h0 hi]; rfl
theorem nd_all {ns : List Node} (ht : Tree ns) : ∀ (i : Nat), i < ns.length → ∀ j : Nat, j < (anc ns i).length → 0 < nd ns i j ∧ nd ns i j ≤ i ∧ nd ns i (j + 1) = par ns (nd ns i j) := by
  intro i
  induction i using Nat.strongRecOn with
  | ind i ih =>
    intro hi j hj
    rcases Nat.eq_zero_or_pos i with h0 | h0
    · subst h0; simp [anc_zero] at hj
    · have hp := ht.par h0 hi
      cases j with
      | zero =>
        rw [nd_zero ht hi, nd_step ht h0 hi, nd_zero ht (by omega)]
        exact ⟨h0, Nat.le_refl _, rfl⟩
      | succ j =>
        rw [nd_step ht h0 hi, nd_step ht h0 hi]
        have := ih (par ns i) (by omega) (by omega) j (by rw [anc_step ht h0 hi] at hj; simpa using hj)
        omega
theorem nd_pos {ns : List Node} (ht : Tree ns) {i : Nat} (hi : i < ns.length) {j : Nat} (hj : j ≤ (anc ns i).length) : (0 < nd ns i j ↔ j < (anc ns i).length) ∧ nd ns i j < ns.length := by
  rcases Nat.lt_or_ge j (anc ns i).length with h | h
  · have := nd_all ht i hi j h
    omega
  · have e : j = (anc ns i).length := by omega
    subst e
    rw [nd_len]
    omega
theorem anc_length {ns : List Node} (ht : Tree ns) : ∀ (i : Nat), i < ns.length → (anc ns i).length ≤ i := by
  intro i
  induction i using Nat.strongRecOn with
  | ind i ih =>
    intro hi
    rcases Nat.eq_zero_or_pos i with h0 | h0
    · subst h0; simp [anc_zero]
    · have hp := ht.par h0 hi
      rw [anc_step ht h0 hi]
      have := ih _ hp.1 (by omega)
      simp; omega
theorem anc_mem {ns : List Node} (ht : Tree ns) {i c : Nat} (hi : i < ns.length) (h : c ∈ anc ns i) : 0 < c ∧ c ≤ i := by
  obtain ⟨j, hj⟩ := List.getElem?_of_mem h
  have hlt := (List.getElem?_eq_some_iff.1 hj).1
  have := nd_all ht i hi j hlt
  unfold nd at this
  rw [List.getD_eq_getElem?_getD, hj] at this
  simp only [Option.getD_some] at this
  omega
def beh (ns : List Node) (c i : Nat) : Bool := decide (c = 0) || (anc ns i).contains c
theorem beh_iff {ns : List Node} {c i : Nat} : beh ns c i = true ↔ c = 0 ∨ c ∈ anc ns i := by
  unfold beh
  rw [Bool.or_eq_true, decide_eq_true_iff, List.contains_iff_mem]
theorem beh_step {ns : List Node} (ht : Tree ns) {c i : Nat} (h0 : 0 < i) (hi : i < ns.length) : beh ns c i = true ↔ c = i ∨ beh ns c (par ns i) = true := by
  rw [beh_iff, beh_iff, anc_step ht h0 hi, List.mem_cons]
  constructor
  · rintro (h | h | h)
    · exact .inr (.inl h)
    · exact .inl h
    · exact .inr (.inr h)
  · rintro (h | h | h)
    · exact .inr (.inl h)
    · exact .inl h
    · exact .inr (.inr h)
theorem beh_le {ns : List Node} (ht : Tree ns) {c i : Nat} (hi : i < ns.length) (h : beh ns c i = true) : c ≤ i := by
  rw [beh_iff] at h
  rcases h with h | h
  · omega
  · exact (anc_mem ht hi h).2
theorem beh_self {ns : List Node} (ht : Tree ns) {c : Nat} (hc : c < ns.length) : beh ns c c = true := by
  rw [beh_iff]
  rcases Nat.eq_zero_or_pos c with h0 | h0
  · exact .inl h0
  · right; rw [anc_step ht h0 hc]; exact List.mem_cons_self
theorem beh_zero {ns : List Node} {c : Nat} (h : beh ns c 0 = true) : c = 0 := by
  rw [beh_iff, anc_zero] at h
  simpa using h
def kid (ns : List Node) (c i : Nat) : Bool := decide (0 < i) && decide ((nodeAt ns i).parent = (c : Int))
def kids (ns : List Node) (c m : Nat) : List Nat := (List.range m).filter (kid ns c)
theorem kids_succ (ns : List Node) (c m : Nat) : kids ns c (m + 1) = kids ns c m ++ (if kid ns c m = true then [m] else []) := by
  unfold kids
  rw [List.range_succ, List.filter_append]
  congr 1
  rw [List.filter_cons]
  split <;> rfl
def dfs (ns : List Node) : Nat → Nat → List Nat
  | 0, _ => []
  | k + 1, c => c :: (kids ns c ns.length).flatMap (dfs ns k)
def sumN (f : Nat → Int) : Nat → Int
  | 0 => 0
  | n + 1 => sumN f n + f n
theorem sumN_succ (f : Nat → Int) (n : Nat) : sumN f (n + 1) = sumN f n + f n := rfl
theorem sumN_congr {f g : Nat → Int} : ∀ {n : Nat}, (∀ j, j < n → f j = g j) → sumN f n = sumN g n
  | 0, _ => rfl
  | n + 1, h => by rw [sumN_succ, sumN_succ, sumN_congr fun j hj => h j (by omega), h n (by omega)]
theorem sumN_add (f g : Nat → Int) : ∀ n : Nat, sumN (fun j => f j + g j) n = sumN f n + sumN g n
  | 0 => rfl
  | n + 1 => by rw [sumN_succ, sumN_succ, sumN_succ, sumN_add f g n]; omega
theorem sumN_zero {f : Nat → Int} : ∀ {n : Nat}, (∀ j, j < n → f j = 0) → sumN f n = 0
  | 0, _ => rfl
  | n + 1, h => by rw [sumN_succ, sumN_zero fun j hj => h j (by omega), h n (by omega)]; rfl
theorem sumN_swap (f : Nat → Nat → Int) (n : Nat) : ∀ m : Nat, sumN (fun i => sumN (fun j => f i j) n) m = sumN (fun j => sumN (fun i => f i j) m) n
  | 0 => (sumN_zero (n := n) (f := fun j => sumN (fun i => f i j) 0) (fun j _ => rfl)).symm
  | m + 1 => by
    rw [sumN_succ, sumN_swap f n m, ← sumN_add]
    rfl
theorem sumN_one {g : Nat → Int} {c : Nat} : ∀ {n : Nat}, c < n → sumN (fun i => if i = c then g i else 0) n = g c
  | 0, h => by omega
  | n + 1, h => by
    rw [sumN_succ]
    rcases Nat.lt_or_ge c n with h1 | h1
    · rw [sumN_one h1, if_neg (by omega)]; omega
    · have : c = n := by omega
      subst this
      rw [sumN_zero (fun j hj => if_neg (by omega)), if_pos rfl]; omega
theorem sumN_in {f : Nat → Int} {M : Int} : ∀ {n : Nat}, (∀ j, j < n → 0 ≤ f j ∧ f j ≤ M) → 0 ≤ sumN f n ∧ sumN f n ≤ n * M
  | 0, _ => by simp [sumN]
  | n + 1, h => by
    have a := sumN_in (n := n) fun j hj => h j (by omega)
    have b := h n (by omega)
    rw [sumN_succ]
    have : ((n + 1 : Nat) : Int) * M = n * M + M := by rw [Int.natCast_add, Int.add_mul]; simp
    omega
theorem sumN_le {f g : Nat → Int} : ∀ {n : Nat}, (∀ j, j < n → f j ≤ g j) → sumN f n ≤ sumN g n
  | 0, _ => Int.le_refl _
  | n + 1, h => by
    have := sumN_le (n := n) fun j hj => h j (by omega)
    have := h n (by omega)
    rw [sumN_succ, sumN_succ]; omega
theorem one_kid {ns : List Node} (ht : Tree ns) (c : Nat) : ∀ i : Nat, i < ns.length → sumN (fun k => if kid ns c k = true ∧ beh ns k i = true then 1 else 0) ns.length = if beh ns c i = true ∧ i ≠ c then 1 else 0 := by
  intro i
  induction i using Nat.strongRecOn with
  | ind i ih =>
    intro hi
    rcases Nat.eq_zero_or_pos i with h0 | h0
    · subst h0
      rw [if_neg (fun h => h.2 (beh_zero h.1).symm)]
      refine sumN_zero fun k hk => if_neg fun h => ?_
      have := beh_zero h.2
      subst this
      have := h.1
      unfold kid at this
      simp at this
    · have hp := ht.par h0 hi
      have h1 : ∀ k : Nat, k < ns.length → (if kid ns c k = true ∧ beh ns k i = true then (1 : Int) else 0) = (if k = i then (if kid ns c k = true then 1 else 0) else 0) + (if kid ns c k = true ∧ beh ns k (par ns i) = true then 1 else 0) := by
        intro k hk
        by_cases hki : k = i
        · subst hki
          have hn : ¬ beh ns k (par ns k) = true := fun h => by have := beh_le ht (by omega) h; omega
          rw [if_pos rfl, if_neg (show ¬ (kid ns c k = true ∧ beh ns k (par ns k) = true) from fun h => hn h.2)]
          by_cases hkc : kid ns c k = true
          · rw [if_pos ⟨hkc, beh_self ht hk⟩, if_pos hkc]; rfl
          · rw [if_neg (fun h => hkc h.1), if_neg hkc]; rfl
        · rw [if_neg hki, Int.zero_add]
          have hb := beh_step ht (c := k) h0 hi
          by_cases hx : kid ns c k = true ∧ beh ns k (par ns i) = true
          · rw [if_pos hx, if_pos ⟨hx.1, hb.2 (.inr hx.2)⟩]
          · rw [if_neg hx, if_neg]
            rintro ⟨h2, h3⟩
            rcases hb.1 h3 with h4 | h4
            · exact hki h4
            · exact hx ⟨h2, h4⟩
      rw [sumN_congr h1, sumN_add, sumN_one (g := fun k => if kid ns c k = true then 1 else 0) hi, ih _ hp.1 (by omega)]
      have hb := beh_step ht (c := c) h0 hi
      have hkid : kid ns c i = true ↔ par ns i = c := by
        unfold kid
        rw [Bool.and_eq_true, decide_eq_true_iff, decide_eq_true_iff]
        omega
      by_cases hpc : par ns i = c
      · have b1 : beh ns c (par ns i) = true := by rw [hpc]; exact beh_self ht (by omega)
        rw [if_pos (hkid.2 hpc), if_neg (fun h => h.2 hpc), if_pos ⟨hb.2 (.inr b1), by omega⟩]; rfl
      · rw [if_neg (fun h => hpc (hkid.1 h)), Int.zero_add]
        by_cases b1 : beh ns c (par ns i) = true
        · have := beh_le ht (by omega) b1
          rw [if_pos ⟨b1, hpc⟩, if_pos ⟨hb.2 (.inr b1), by omega⟩]
        · rw [if_neg (fun h => b1 h.1), if_neg]
          rintro ⟨h2, h3⟩
          rcases hb.1 h2 with h4 | h4
          · exact h3 h4.symm
          · exact b1 h4
def behS (ns : List Node) (g : Nat → Int) (c : Nat) : Int := sumN (fun i => if beh ns c i = true then g i else 0) ns.length
theorem behS_kids {ns : List Node} (ht : Tree ns) (g : Nat → Int) {c : Nat} (hc : c < ns.length) : behS ns g c = g c + sumN (fun k => if kid ns c k = true then behS ns g k else 0) ns.length := by
  have h1 : sumN (fun k => if kid ns c k = true then behS ns g k else 0) ns.length = sumN (fun k => sumN (fun i => (if kid ns c k = true ∧ beh ns k i = true then 1 else 0) * g i) ns.length) ns.length := by
    refine sumN_congr fun k hk => ?_
    by_cases hkc : kid ns c k = true
    · rw [if_pos hkc]
      unfold behS
      refine sumN_congr fun i hi => ?_
      by_cases hb : beh ns k i = true
      · rw [if_pos hb, if_pos ⟨hkc, hb⟩, Int.one_mul]
      · rw [if_neg hb, if_neg (fun h => hb h.2), Int.zero_mul]
    · rw [if_neg hkc]
      symm
      refine sumN_zero fun i hi => ?_
      rw [if_neg (fun h => hkc h.1), Int.zero_mul]
  rw [h1, sumN_swap]
  have h2 : ∀ i : Nat, i < ns.length → sumN (fun k => (if kid ns c k = true ∧ beh ns k i = true then 1 else 0) * g i) ns.length = if beh ns c i = true ∧ i ≠ c then g i else 0 := by
    intro i hi
    have := one_kid ht c i hi
    have h3 : ∀ (n : Nat) (f : Nat → Int), sumN (fun k => f k * g i) n = sumN f n * g i := fun n f => by
      induction n with
      | zero => simp [sumN]
      | succ n ih => rw [sumN_succ, sumN_succ, ih, Int.add_mul]
    rw [h3, this]
    split
    · rw [Int.one_mul]
    · rw [Int.zero_mul]
  rw [sumN_congr h2]
  unfold behS
  rw [← sumN_one (g := g) hc, ← sumN_add]
  refine sumN_congr fun i hi => ?_
  by_cases hic : i = c
  · subst hic
    rw [if_pos (beh_self ht hi), if_pos rfl, if_neg (fun h => h.2 rfl)]; omega
  · rw [if_neg hic]
    by_cases hb : beh ns c i = true
    · rw [if_pos hb, if_pos ⟨hb, hic⟩]; omega
    · rw [if_neg hb, if_neg (fun h => hb h.1)]; rfl
theorem sum_kids (ns : List Node) (c : Nat) (h : Nat → Int) : ∀ m : Nat, ((kids ns c m).map h).sum = sumN (fun k => if kid ns c k = true then h k else 0) m
  | 0 => rfl
  | m + 1 => by
    rw [kids_succ, List.map_append, List.sum_append, sum_kids ns c h m, sumN_succ]
    split <;> simp
theorem sum_flat (g : Nat → Int) (D : Nat → List Nat) : ∀ l : List Nat, ((l.flatMap D).map g).sum = (l.map fun k => ((D k).map g).sum).sum
  | [] => rfl
  | x :: r => by
    rw [List.flatMap_cons, List.map_append, List.sum_append, sum_flat g D r]
    simp
theorem sum_dfs {ns : List Node} (ht : Tree ns) (g : Nat → Int) : ∀ (k c : Nat), c < ns.length → ns.length ≤ c + k → ((dfs ns k c).map g).sum = behS ns g c
  | 0, c, h1, h2 => by omega
  | k + 1, c, h1, h2 => by
    unfold dfs
    rw [List.map_cons, List.sum_cons, sum_flat, behS_kids ht g h1, sum_kids]
    congr 1
    refine sumN_congr fun i hi => ?_
    by_cases hk : kid ns c i = true
    · rw [if_pos hk, if_pos hk]
      have : c < i := by
        unfold kid at hk
        rw [Bool.and_eq_true, decide_eq_true_iff, decide_eq_true_iff] at hk
        have := ht i hk.1 hi
        omega
      exact sum_dfs ht g k i hi (by omega)
    · rw [if_neg hk, if_neg hk]
theorem mem_dfs {ns : List Node} (ht : Tree ns) : ∀ (k c : Nat), c < ns.length → ns.length ≤ c + k → ∀ i : Nat, i ∈ dfs ns k c ↔ i < ns.length ∧ beh ns c i = true
  | 0, c, h1, h2, i => by omega
  | k + 1, c, h1, h2, i => by
    unfold dfs
    rw [List.mem_cons, List.mem_flatMap]
    have kc : ∀ j, j ∈ kids ns c ns.length ↔ j < ns.length ∧ kid ns c j = true := fun j => by unfold kids; rw [List.mem_filter, List.mem_range]
    have kgt : ∀ j, j < ns.length → kid ns c j = true → c < j ∧ par ns j = c ∧ 0 < j := fun j hj hk => by
      unfold kid at hk
      rw [Bool.and_eq_true, decide_eq_true_iff, decide_eq_true_iff] at hk
      have := ht j hk.1 hj
      have := ht.par hk.1 hj
      omega
    constructor
    · rintro (h | ⟨j, hj, hi⟩)
      · subst h; exact ⟨h1, beh_self ht h1⟩
      · obtain ⟨hj1, hj2⟩ := (kc j).1 hj
        obtain ⟨g1, g2, g3⟩ := kgt j hj1 hj2
        obtain ⟨h3, h4⟩ := (mem_dfs ht k j hj1 (by omega) i).1 hi
        refine ⟨h3, ?_⟩
        have up : ∀ i : Nat, i < ns.length → beh ns j i = true → beh ns c i = true := by
          intro i
          induction i using Nat.strongRecOn with
          | ind i ih =>
            intro hi hb
            rcases Nat.eq_zero_or_pos i with h0 | h0
            · subst h0; have := beh_zero hb; omega
            · have hp := ht.par h0 hi
              rcases (beh_step ht h0 hi).1 hb with e | e
              · subst e
                exact (beh_step ht h0 hi).2 (.inr (by rw [g2]; exact beh_self ht h1))
              · exact (beh_step ht h0 hi).2 (.inr (ih _ hp.1 (by omega) e))
        exact up i h3 h4
    · rintro ⟨hi, hb⟩
      by_cases hic : i = c
      · exact .inl hic
      · right
        have := one_kid ht c i hi
        rw [if_pos ⟨hb, hic⟩] at this
        have hex : ∃ j, j < ns.length ∧ kid ns c j = true ∧ beh ns j i = true := by
          refine Classical.byContradiction fun hn => ?_
          rw [sumN_zero (fun j hj => if_neg fun h => hn ⟨j, hj, h⟩)] at this
          omega
        obtain ⟨j, j1, j2, j3⟩ := hex
        have g := kgt j j1 j2
        exact ⟨j, (kc j).2 ⟨j1, j2⟩, (mem_dfs ht k j j1 (by omega) i).2 ⟨hi, j3⟩⟩
end Go.Proofs.Yteomgedahkpnlaa
end
section

namespace Go.Proofs.Yteomgedahkpnlaa
abbrev cabAt (f : Feeder) (i : Nat) : Cable := f.cables.getD i default
abbrev fusAt (f : Feeder) (i : Nat) : Fuse := f.fuses.getD i default
structure GC (x : Cable) : Prop where
  core : 1 ≤ x.coreLo ∧ x.coreLo ≤ x.coreHi ∧ x.coreHi ≤ 1000000
  earth : 1 ≤ x.earthLo ∧ x.earthLo ≤ x.earthHi ∧ x.earthHi ≤ 1000000
  rated : 1 ≤ x.rated ∧ x.rated ≤ 100000000
structure GU (x : Fuse) : Prop where
  len : 1 ≤ x.points.length ∧ x.points.length ≤ 8
  rated : 1 ≤ x.rated ∧ x.rated ≤ 100000000
  wild : ∀ j : Nat, j < x.points.length → wildP (x.points.getD j default) = false
  bad : ∀ j : Nat, j + 1 < x.points.length → badP (x.points.getD j default) (x.points.getD (j + 1) default) = false
structure GN (f : Feeder) (i : Nat) (x : Node) : Prop where
  parent : 0 ≤ x.parent ∧ x.parent ≤ (i : Int) - 1
  cable : 0 ≤ x.cable ∧ x.cable < (f.cables.length : Int)
  fuse : -1 ≤ x.fuse ∧ x.fuse < (f.fuses.length : Int)
  length : 1 ≤ x.length ∧ x.length ≤ 5000
  load0 : 0 ≤ x.lo0 ∧ x.lo0 ≤ x.hi0 ∧ x.hi0 ≤ 1000000
  load1 : 0 ≤ x.lo1 ∧ x.lo1 ≤ x.hi1 ∧ x.hi1 ≤ 1000000
  load2 : 0 ≤ x.lo2 ∧ x.lo2 ≤ x.hi2 ∧ x.hi2 ≤ 1000000
structure FG (f : Feeder) : Prop where
  nn : 1 ≤ f.nodes.length ∧ f.nodes.length ≤ 40
  nc : f.cables.length ≤ 10
  nf : f.fuses.length ≤ 10
  volts : 1 ≤ f.vLo ∧ f.vLo ≤ f.vHi ∧ f.vHi ≤ 1000000
  src : 1 ≤ f.sLo ∧ f.sLo ≤ f.sHi ∧ f.sHi ≤ 1000000000
  drop : 0 ≤ f.drop ∧ f.drop ≤ 1000000
  limit : 1 ≤ f.limit ∧ f.limit ≤ 100000000
  cab : ∀ i : Nat, i < f.cables.length → GC (cabAt f i)
  fus : ∀ i : Nat, i < f.fuses.length → GU (fusAt f i)
  nod : ∀ i : Nat, 0 < i → i < f.nodes.length → GN f i (nodeAt f.nodes i)
  root : (nodeAt f.nodes 0).fuse = -1 ∧ (nodeAt f.nodes 0).lo0 = 0 ∧ (nodeAt f.nodes 0).hi0 = 0 ∧ (nodeAt f.nodes 0).lo1 = 0 ∧ (nodeAt f.nodes 0).hi1 = 0 ∧ (nodeAt f.nodes 0).lo2 = 0 ∧ (nodeAt f.nodes 0).hi2 = 0
theorem FG.tree {f : Feeder} (g : FG f) : Tree f.nodes := fun i h0 hi => by
  have := (g.nod i h0 hi).parent
  omega
theorem errOf_zero {n : ByteArray} {b : Bool} {e : Int} (h : errOf n b e = 0) : e = 0 := by
  unfold errOf at h
  split at h; · omega
  split at h; · omega
  exact h
theorem FG.of {f : Feeder} (h : (check f).2.2 = 0) : FG f := by
  unfold check at h
  split at h; · rename_i h1; exact absurd h h1
  split at h; · rename_i h1; exact absurd h h1
  split at h; · rename_i h1; exact absurd h h1
  split at h; · rename_i h1; exact absurd h h1
  rename_i h1 h2 h3 h4
  have hh := Decidable.not_not.1 h1
  unfold headErr at hh
  split at hh; · omega
  split at hh; · omega
  split at hh; · omega
  rename_i k1 k2 k3
  have c := firstErr_zero _ _ (Decidable.not_not.1 h2)
  have u := firstErr_zero _ _ (Decidable.not_not.1 h3)
  have n := firstErr_zero _ _ (Decidable.not_not.1 h4)
  have hN : ∀ i : Nat, i < f.nodes.length → nodeErr f i (nodeAt f.nodes i) = 0 := fun i hi => errOf_zero (n i (Nat.zero_le _) (by omega))
  refine ⟨by omega, by omega, by omega, by omega, by omega, by omega, by omega, fun i hi => ?_, fun i hi => ?_, fun i h0 hi => ?_, ?_⟩
  · show GC (f.cables.getD i default)
    have e := errOf_zero (c i (Nat.zero_le _) (by omega))
    unfold cableErr at e
    split at e; · omega
    exact ⟨by omega, by omega, by omega⟩
  · show GU (f.fuses.getD i default)
    have e := errOf_zero (u i (Nat.zero_le _) (by omega))
    unfold fuseErr at e
    split at e; · omega
    split at e; · omega
    split at e; · omega
    rename_i e1 e2 e3
    refine ⟨by omega, ?_, fun j hj => ?_, fun j hj => ?_⟩
    · exact Decidable.not_not.1 fun hn => e2 (.inl hn)
    · exact wild_none (fun hw => e2 (.inr hw)) j hj
    · rw [Bool.eq_false_iff]
      exact fun hb => e3 (badPs_of hj hb)
  · have e := hN i hi
    unfold nodeErr at e
    rw [if_neg (by omega)] at e
    split at e; · omega
    split at e; · omega
    exact ⟨by omega, by omega, by omega, by omega, by omega, by omega, by omega⟩
  · have e := hN 0 (by omega)
    unfold nodeErr at e
    rw [if_pos rfl] at e
    split at e
    · omega
    · omega
structure Cur where
  l0 : Int
  h0 : Int
  l1 : Int
  h1 : Int
  l2 : Int
  h2 : Int
abbrev Cur.av (x : Cur) : AV := .agg [I x.l0, I x.h0, I x.l1, I x.h1, I x.l2, I x.h2]
def curOf (f : Feeder) (l : List Nat) : Cur where
  l0 := (l.map fun i => (nodeAt f.nodes i).lo0).sum
  h0 := (l.map fun i => (nodeAt f.nodes i).hi0).sum
  l1 := (l.map fun i => (nodeAt f.nodes i).lo1).sum
  h1 := (l.map fun i => (nodeAt f.nodes i).hi1).sum
  l2 := (l.map fun i => (nodeAt f.nodes i).lo2).sum
  h2 := (l.map fun i => (nodeAt f.nodes i).hi2).sum
def cur (f : Feeder) (c : Nat) : Cur := curOf f (dfs f.nodes f.nodes.length c)
theorem sum_snoc (l : List Nat) (g : Nat → Int) (i : Nat) : ((l ++ [i]).map g).sum = (l.map g).sum + g i := by
  rw [List.map_append, List.sum_append]; simp
theorem curOf_snoc (f : Feeder) (l : List Nat) (i : Nat) : curOf f (l ++ [i]) = ⟨(curOf f l).l0 + (nodeAt f.nodes i).lo0, (curOf f l).h0 + (nodeAt f.nodes i).hi0, (curOf f l).l1 + (nodeAt f.nodes i).lo1, (curOf f l).h1 + (nodeAt f.nodes i).hi1, (curOf f l).l2 + (nodeAt f.nodes i).lo2, (curOf f l).h2 + (nodeAt f.nodes i).hi2⟩ := by
  unfold curOf
  simp only [sum_snoc]
theorem FG.load {f : Feeder} (g : FG f) {i : Nat} (hi : i < f.nodes.length) : (0 ≤ (nodeAt f.nodes i).lo0 ∧ (nodeAt f.nodes i).lo0 ≤ (nodeAt f.nodes i).hi0 ∧ (nodeAt f.nodes i).hi0 ≤ 1000000) ∧ (0 ≤ (nodeAt f.nodes i).lo1 ∧ (nodeAt f.nodes i).lo1 ≤ (nodeAt f.nodes i).hi1 ∧ (nodeAt f.nodes i).hi1 ≤ 1000000) ∧ (0 ≤ (nodeAt f.nodes i).lo2 ∧ (nodeAt f.nodes i).lo2 ≤ (nodeAt f.nodes i).hi2 ∧ (nodeAt f.nodes i).hi2 ≤ 1000000) := by
  rcases Nat.eq_zero_or_pos i with h0 | h0
  · subst h0
    have := g.root
    omega
  · have := g.nod i h0 hi
    exact ⟨this.load0, this.load1, this.load2⟩
theorem sum_in {l : List Nat} {g : Nat → Int} {n : Nat} (h : ∀ i, i < n → 0 ≤ g i ∧ g i ≤ 1000000) (hl : ∀ i ∈ l, i < n) : 0 ≤ (l.map g).sum ∧ (l.map g).sum ≤ 1000000 * (l.length : Int) := by
  induction l with
  | nil => simp
  | cons x r ih =>
    have a := ih (fun i hi => hl i (List.mem_cons_of_mem _ hi))
    have b := h x (hl x List.mem_cons_self)
    simp only [List.map_cons, List.sum_cons, List.length_cons]
    omega
def Cur.In (x : Cur) (M : Int) : Prop := (0 ≤ x.l0 ∧ x.l0 ≤ M) ∧ (0 ≤ x.h0 ∧ x.h0 ≤ M) ∧ (0 ≤ x.l1 ∧ x.l1 ≤ M) ∧ (0 ≤ x.h1 ∧ x.h1 ≤ M) ∧ (0 ≤ x.l2 ∧ x.l2 ≤ M) ∧ (0 ≤ x.h2 ∧ x.h2 ≤ M)
theorem FG.curOf_in {f : Feeder} (g : FG f) {l : List Nat} (hl : ∀ i ∈ l, i < f.nodes.length) : (curOf f l).In (1000000 * (l.length : Int)) := by
  have a := fun i (hi : i < f.nodes.length) => g.load hi
  exact ⟨sum_in (fun i hi => by have := a i hi; omega) hl, sum_in (fun i hi => by have := a i hi; omega) hl, sum_in (fun i hi => by have := a i hi; omega) hl, sum_in (fun i hi => by have := a i hi; omega) hl, sum_in (fun i hi => by have := a i hi; omega) hl, sum_in (fun i hi => by have := a i hi; omega) hl⟩
theorem dfs_length {ns : List Node} (ht : Tree ns) {k c : Nat} (h1 : c < ns.length) (h2 : ns.length ≤ c + k) : (dfs ns k c).length ≤ ns.length := by
  have h := sum_dfs ht (fun _ => 1) k c h1 h2
  have e : ∀ l : List Nat, (l.map fun _ => (1 : Int)).sum = (l.length : Int) := fun l => by
    induction l with
    | nil => rfl
    | cons x r ih => simp only [List.map_cons, List.sum_cons, List.length_cons, ih]; omega
  rw [e] at h
  have b : behS ns (fun _ => 1) c ≤ sumN (fun _ => 1) ns.length := sumN_le fun j hj => by show (if _ then (1 : Int) else 0) ≤ 1; split <;> omega
  have c1 : ∀ n : Nat, sumN (fun _ => 1) n = n := fun n => by
    induction n with
    | zero => rfl
    | succ n ih => rw [sumN_succ, ih]; omega
  rw [c1] at b
  omega
theorem FG.cur_in {f : Feeder} (g : FG f) {c : Nat} (hc : c < f.nodes.length) : (cur f c).In 40000000 := by
  have h := g.curOf_in (l := dfs f.nodes f.nodes.length c) fun i hi => ((mem_dfs g.tree _ _ hc (by omega) i).1 hi).1
  have hl := dfs_length g.tree (k := f.nodes.length) hc (by omega)
  have n := g.nn
  unfold cur
  unfold Cur.In at *
  omega
theorem kk_true {ns : List Node} (pre : List Nat) {c i : Nat} (k : Nat) (h : kid ns c i = true) : (pre ++ (c :: (kids ns c i).flatMap (dfs ns k))) ++ dfs ns k i = pre ++ (c :: (kids ns c (i + 1)).flatMap (dfs ns k)) := by
  rw [kids_succ, if_pos h, List.flatMap_append]; simp
theorem kk_false {ns : List Node} (pre : List Nat) {c i : Nat} (k : Nat) (h : ¬ kid ns c i = true) : pre ++ (c :: (kids ns c i).flatMap (dfs ns k)) = pre ++ (c :: (kids ns c (i + 1)).flatMap (dfs ns k)) := by
  rw [kids_succ, if_neg h]; simp
theorem kk_len {ns : List Node} (pre : List Nat) {c i : Nat} (k : Nat) (h : kid ns c i = true) (hi : i < ns.length) : (pre ++ (c :: (kids ns c i).flatMap (dfs ns k))).length + (dfs ns k i).length ≤ pre.length + (dfs ns (k + 1) c).length := by
  have e : ∀ m : Nat, i < m → (kids ns c i).flatMap (dfs ns k) ++ dfs ns k i <+: (kids ns c m).flatMap (dfs ns k) := by
    intro m
    induction m with
    | zero => omega
    | succ m ih =>
      intro him
      rw [kids_succ, List.flatMap_append]
      rcases Nat.lt_or_ge i m with h1 | h1
      · exact (ih h1).trans (List.prefix_append _ _)
      · have : i = m := by omega
        subst this
        rw [if_pos h]
        simp
  have := (e ns.length hi).length_le
  simp only [List.length_append] at this
  rw [show dfs ns (k + 1) c = c :: (kids ns c ns.length).flatMap (dfs ns k) from rfl]
  simp only [List.length_append, List.length_cons]
  omega
theorem kk_mem {ns : List Node} (ht : Tree ns) {pre : List Nat} {c k i : Nat} (hc : c < ns.length) (hk : ns.length ≤ c + (k + 1)) (hpre : ∀ x ∈ pre, x < ns.length) (hi : i ≤ ns.length) : ∀ x ∈ pre ++ (c :: (kids ns c i).flatMap (dfs ns k)), x < ns.length := by
  intro x hx
  rcases List.mem_append.1 hx with hx | hx
  · exact hpre x hx
  rcases List.mem_cons.1 hx with hx | hx
  · subst hx; exact hc
  obtain ⟨j, hj, hx⟩ := List.mem_flatMap.1 hx
  unfold kids at hj
  rw [List.mem_filter, List.mem_range] at hj
  have hkid := hj.2
  unfold kid at hkid
  rw [Bool.and_eq_true, decide_eq_true_iff, decide_eq_true_iff] at hkid
  have := ht j hkid.1 (by omega)
  exact ((mem_dfs ht k j (by omega) (by omega) x).1 hx).1
theorem kid_lt {ns : List Node} (ht : Tree ns) {c i : Nat} (hi : i < ns.length) (h : kid ns c i = true) : c < i := by
  unfold kid at h
  rw [Bool.and_eq_true, decide_eq_true_iff, decide_eq_true_iff] at h
  have := ht i h.1 hi
  omega
theorem kid_iff {ns : List Node} {c i : Nat} : kid ns c i = true ↔ 0 < (i : Int) ∧ (ns.getD i default).parent = (c : Int) := by
  unfold kid
  rw [Bool.and_eq_true, decide_eq_true_iff, decide_eq_true_iff]
  exact ⟨fun h => ⟨by omega, h.2⟩, fun h => ⟨by omega, h.2⟩⟩
def bitOf : Nat → Int
  | 0 => 0
  | k + 1 => 2 ^ k
theorem bitOf_half (k : Nat) : (bitOf (k + 1)).tdiv 2 = bitOf k := by
  cases k with
  | zero => rfl
  | succ k =>
    show ((2 : Int) ^ (k + 1)).tdiv 2 = 2 ^ k
    rw [Int.pow_succ, Int.mul_tdiv_cancel _ (by decide)]
theorem bitOf_pos (k : Nat) : 0 < bitOf (k + 1) := Int.pow_pos (by decide)
theorem bitOf_le {k : Nat} (h : k ≤ 31) : 0 ≤ bitOf k ∧ bitOf k ≤ 1073741824 := by
  have h2 : ∀ j : Fin 32, 0 ≤ bitOf j.val ∧ bitOf j.val ≤ 1073741824 := by decide
  exact h2 ⟨k, by omega⟩
theorem sq_lt {a b : Int} (h : a * a < b * b) (hb : 0 ≤ b) : a < b := by
  rcases Int.lt_or_le a b with h1 | h1
  · exact h1
  · have := Int.mul_le_mul h1 h1 hb (by omega); omega
theorem sq_le {a b : Int} (ha : 0 ≤ a) (h : a ≤ b) : a * a ≤ b * b := Int.mul_le_mul h h ha (by omega)
theorem two_bit (j : Nat) : 2 * bitOf j ≤ bitOf (j + 1) := by
  cases j with
  | zero => decide
  | succ j =>
    show 2 * (2 : Int) ^ j ≤ 2 ^ (j + 1)
    rw [Int.pow_succ]; omega
def rtS (n : Int) : Nat → Int → Int
  | 0, r => r
  | k + 1, r => rtS n k (if (r + 2 ^ k) * (r + 2 ^ k) < n then r + 2 ^ k else r)
theorem rtS_spec {n : Int} : ∀ (k : Nat) (r : Int), 0 ≤ r → (r = 0 ∨ r * r < n) → n ≤ (r + 2 ^ k) * (r + 2 ^ k) → 0 ≤ rtS n k r ∧ (rtS n k r = 0 ∨ rtS n k r * rtS n k r < n) ∧ n ≤ (rtS n k r + 1) * (rtS n k r + 1)
  | 0, r, h0, h1, h2 => ⟨h0, h1, by show n ≤ (r + 1) * (r + 1); simpa using h2⟩
  | k + 1, r, h0, h1, h2 => by
    have e : (2 : Int) ^ (k + 1) = 2 ^ k + 2 ^ k := by rw [Int.pow_succ]; omega
    have p : (0 : Int) < 2 ^ k := Int.pow_pos (by decide)
    unfold rtS
    split
    · rename_i h
      refine rtS_spec k _ (by omega) (.inr h) ?_
      rw [e] at h2
      rw [Int.add_assoc]; exact h2
    · rename_i h
      exact rtS_spec k r h0 h1 (by omega)
def rup (n : Int) : Int := if rtS n 31 0 * rtS n 31 0 < n then rtS n 31 0 + 1 else rtS n 31 0
theorem rup_spec {n : Int} (h0 : 0 ≤ n) (h1 : n ≤ 4611686018427387904) : 0 ≤ rup n ∧ n ≤ rup n * rup n ∧ (rup n = 0 ∨ (rup n - 1) * (rup n - 1) < n) := by
  obtain ⟨a, b, c⟩ := rtS_spec 31 0 (Int.le_refl _) (.inl rfl) (by simpa using h1)
  unfold rup
  split
  · rename_i h
    refine ⟨by omega, c, .inr ?_⟩
    rw [Int.add_sub_cancel]; exact h
  · rename_i h
    refine ⟨a, by omega, ?_⟩
    rcases b with b | b
    · exact .inl b
    · exact absurd b h
theorem rup_le {n M : Int} (h0 : 0 ≤ n) (hM : 0 ≤ M) (h : n ≤ M * M) (h1 : n ≤ 4611686018427387904) : rup n ≤ M := by
  obtain ⟨a0, a1, a2⟩ := rup_spec h0 h1
  rcases a2 with a2 | a2
  · omega
  · have := sq_lt (a := rup n - 1) (b := M) (by omega) hM; omega
def pk (a b : Int) (i : Nat) : Int := if i = 0 then a else b
def nq (x : Cur) (i j k : Nat) : Int := pk x.l0 x.h0 i * pk x.l0 x.h0 i + pk x.l1 x.h1 j * pk x.l1 x.h1 j + pk x.l2 x.h2 k * pk x.l2 x.h2 k - pk x.l0 x.h0 i * pk x.l1 x.h1 j - pk x.l1 x.h1 j * pk x.l2 x.h2 k - pk x.l2 x.h2 k * pk x.l0 x.h0 i
def it (F : Nat → Int → Int) : Nat → Int → Int
  | 0, m => m
  | n + 1, m => F n (it F n m)
def n3 (x : Cur) (i j : Nat) (k : Nat) (m : Int) : Int := max m (nq x i j k)
def n2 (x : Cur) (i : Nat) (j : Nat) (m : Int) : Int := it (n3 x i j) 2 m
def n1 (x : Cur) (i : Nat) (m : Int) : Int := it (n2 x i) 2 m
def neutQ (x : Cur) : Int := it (n1 x) 2 0
def neut (x : Cur) : Int := rup (neutQ x)
theorem nq_half (a b c : Int) : ((a - b) * (a - b) + (b - c) * (b - c) + (c - a) * (c - a)).tdiv 2 = a * a + b * b + c * c - a * b - b * c - c * a := by
  have e : (a - b) * (a - b) + (b - c) * (b - c) + (c - a) * (c - a) = (a * a + b * b + c * c - a * b - b * c - c * a) * 2 := by grind
  rw [e, Int.mul_tdiv_cancel _ (by decide)]
def Great (x : Cur) (m : Int) : Prop := (∀ i j k : Nat, i < 2 → j < 2 → k < 2 → nq x i j k ≤ m) ∧ 0 ≤ m ∧ (m = 0 ∨ ∃ i j k : Nat, i < 2 ∧ j < 2 ∧ k < 2 ∧ m = nq x i j k)
theorem neutQ_great (x : Cur) : Great x (neutQ x) := by
  have e : neutQ x = max (max (max (max (max (max (max (max 0 (nq x 0 0 0)) (nq x 0 0 1)) (nq x 0 1 0)) (nq x 0 1 1)) (nq x 1 0 0)) (nq x 1 0 1)) (nq x 1 1 0)) (nq x 1 1 1) := rfl
  have two : ∀ i : Nat, i < 2 → i = 0 ∨ i = 1 := fun i hi => by omega
  have ub : ∀ (a b c : Int), a ≤ c → b ≤ c → max a b ≤ c := fun a b c h1 h2 => by omega
  refine ⟨fun i j k hi hj hk => ?_, ?_, ?_⟩
  · rw [e]
    rcases two i hi with rfl | rfl <;> rcases two j hj with rfl | rfl <;> rcases two k hk with rfl | rfl <;> omega
  · rw [e]; omega
  ·
    have pick : ∀ a b : Int, max a b = a ∨ max a b = b := fun a b => by omega
    rw [e]
    rcases pick (max (max (max (max (max (max (max 0 (nq x 0 0 0)) (nq x 0 0 1)) (nq x 0 1 0)) (nq x 0 1 1)) (nq x 1 0 0)) (nq x 1 0 1)) (nq x 1 1 0)) (nq x 1 1 1) with h | h <;> rw [h]
    · rcases pick (max (max (max (max (max (max 0 (nq x 0 0 0)) (nq x 0 0 1)) (nq x 0 1 0)) (nq x 0 1 1)) (nq x 1 0 0)) (nq x 1 0 1)) (nq x 1 1 0) with h | h <;> rw [h]
      · rcases pick (max (max (max (max (max 0 (nq x 0 0 0)) (nq x 0 0 1)) (nq x 0 1 0)) (nq x 0 1 1)) (nq x 1 0 0)) (nq x 1 0 1) with h | h <;> rw [h]
        · rcases pick (max (max (max (max 0 (nq x 0 0 0)) (nq x 0 0 1)) (nq x 0 1 0)) (nq x 0 1 1)) (nq x 1 0 0) with h | h <;> rw [h]
          · rcases pick (max (max (max 0 (nq x 0 0 0)) (nq x 0 0 1)) (nq x 0 1 0)) (nq x 0 1 1) with h | h <;> rw [h]
            · rcases pick (max (max 0 (nq x 0 0 0)) (nq x 0 0 1)) (nq x 0 1 0) with h | h <;> rw [h]
              · rcases pick (max 0 (nq x 0 0 0)) (nq x 0 0 1) with h | h <;> rw [h]
                · rcases pick 0 (nq x 0 0 0) with h | h <;> rw [h]
                  · exact .inl rfl
                  · exact .inr ⟨0, 0, 0, by decide, by decide, by decide, rfl⟩
                · exact .inr ⟨0, 0, 1, by decide, by decide, by decide, rfl⟩
              · exact .inr ⟨0, 1, 0, by decide, by decide, by decide, rfl⟩
            · exact .inr ⟨0, 1, 1, by decide, by decide, by decide, rfl⟩
          · exact .inr ⟨1, 0, 0, by decide, by decide, by decide, rfl⟩
        · exact .inr ⟨1, 0, 1, by decide, by decide, by decide, rfl⟩
      · exact .inr ⟨1, 1, 0, by decide, by decide, by decide, rfl⟩
    · exact .inr ⟨1, 1, 1, by decide, by decide, by decide, rfl⟩
theorem nq_le {x : Cur} {M : Int} (h : x.In M) (hM : 0 ≤ M) {i j k : Nat} : nq x i j k ≤ M * M + M * M + M * M := by
  have hp : ∀ (a b : Int) (i : Nat), (0 ≤ a ∧ a ≤ M) → (0 ≤ b ∧ b ≤ M) → 0 ≤ pk a b i ∧ pk a b i ≤ M := fun a b i ha hb => by unfold pk; split <;> assumption
  obtain ⟨a0, a1, a2, a3, a4, a5⟩ := h
  have p := hp _ _ i a0 a1
  have q := hp _ _ j a2 a3
  have r := hp _ _ k a4 a5
  unfold nq
  generalize pk x.l0 x.h0 i = a at *
  generalize pk x.l1 x.h1 j = b at *
  generalize pk x.l2 x.h2 k = c at *
  have s1 := sq_le p.1 p.2
  have s2 := sq_le q.1 q.2
  have s3 := sq_le r.1 r.2
  have t1 := Int.mul_nonneg p.1 q.1
  have t2 := Int.mul_nonneg q.1 r.1
  have t3 := Int.mul_nonneg r.1 p.1
  omega
theorem pk_in {a b M : Int} (i : Nat) (ha : 0 ≤ a ∧ a ≤ M) (hb : 0 ≤ b ∧ b ≤ M) : 0 ≤ pk a b i ∧ pk a b i ≤ M := by
  unfold pk
  split <;> assumption
theorem nq_nonneg (x : Cur) (i j k : Nat) : 0 ≤ nq x i j k := by
  have e := nq_half (pk x.l0 x.h0 i) (pk x.l1 x.h1 j) (pk x.l2 x.h2 k)
  unfold nq
  rw [← e]
  have sq : ∀ a : Int, 0 ≤ a * a := fun a => by
    rcases Int.le_total 0 a with h | h
    · exact Int.mul_nonneg h h
    · have := Int.mul_nonneg (show 0 ≤ -a by omega) (show 0 ≤ -a by omega)
      rwa [Int.neg_mul_neg] at this
  exact Int.tdiv_nonneg (by have := sq (pk x.l0 x.h0 i - pk x.l1 x.h1 j); have := sq (pk x.l1 x.h1 j - pk x.l2 x.h2 k); have := sq (pk x.l2 x.h2 k - pk x.l0 x.h0 i); omega) (by decide)
theorem nq_bound {x : Cur} (h : x.In 40000000) {i j k : Nat} : 0 ≤ nq x i j k ∧ nq x i j k ≤ 4800000000000000 := by
  have := nq_le h (by decide) (i := i) (j := j) (k := k)
  exact ⟨nq_nonneg x i j k, by omega⟩
theorem neutQ_in {x : Cur} (h : x.In 40000000) : 0 ≤ neutQ x ∧ neutQ x ≤ 4800000000000000 := by
  obtain ⟨a, b, c⟩ := neutQ_great x
  refine ⟨b, ?_⟩
  rcases c with c | ⟨i, j, k, _, _, _, c⟩
  · omega
  · rw [c]
    have := nq_le h (by decide) (i := i) (j := j) (k := k)
    omega
theorem neut_in {x : Cur} (h : x.In 40000000) : 0 ≤ neut x ∧ neut x ≤ 70000000 := by
  have a := neutQ_in h
  unfold neut
  exact ⟨(rup_spec a.1 (by omega)).1, rup_le a.1 (by decide) (by omega) (by omega)⟩
end Go.Proofs.Yteomgedahkpnlaa
end
section

namespace Go.Proofs.Yteomgedahkpnlaa
theorem nd_up {ns : List Node} (ht : Tree ns) {i j : Nat} (hi : i < ns.length) (hj : j < (anc ns i).length) : ((nd ns i (j + 1) : Nat) : Int) = (nodeAt ns (nd ns i j)).parent := by
  have a := nd_all ht i hi j hj
  have b := nd_pos ht hi (Nat.le_of_lt hj)
  rw [a.2.2, (ht.par a.1 b.2).2]
theorem FG.anc_len {f : Feeder} (g : FG f) {c : Nat} (hc : c < f.nodes.length) : (anc f.nodes c).length < 40 := by
  have := anc_length g.tree c hc
  have := g.nn
  omega
theorem FG.at_ {f : Feeder} (g : FG f) {c j : Nat} (hc : c < f.nodes.length) (hj : j < (anc f.nodes c).length) : nd f.nodes c j < f.nodes.length ∧ 0 < nd f.nodes c j ∧ GN f (nd f.nodes c j) (f.nodes.getD (nd f.nodes c j) default) := by
  have a := nd_all g.tree c hc j hj
  have b := nd_pos g.tree hc (Nat.le_of_lt hj)
  exact ⟨b.2, a.1, g.nod _ a.1 b.2⟩
theorem FG.cab_of {f : Feeder} (g : FG f) {i : Nat} {x : Node} (h : GN f i x) : x.cable.toNat < f.cables.length ∧ GC (f.cables.getD x.cable.toNat default) := by
  have := h.cable
  exact ⟨by omega, g.cab _ (by omega)⟩
def Cur.hi (x : Cur) (p : Int) : Int := if p = 0 then x.h0 else if p = 1 then x.h1 else x.h2
def Cur.lo (x : Cur) (p : Int) : Int := if p = 0 then x.l0 else if p = 1 then x.l1 else x.l2
theorem Cur.hi_in {x : Cur} {M : Int} (h : x.In M) (p : Int) : 0 ≤ x.hi p ∧ x.hi p ≤ M := by
  unfold Cur.In at h
  unfold Cur.hi
  split
  · omega
  · split <;> omega
def metre (f : Feeder) (i : Nat) : Int := (nodeAt f.nodes i).length * (f.cables.getD (nodeAt f.nodes i).cable.toNat default).coreHi
def amp (f : Feeder) (p : Int) (i : Nat) : Int := (cur f i).hi p + neut (cur f i)
theorem FG.metre_in {f : Feeder} (g : FG f) {i : Nat} (h : GN f i (nodeAt f.nodes i)) : 0 ≤ metre f i ∧ metre f i ≤ 5000000000 := by
  have a := h.length
  have b := (g.cab_of h).2.core
  have := mulB 5000 1000000 (a := (nodeAt f.nodes i).length) (b := (f.cables.getD (nodeAt f.nodes i).cable.toNat default).coreHi) (by omega) (by omega)
  have := Int.mul_nonneg (show 0 ≤ (nodeAt f.nodes i).length by omega) (show 0 ≤ (f.cables.getD (nodeAt f.nodes i).cable.toNat default).coreHi by omega)
  unfold metre
  omega
theorem FG.amp_in {f : Feeder} (g : FG f) {i : Nat} (hi : i < f.nodes.length) (p : Int) : 0 ≤ amp f p i ∧ amp f p i ≤ 110000000 := by
  have a := g.cur_in hi
  have b := Cur.hi_in a p
  have c := neut_in a
  unfold amp
  omega
def dropA (f : Feeder) (p : Int) (c j : Nat) : Int := (metre f (nd f.nodes c j)).tdiv 1000000 * amp f p (nd f.nodes c j)
def dropB (f : Feeder) (p : Int) (c j : Nat) : Int := (metre f (nd f.nodes c j)).tmod 1000000 * amp f p (nd f.nodes c j)
def dropOf (f : Feeder) (p : Int) (c : Nat) : Int := sumN (dropA f p c) (anc f.nodes c).length + (sumN (dropB f p c) (anc f.nodes c).length + 1000000 - 1).tdiv 1000000
theorem FG.dropA_in {f : Feeder} (g : FG f) (p : Int) {c j : Nat} (hc : c < f.nodes.length) (hj : j < (anc f.nodes c).length) : 0 ≤ dropA f p c j ∧ dropA f p c j ≤ 550000000000 := by
  obtain ⟨a1, a2, a3⟩ := g.at_ hc hj
  have m := g.metre_in a3
  have b := g.amp_in a1 p
  have t : 0 ≤ (metre f (nd f.nodes c j)).tdiv 1000000 ∧ (metre f (nd f.nodes c j)).tdiv 1000000 ≤ 5000 := by rw [Int.tdiv_eq_ediv_of_nonneg m.1]; omega
  have := mulB 5000 110000000 (a := (metre f (nd f.nodes c j)).tdiv 1000000) (b := amp f p (nd f.nodes c j)) (by omega) (by omega)
  have := Int.mul_nonneg t.1 b.1
  unfold dropA
  omega
theorem FG.dropB_in {f : Feeder} (g : FG f) (p : Int) {c j : Nat} (hc : c < f.nodes.length) (hj : j < (anc f.nodes c).length) : 0 ≤ dropB f p c j ∧ dropB f p c j ≤ 110000000000000 := by
  obtain ⟨a1, a2, a3⟩ := g.at_ hc hj
  have m := g.metre_in a3
  have b := g.amp_in a1 p
  have t : 0 ≤ (metre f (nd f.nodes c j)).tmod 1000000 ∧ (metre f (nd f.nodes c j)).tmod 1000000 ≤ 1000000 := by rw [Int.tmod_eq_emod_of_nonneg m.1]; omega
  have := mulB 1000000 110000000 (a := (metre f (nd f.nodes c j)).tmod 1000000) (b := amp f p (nd f.nodes c j)) (by omega) (by omega)
  have := Int.mul_nonneg t.1 b.1
  unfold dropB
  omega
theorem sumN_le_len {F : Nat → Int} {M : Int} (hM : 0 ≤ M) {n m : Nat} (h : ∀ j, j < m → 0 ≤ F j ∧ F j ≤ M) (hn : n ≤ m) (hm : m < 40) : 0 ≤ sumN F n ∧ sumN F n ≤ 40 * M := by
  have a := sumN_in (n := n) (f := F) (M := M) fun j hj => h j (by omega)
  have : (n : Int) * M ≤ 40 * M := Int.mul_le_mul_of_nonneg_right (by omega) hM
  omega
theorem FG.sumA_in {f : Feeder} (g : FG f) (p : Int) {c j : Nat} (hc : c < f.nodes.length) (hj : j ≤ (anc f.nodes c).length) : 0 ≤ sumN (dropA f p c) j ∧ sumN (dropA f p c) j ≤ 22000000000000 :=
  sumN_le_len (by decide) (fun j hj => g.dropA_in p hc hj) hj (g.anc_len hc)
theorem FG.sumB_in {f : Feeder} (g : FG f) (p : Int) {c j : Nat} (hc : c < f.nodes.length) (hj : j ≤ (anc f.nodes c).length) : 0 ≤ sumN (dropB f p c) j ∧ sumN (dropB f p c) j ≤ 4400000000000000 :=
  sumN_le_len (by decide) (fun j hj => g.dropB_in p hc hj) hj (g.anc_len hc)
def Cable.backLo (x : Cable) (e : Bool) : Int := if e then x.earthLo else x.coreLo
def Cable.backHi (x : Cable) (e : Bool) : Int := if e then x.earthHi else x.coreHi
def ohmLo (f : Feeder) (e : Bool) (c j : Nat) : Int := (nodeAt f.nodes (nd f.nodes c j)).length * (f.cables.getD (nodeAt f.nodes (nd f.nodes c j)).cable.toNat default).coreLo + (nodeAt f.nodes (nd f.nodes c j)).length * (f.cables.getD (nodeAt f.nodes (nd f.nodes c j)).cable.toNat default).backLo e
def ohmHi (f : Feeder) (e : Bool) (c j : Nat) : Int := (nodeAt f.nodes (nd f.nodes c j)).length * (f.cables.getD (nodeAt f.nodes (nd f.nodes c j)).cable.toNat default).coreHi + (nodeAt f.nodes (nd f.nodes c j)).length * (f.cables.getD (nodeAt f.nodes (nd f.nodes c j)).cable.toNat default).backHi e
theorem FG.ohm_in {f : Feeder} (g : FG f) (e : Bool) {c j : Nat} (hc : c < f.nodes.length) (hj : j < (anc f.nodes c).length) : (0 ≤ ohmLo f e c j ∧ ohmLo f e c j ≤ 10000000000) ∧ (0 ≤ ohmHi f e c j ∧ ohmHi f e c j ≤ 10000000000) ∧ ohmLo f e c j ≤ ohmHi f e c j := by
  obtain ⟨a1, a2, a3⟩ := g.at_ hc hj
  have a := a3.length
  have b := (g.cab_of a3).2
  unfold ohmLo ohmHi Cable.backLo Cable.backHi
  unfold nodeAt
  generalize f.nodes.getD (nd f.nodes c j) default = x at *
  generalize f.cables.getD x.cable.toNat default = y at *
  have hm : ∀ z : Int, (1 ≤ z ∧ z ≤ 1000000) → 0 ≤ x.length * z ∧ x.length * z ≤ 5000000000 := fun z hz => by
    have := mulB 5000 1000000 (a := x.length) (b := z) (by omega) (by omega)
    have := Int.mul_nonneg (show 0 ≤ x.length by omega) (show 0 ≤ z by omega)
    omega
  have hl : ∀ z t : Int, z ≤ t → x.length * z ≤ x.length * t := fun z t h => Int.mul_le_mul_of_nonneg_left h (by omega)
  obtain ⟨⟨c1, c2, c3⟩, ⟨e1, e2, e3⟩, _⟩ := b
  have m1 := hm y.coreLo (by omega)
  have m2 := hm y.coreHi (by omega)
  have m3 := hm y.earthLo (by omega)
  have m4 := hm y.earthHi (by omega)
  have l1 := hl _ _ c2
  have l2 := hl _ _ e2
  cases e
  · simp only [Bool.false_eq_true, if_false]; omega
  · simp only [if_true]; omega
def zLo (f : Feeder) (e : Bool) (c : Nat) : Nat → Int
  | 0 => f.sLo
  | j + 1 => zLo f e c j + (f.nodes.getD (nd f.nodes c j) default).length * (f.cables.getD (f.nodes.getD (nd f.nodes c j) default).cable.toNat default).coreLo + (f.nodes.getD (nd f.nodes c j) default).length * (f.cables.getD (f.nodes.getD (nd f.nodes c j) default).cable.toNat default).backLo e
def zHi (f : Feeder) (e : Bool) (c : Nat) : Nat → Int
  | 0 => f.sHi
  | j + 1 => zHi f e c j + (f.nodes.getD (nd f.nodes c j) default).length * (f.cables.getD (f.nodes.getD (nd f.nodes c j) default).cable.toNat default).coreHi + (f.nodes.getD (nd f.nodes c j) default).length * (f.cables.getD (f.nodes.getD (nd f.nodes c j) default).cable.toNat default).backHi e
theorem zLo_eq (f : Feeder) (e : Bool) (c : Nat) : ∀ j : Nat, zLo f e c j = f.sLo + sumN (ohmLo f e c) j
  | 0 => by show f.sLo = f.sLo + 0; omega
  | j + 1 => by unfold zLo; rw [zLo_eq f e c j, sumN_succ, ohmLo]; unfold nodeAt; omega
theorem zHi_eq (f : Feeder) (e : Bool) (c : Nat) : ∀ j : Nat, zHi f e c j = f.sHi + sumN (ohmHi f e c) j
  | 0 => by show f.sHi = f.sHi + 0; omega
  | j + 1 => by unfold zHi; rw [zHi_eq f e c j, sumN_succ, ohmHi]; unfold nodeAt; omega
theorem FG.z_in {f : Feeder} (g : FG f) (e : Bool) {c j : Nat} (hc : c < f.nodes.length) (hj : j ≤ (anc f.nodes c).length) : (1 ≤ zLo f e c j ∧ zLo f e c j ≤ 401000000000) ∧ (1 ≤ zHi f e c j ∧ zHi f e c j ≤ 401000000000) ∧ zLo f e c j ≤ zHi f e c j := by
  have a := sumN_le_len (F := ohmLo f e c) (M := 10000000000) (by decide) (fun j hj => (g.ohm_in e hc hj).1) hj (g.anc_len hc)
  have b := sumN_le_len (F := ohmHi f e c) (M := 10000000000) (by decide) (fun j hj => (g.ohm_in e hc hj).2.1) hj (g.anc_len hc)
  have d : sumN (ohmLo f e c) j ≤ sumN (ohmHi f e c) j := sumN_le fun i hi => (g.ohm_in e hc (by omega)).2.2
  have s := g.src
  rw [zLo_eq, zHi_eq]
  omega
theorem tdiv_in {a b : Int} (ha : 0 ≤ a) (hb : 1 ≤ b) : 0 ≤ a.tdiv b ∧ a.tdiv b ≤ a := by
  refine ⟨Int.tdiv_nonneg ha (by omega), ?_⟩
  rw [Int.tdiv_eq_ediv_of_nonneg ha]
  exact Int.ediv_le_self b ha
theorem FG.prods {f : Feeder} (g : FG f) {i : Nat} (a3 : GN f i (f.nodes.getD i default)) :
    (0 ≤ (f.nodes.getD i default).length * (f.cables.getD (f.nodes.getD i default).cable.toNat default).coreLo ∧ (f.nodes.getD i default).length * (f.cables.getD (f.nodes.getD i default).cable.toNat default).coreLo ≤ 5000000000) ∧
    (0 ≤ (f.nodes.getD i default).length * (f.cables.getD (f.nodes.getD i default).cable.toNat default).coreHi ∧ (f.nodes.getD i default).length * (f.cables.getD (f.nodes.getD i default).cable.toNat default).coreHi ≤ 5000000000) ∧
    (0 ≤ (f.nodes.getD i default).length * (f.cables.getD (f.nodes.getD i default).cable.toNat default).earthLo ∧ (f.nodes.getD i default).length * (f.cables.getD (f.nodes.getD i default).cable.toNat default).earthLo ≤ 5000000000) ∧
    (0 ≤ (f.nodes.getD i default).length * (f.cables.getD (f.nodes.getD i default).cable.toNat default).earthHi ∧ (f.nodes.getD i default).length * (f.cables.getD (f.nodes.getD i default).cable.toNat default).earthHi ≤ 5000000000) := by
  have a := a3.length
  have b := (g.cab_of a3).2
  generalize f.nodes.getD i default = x at *
  generalize f.cables.getD x.cable.toNat default = y at *
  have hm : ∀ z : Int, (1 ≤ z ∧ z ≤ 1000000) → 0 ≤ x.length * z ∧ x.length * z ≤ 5000000000 := fun z hz => by
    have := mulB 5000 1000000 (a := x.length) (b := z) (by omega) (by omega)
    have := Int.mul_nonneg (show 0 ≤ x.length by omega) (show 0 ≤ z by omega)
    omega
  obtain ⟨⟨c1, c2, c3⟩, ⟨e1, e2, e3⟩, _⟩ := b
  exact ⟨hm _ (by omega), hm _ (by omega), hm _ (by omega), hm _ (by omega)⟩
theorem FG.prodB {f : Feeder} (g : FG f) {i : Nat} (a3 : GN f i (f.nodes.getD i default)) (e : Bool) :
    (0 ≤ (f.nodes.getD i default).length * (f.cables.getD (f.nodes.getD i default).cable.toNat default).backLo e ∧ (f.nodes.getD i default).length * (f.cables.getD (f.nodes.getD i default).cable.toNat default).backLo e ≤ 5000000000) ∧
    (0 ≤ (f.nodes.getD i default).length * (f.cables.getD (f.nodes.getD i default).cable.toNat default).backHi e ∧ (f.nodes.getD i default).length * (f.cables.getD (f.nodes.getD i default).cable.toNat default).backHi e ≤ 5000000000) := by
  have p := g.prods a3
  unfold Cable.backLo Cable.backHi
  cases e
  · exact ⟨p.1, p.2.1⟩
  · exact ⟨p.2.2.1, p.2.2.2⟩
def faultLo (f : Feeder) (e : Bool) (c : Nat) : Int := (1000000 * f.vLo).tdiv (zHi f e c (anc f.nodes c).length)
def faultHi (f : Feeder) (e : Bool) (c : Nat) : Int := (1000000 * f.vHi + zLo f e c (anc f.nodes c).length - 1).tdiv (zLo f e c (anc f.nodes c).length)
def meltOf (u : Fuse) (a : Int) : Int × Int × Bool :=
  match u.points.reverse.find? (fun p => decide (p.cur ≤ a)) with
  | some p => (p.lo, p.hi, true)
  | none => (0, 0, false)
theorem find_first {α : Type} {p : α → Bool} (d : α) : ∀ {l : List α} {j : Nat}, j < l.length → p (l.getD j d) = true → (∀ i : Nat, i < j → p (l.getD i d) = false) → l.find? p = some (l.getD j d)
  | [], _, h, _, _ => by simp at h
  | x :: r, 0, _, h1, _ => by simp at h1; simp [List.find?_cons, h1]
  | x :: r, j + 1, h, h1, h2 => by
    have h0 : p x = false := by have := h2 0 (by omega); simpa using this
    rw [List.find?_cons, h0]
    have := find_first (l := r) (j := j) d (by simpa using h) (by simpa using h1) (fun i hi => by have := h2 (i + 1) (by omega); simpa using this)
    rw [this]; simp
theorem find_never {α : Type} {p : α → Bool} (d : α) {l : List α} (h : ∀ i : Nat, i < l.length → p (l.getD i d) = false) : l.find? p = none := by
  rw [List.find?_eq_none]
  intro x hx
  obtain ⟨i, hi⟩ := List.getElem?_of_mem hx
  have hlt := (List.getElem?_eq_some_iff.1 hi).1
  have := h i hlt
  rw [List.getD_eq_getElem?_getD, hi] at this
  simpa using this
theorem rev_getD {α : Type} (d : α) (l : List α) {j : Nat} (hj : j < l.length) : l.reverse.getD j d = l.getD (l.length - 1 - j) d := by
  rw [List.getD_eq_getElem?_getD, List.getD_eq_getElem?_getD, List.getElem?_reverse hj]
theorem melt_found {u : Fuse} {a : Int} {j : Nat} (hj : j < u.points.length) (h : (u.points.getD (u.points.length - 1 - j) default).cur ≤ a) (hn : ∀ i : Nat, i < j → ¬ (u.points.getD (u.points.length - 1 - i) default).cur ≤ a) :
    meltOf u a = ((u.points.getD (u.points.length - 1 - j) default).lo, (u.points.getD (u.points.length - 1 - j) default).hi, true) := by
  unfold meltOf
  rw [find_first default (j := j) (by simpa using hj) (by rw [rev_getD _ _ hj]; exact decide_eq_true h) (fun i hi => by rw [rev_getD _ _ (by omega)]; exact decide_eq_false (hn i hi)), rev_getD _ _ hj]
theorem melt_none {u : Fuse} {a : Int} (hn : ∀ i : Nat, i < u.points.length → ¬ (u.points.getD (u.points.length - 1 - i) default).cur ≤ a) : meltOf u a = (0, 0, false) := by
  unfold meltOf
  rw [find_never default (fun i hi => by rw [rev_getD _ _ (by simpa using hi)]; exact decide_eq_false (hn i (by simpa using hi)))]
end Go.Proofs.Yteomgedahkpnlaa
end
section

namespace Go.Proofs.Yteomgedahkpnlaa
theorem GU.pt {x : Fuse} (h : GU x) {j : Nat} (hj : j < x.points.length) : (1 ≤ (x.points.getD j default).cur ∧ (x.points.getD j default).cur ≤ 100000000) ∧ 1 ≤ (x.points.getD j default).lo ∧ (x.points.getD j default).lo ≤ (x.points.getD j default).hi ∧ (x.points.getD j default).hi ≤ 100000000 := by
  have := h.wild j hj
  unfold wildP at this
  simp only [Bool.or_eq_false_iff, Bool.not_eq_false', Bool.and_eq_true, decide_eq_true_eq] at this
  omega
theorem GU.mem {x : Fuse} (h : GU x) {p : Point} (hp : p ∈ x.points) : (1 ≤ p.cur ∧ p.cur ≤ 100000000) ∧ 1 ≤ p.lo ∧ p.lo ≤ p.hi ∧ p.hi ≤ 100000000 := by
  obtain ⟨j, hj⟩ := List.getElem?_of_mem hp
  have hlt := (List.getElem?_eq_some_iff.1 hj).1
  have := h.pt hlt
  rw [List.getD_eq_getElem?_getD, hj] at this
  exact this
structure GG (x : Guard) : Prop where
  u : GU x.fuse
  bes : 0 ≤ x.bes ∧ x.bes ≤ 40000000
def bigOf (x : Cur) : Int := max (max x.h0 x.h1) x.h2
theorem bigOf_in {x : Cur} {M : Int} (h : x.In M) : 0 ≤ bigOf x ∧ bigOf x ≤ M := by
  unfold Cur.In at h
  unfold bigOf
  omega
def guardAt (f : Feeder) (i : Nat) : List Guard := if 0 ≤ (f.nodes.getD i default).fuse then [⟨(i : Int), f.fuses.getD (f.nodes.getD i default).fuse.toNat default, bigOf (cur f i)⟩] else []
def guardsTo (f : Feeder) (c : Nat) : Nat → List Guard
  | 0 => []
  | j + 1 => guardsTo f c j ++ guardAt f (nd f.nodes c j)
def guardsOf (f : Feeder) (c : Nat) : List Guard := guardsTo f c (anc f.nodes c).length
theorem guardsTo_yes {f : Feeder} {c j : Nat} (h : 0 ≤ (f.nodes.getD (nd f.nodes c j) default).fuse) : guardsTo f c (j + 1) = guardsTo f c j ++ [⟨((nd f.nodes c j : Nat) : Int), f.fuses.getD (f.nodes.getD (nd f.nodes c j) default).fuse.toNat default, max (max (cur f (nd f.nodes c j)).h0 (cur f (nd f.nodes c j)).h1) (cur f (nd f.nodes c j)).h2⟩] := by
  show _ ++ guardAt _ _ = _
  rw [guardAt, if_pos h]; rfl
theorem guardsTo_no {f : Feeder} {c j : Nat} (h : ¬ 0 ≤ (f.nodes.getD (nd f.nodes c j) default).fuse) : guardsTo f c (j + 1) = guardsTo f c j := by
  show _ ++ guardAt _ _ = _
  rw [guardAt, if_neg h, List.append_nil]
theorem guardsTo_len (f : Feeder) (c : Nat) : ∀ j : Nat, (guardsTo f c j).length ≤ j
  | 0 => Nat.le_refl _
  | j + 1 => by
    have := guardsTo_len f c j
    show (_ ++ guardAt _ _).length ≤ _
    rw [List.length_append, guardAt]
    split
    · simp; omega
    · simp; omega
theorem FG.guard_at {f : Feeder} (g : FG f) {i : Nat} (h0 : 0 < i) (hi : i < f.nodes.length) : ∀ x ∈ guardAt f i, GG x := by
  intro x hx
  unfold guardAt at hx
  split at hx
  · rename_i h
    rw [List.mem_singleton] at hx
    subst hx
    have a := (g.nod i h0 hi).fuse
    exact ⟨g.fus _ (by unfold nodeAt at a; omega), bigOf_in (g.cur_in hi)⟩
  · cases hx
theorem FG.guards_to {f : Feeder} (g : FG f) {c : Nat} (hc : c < f.nodes.length) : ∀ (j : Nat), j ≤ (anc f.nodes c).length → ∀ x ∈ guardsTo f c j, GG x
  | 0, _, x, hx => by cases hx
  | j + 1, hj, x, hx => by
    rcases List.mem_append.1 hx with hx | hx
    · exact g.guards_to hc j (by omega) x hx
    · have a := g.at_ hc (show j < _ by omega)
      exact g.guard_at a.2.1 a.1 x hx
theorem FG.guards {f : Feeder} (g : FG f) {c : Nat} (hc : c < f.nodes.length) : (guardsOf f c).length ≤ 40 ∧ ∀ j : Nat, j < (guardsOf f c).length → GG ((guardsOf f c).getD j default) := by
  have a := guardsTo_len f c (anc f.nodes c).length
  have b := g.anc_len hc
  exact ⟨by unfold guardsOf; omega, fun j hj => g.guards_to hc _ (Nat.le_refl _) _ (getD_mem hj)⟩
def beatsOf (x y : Guard) (a : Int) : Bool := !(meltOf y.fuse (a + y.bes)).2.2 || decide ((meltOf x.fuse a).2.1 < (meltOf y.fuse (a + y.bes)).1)
def yieldPts (x y : Guard) (lo : Int) : List Int := lo :: (x.fuse.points.map Point.cur ++ y.fuse.points.map fun p => p.cur - y.bes)
def yieldP (x y : Guard) (lo hi a : Int) : Bool := ((decide (lo ≤ a) && decide (a ≤ hi)) && (meltOf x.fuse a).2.2) && !beatsOf x y a
def yieldsOf (x y : Guard) (lo hi : Int) : Bool := (yieldPts x y lo).any (yieldP x y lo hi)
theorem take_snoc {α : Type} (d : α) {l : List α} {j : Nat} (h : j < l.length) : l.take (j + 1) = l.take j ++ [l.getD j d] := by
  rw [List.take_add_one, List.getElem?_eq_getElem h, List.getD_eq_getElem?_getD, List.getElem?_eq_getElem h]; rfl
theorem yieldPts_in {x y : Guard} (hx : GG x) (hy : GG y) {lo : Int} (hlo : 0 ≤ lo ∧ lo ≤ 100000000000000) {a : Int} (h : a ∈ yieldPts x y lo) : -100000000000000 ≤ a ∧ a ≤ 100000000000000 := by
  unfold yieldPts at h
  rcases List.mem_cons.1 h with h | h
  · omega
  rcases List.mem_append.1 h with h | h
  · obtain ⟨p, hp, rfl⟩ := List.mem_map.1 h
    have := hx.u.mem hp
    omega
  · obtain ⟨p, hp, rfl⟩ := List.mem_map.1 h
    have := hy.u.mem hp
    have := hy.bes
    omega
abbrev Case := Int × Int × Int
abbrev jav (f : Feeder) (l : List Case) (r : Nat) : AV := .agg [.slice (f.cables.map Cable.av) none, .slice (f.fuses.map Fuse.av) none, .slice (f.nodes.map Node.av) none, I f.vLo, I f.vHi, I f.sLo, I f.sHi, I f.drop, I f.limit, .slice (l.map triA) (some r)]
def cs (b : Bool) (x : Case) : List Case := if b then [x] else []
theorem cs_app (l : List Case) (b : Bool) (x : Case) : (l ++ cs b x).length ≤ l.length + 1 := by
  unfold cs
  split <;> simp
def overLoad (f : Feeder) (i : Nat) (p : Int) : Bool :=
  decide ((f.cables.getD (f.nodes.getD i default).cable.toNat default).rated < (cur f i).hi p) ||
    (decide (0 ≤ (f.nodes.getD i default).fuse) && decide ((f.fuses.getD (f.nodes.getD i default).fuse.toNat default).rated < (cur f i).hi p))
def loadsOf (f : Feeder) (i : Nat) : List Case := cs (overLoad f i 0) (160, i, 0) ++ cs (overLoad f i 1) (160, i, 1) ++ cs (overLoad f i 2) (160, i, 2)
def dropsOf (f : Feeder) (i : Nat) : List Case := cs (decide (f.drop < dropOf f 0 i)) (161, i, 0) ++ cs (decide (f.drop < dropOf f 1 i)) (161, i, 1) ++ cs (decide (f.drop < dropOf f 2 i)) (161, i, 2)
def slowBad (f : Feeder) (e : Bool) (i : Nat) (x : Guard) : Bool := !(meltOf x.fuse (faultLo f e i)).2.2 || decide (f.limit < (meltOf x.fuse (faultLo f e i)).2.1)
def backTo (F : Guard → List Case) (l : List Guard) : Nat → List Case
  | 0 => []
  | j + 1 => backTo F l j ++ F (l.getD (l.length - 1 - j) default)
def protBack (f : Feeder) (e : Bool) (i : Nat) (gs : List Guard) : Nat → List Case := backTo (fun x => cs (yieldsOf (gs.getD 0 default) x (faultLo f e i) (faultHi f e i)) (163, i, x.node)) (gs.drop 1)
def protF (f : Feeder) (e : Bool) (i : Nat) (gs : List Guard) : List Case := cs (slowBad f e i (gs.getD 0 default)) (162, i, (gs.getD 0 default).node) ++ protBack f e i gs (gs.drop 1).length
def protsOf (f : Feeder) (i : Nat) : List Case := if ((guardsOf f i).length : Int) = 0 then [(164, (i : Int), -1)] else protF f false i (guardsOf f i) ++ protF f true i (guardsOf f i)
def judAt (f : Feeder) (i : Nat) : List Case := if 0 < i then loadsOf f i ++ dropsOf f i ++ protsOf f i else []
def judTo (f : Feeder) : Nat → List Case
  | 0 => []
  | i + 1 => judTo f i ++ judAt f i
def judOf (f : Feeder) : List Case := if (check f).2.2 = 0 then judTo f f.nodes.length else []
theorem backTo_len {F : Guard → List Case} (h : ∀ x, (F x).length ≤ 1) (l : List Guard) : ∀ j : Nat, (backTo F l j).length ≤ j
  | 0 => Nat.le_refl _
  | j + 1 => by
    have := backTo_len h l j
    have := h (l.getD (l.length - 1 - j) default)
    show (backTo F l j ++ F (l.getD (l.length - 1 - j) default)).length ≤ _
    rw [List.length_append]; omega
theorem cs_len (b : Bool) (x : Case) : (cs b x).length ≤ 1 := by
  unfold cs
  split <;> simp
theorem protBack_len (f : Feeder) (e : Bool) (i : Nat) (gs : List Guard) (j : Nat) : (protBack f e i gs j).length ≤ j := backTo_len (fun x => cs_len _ _) _ j
def protApp (l : List Case) (f : Feeder) (e : Bool) (i : Nat) (gs : List Guard) : Nat → List Case
  | 0 => l
  | j + 1 => protApp l f e i gs j ++ cs (yieldsOf (gs.getD 0 default) ((gs.drop 1).getD ((gs.drop 1).length - 1 - j) default) (faultLo f e i) (faultHi f e i)) (163, (i : Int), ((gs.drop 1).getD ((gs.drop 1).length - 1 - j) default).node)
theorem protApp_eq (l : List Case) (f : Feeder) (e : Bool) (i : Nat) (gs : List Guard) : ∀ j : Nat, protApp l f e i gs j = l ++ protBack f e i gs j
  | 0 => (List.append_nil l).symm
  | j + 1 => by
    unfold protApp
    rw [protApp_eq l f e i gs j, List.append_assoc]; rfl
theorem getD_drop1 {l : List Guard} {k : Nat} : (l.drop 1).getD k default = l.getD (k + 1) default := by
  rw [List.getD_eq_getElem?_getD, List.getD_eq_getElem?_getD, List.getElem?_drop, Nat.add_comm]
theorem protF_len (f : Feeder) (e : Bool) (i : Nat) (gs : List Guard) (h : gs.length ≤ 40) : (protF f e i gs).length ≤ 41 := by
  unfold protF
  rw [List.length_append]
  have a := cs_len (slowBad f e i (gs.getD 0 default)) (162, (i : Int), (gs.getD 0 default).node)
  have b := backTo_len (F := fun x => cs (yieldsOf (gs.getD 0 default) x (faultLo f e i) (faultHi f e i)) (163, (i : Int), x.node)) (fun x => cs_len _ _) (gs.drop 1) (gs.drop 1).length
  rw [List.length_drop] at b ⊢
  unfold protBack
  omega
theorem loads_len (f : Feeder) (i : Nat) : (loadsOf f i).length ≤ 3 := by
  unfold loadsOf
  simp only [List.length_append]
  have a := cs_len (overLoad f i 0) (160, i, 0)
  have b := cs_len (overLoad f i 1) (160, i, 1)
  have c := cs_len (overLoad f i 2) (160, i, 2)
  omega
theorem drops_len (f : Feeder) (i : Nat) : (dropsOf f i).length ≤ 3 := by
  unfold dropsOf
  simp only [List.length_append]
  have a := cs_len (decide (f.drop < dropOf f 0 i)) (161, i, 0)
  have b := cs_len (decide (f.drop < dropOf f 1 i)) (161, i, 1)
  have c := cs_len (decide (f.drop < dropOf f 2 i)) (161, i, 2)
  omega
theorem FG.prots_len {f : Feeder} (g : FG f) {i : Nat} (hi : i < f.nodes.length) : (protsOf f i).length ≤ 82 := by
  have h := (g.guards hi).1
  unfold protsOf
  split
  · simp
  · rw [List.length_append]
    have := protF_len f false i _ h
    have := protF_len f true i _ h
    omega
theorem FG.faults {f : Feeder} (g : FG f) (e : Bool) {c : Nat} (hc : c < f.nodes.length) : (0 ≤ faultLo f e c ∧ faultLo f e c ≤ 100000000000000) ∧ (0 ≤ faultHi f e c ∧ faultHi f e c ≤ 100000000000000) := by
  have zz := g.z_in e hc (Nat.le_refl _)
  have gv := g.volts
  have q1 := tdiv_in (a := 1000000 * f.vLo) (b := zHi f e c (anc f.nodes c).length) (by omega) (by omega)
  have q2 := tdiv_in (a := 1000000 * f.vHi + zLo f e c (anc f.nodes c).length - 1) (b := zLo f e c (anc f.nodes c).length) (by omega) (by omega)
  unfold faultLo faultHi
  omega
end Go.Proofs.Yteomgedahkpnlaa
end
section

namespace Go.Proofs.Yteomgedahkpnlaa
def askedOf (f : Feeder) (c : Int) : Int := if (check f).2.2 = 0 ∧ ¬ (0 ≤ c ∧ c ≤ (f.nodes.length : Int) - 1) then 4 else (check f).2.2
def innerOf (f : Feeder) (c : Int) : Int := if askedOf f c = 0 ∧ c = 0 then 2 else askedOf f c
theorem asked_zero {f : Feeder} {c : Int} (h : askedOf f c = 0) : (check f).2.2 = 0 ∧ 0 ≤ c ∧ c < (f.nodes.length : Int) := by
  unfold askedOf at h
  split at h
  · omega
  · rename_i h1
    refine ⟨h, ?_⟩
    have : ¬ ¬ (0 ≤ c ∧ c ≤ (f.nodes.length : Int) - 1) := fun h2 => h1 ⟨h, h2⟩
    omega
theorem inner_zero {f : Feeder} {c : Int} (h : innerOf f c = 0) : (check f).2.2 = 0 ∧ 0 < c ∧ c < (f.nodes.length : Int) := by
  unfold innerOf at h
  split at h
  · omega
  · rename_i h1
    have := asked_zero h
    exact ⟨this.1, by have : c ≠ 0 := fun e => h1 ⟨h, e⟩; omega, this.2.2⟩
def dropRes (f : Feeder) (c p : Int) : Int × Int := if askedOf f c ≠ 0 then (0, askedOf f c) else if ¬ (0 ≤ p ∧ p ≤ 2) then (0, 7) else (dropOf f p c.toNat, 0)
def neutRes (f : Feeder) (c : Int) : Int × Int := if innerOf f c ≠ 0 then (0, innerOf f c) else (neut (cur f c.toNat), 0)
def faultRes (f : Feeder) (c : Int) (e : Bool) : Int × Int × Int := if innerOf f c ≠ 0 then (0, 0, innerOf f c) else (faultLo f e c.toNat, faultHi f e c.toNat, 0)
def firstAt (gs : List Guard) (a : Int) (i : Nat) : Bool := ((meltOf (gs.getD i default).fuse a).2.2 && !((gs.take i).any fun y => !beatsOf (gs.getD i default) y a)) && !((gs.drop (i + 1)).any fun y => !beatsOf (gs.getD i default) y a)
def firstOf (gs : List Guard) (a : Int) : Int := match (List.range gs.length).find? (firstAt gs a) with | some i => (gs.getD i default).node | none => -1
theorem range_getD {n i : Nat} (h : i < n) : (List.range n).getD i 0 = i := by
  rw [List.getD_eq_getElem?_getD, List.getElem?_range h]; rfl
theorem first_found {gs : List Guard} {a : Int} {i : Nat} (hi : i < gs.length) (h : firstAt gs a i = true) (hn : ∀ j : Nat, j < i → firstAt gs a j = false) : firstOf gs a = (gs.getD i default).node := by
  unfold firstOf
  rw [find_first 0 (j := i) (by simpa using hi) (by rw [range_getD hi]; exact h) (fun j hj => by rw [range_getD (by omega)]; exact hn j hj), range_getD hi]
theorem first_none {gs : List Guard} {a : Int} (hn : ∀ j : Nat, j < gs.length → firstAt gs a j = false) : firstOf gs a = -1 := by
  unfold firstOf
  rw [find_never 0 (fun j hj => by rw [List.length_range] at hj; rw [range_getD hj]; exact hn j hj)]
def firstRes (f : Feeder) (c a : Int) : Int × Int := if askedOf f c ≠ 0 then (0, askedOf f c) else if ¬ (0 ≤ a ∧ a ≤ 1000000000) then (0, 7) else (firstOf (guardsOf f c.toNat) a, 0)
theorem FG.guards_mem {f : Feeder} (g : FG f) {c : Nat} (hc : c < f.nodes.length) : ∀ x ∈ guardsOf f c, GG x := g.guards_to hc _ (Nat.le_refl _)
end Go.Proofs.Yteomgedahkpnlaa
end
section

namespace Go.Proofs.Yteomgedahkpnlaa
def sampleF : Feeder where
  cables := [⟨⟨#[99, 111, 112, 112, 101, 114]⟩, 1000, 1200, 1000, 1200, 60000⟩]
  fuses := [⟨⟨#[116, 101, 110]⟩, 10000, [⟨30000, 100, 400⟩, ⟨100000, 4, 8⟩]⟩, ⟨⟨#[102, 111, 114, 116, 121]⟩, 40000, [⟨100000, 500, 3000⟩, ⟨400000, 10, 20⟩]⟩]
  nodes := [⟨⟨#[115, 111, 117, 114, 99, 101]⟩, -1, -1, 0, -1, 0, 0, 0, 0, 0, 0⟩, ⟨⟨#[97]⟩, 0, 0, 100, 1, 0, 0, 0, 0, 0, 0⟩, ⟨⟨#[98]⟩, 1, 0, 200, 0, 2000, 3000, 0, 0, 0, 0⟩, ⟨⟨#[99]⟩, 2, 0, 100, -1, 0, 0, 1000, 1500, 0, 0⟩]
  vLo := 220000
  vHi := 240000
  sLo := 50000
  sHi := 100000
  drop := 7000
  limit := 400
theorem sample_ok : sampleF.ok := by
  unfold Feeder.ok Cable.ok Fuse.ok Node.ok
  decide
theorem sample_ok' (c : Int) : (Feeder.mk (sampleF.cables) (sampleF.fuses) (sampleF.nodes) (sampleF.vLo) (sampleF.vHi) (sampleF.sLo) (sampleF.sHi) (sampleF.drop) c).ok := sample_ok
end Go.Proofs.Yteomgedahkpnlaa
end
section

namespace Go.Proofs.Yteomgedahkpnlaa
def q3 (x y z : Int) : Int := x * x + y * y + z * z - x * y - y * z - z * x
end Go.Proofs.Yteomgedahkpnlaa
namespace Go.Proofs.Yteomgedahkpnlaa
end Go.Proofs.Yteomgedahkpnlaa
namespace Go.Proofs.Yteomgedahkpnlaa
end Go.Proofs.Yteomgedahkpnlaa
end
section

namespace Go.Proofs.Yteomgedahkpnlaa
def pathTo (ns : List Node) (c j : Nat) : List Int := ((anc ns c).take j).reverse.map fun n : Nat => (n : Int)
def pathI (ns : List Node) (c : Nat) : List Int := (anc ns c).reverse.map fun n : Nat => (n : Int)
theorem path_step {ns : List Node} {c j : Nat} (hj : j < (anc ns c).length) : pathTo ns c (j + 1) = [((nd ns c j : Nat) : Int)] ++ pathTo ns c j := by
  unfold pathTo
  rw [take_snoc 0 hj, List.reverse_append, List.map_append]
  rfl
theorem path_end (ns : List Node) (c : Nat) : pathTo ns c (anc ns c).length = pathI ns c := by
  unfold pathTo pathI
  rw [List.take_length]
theorem pathI_len (ns : List Node) (c : Nat) : (pathI ns c).length = (anc ns c).length := by
  unfold pathI; simp
theorem on_iff {ns : List Node} {c i : Nat} : (pathI ns i).any (fun x => decide (x = (c : Int))) = decide (c ∈ anc ns i) := by
  rw [Bool.eq_iff_iff]
  simp only [List.any_eq_true, decide_eq_true_eq, pathI, List.mem_map, List.mem_reverse]
  constructor
  · rintro ⟨x, ⟨n, hn, rfl⟩, h⟩
    have : n = c := by omega
    exact this ▸ hn
  · intro h
    exact ⟨(c : Int), ⟨c, h, rfl⟩, rfl⟩
def onB (ns : List Node) (c i : Nat) : Bool := (pathI ns i).any fun x => decide (x = (c : Int))
theorem onB_yes {ns : List Node} {c i j : Nat} (hj : j < (pathI ns i).length) (h : (pathI ns i).getD j 0 = (c : Int)) : onB ns c i = true :=
  List.any_eq_true.2 ⟨_, getD_mem hj, decide_eq_true h⟩
theorem onB_no {ns : List Node} {c i : Nat} (h : ∀ j : Nat, j < (pathI ns i).length → (pathI ns i).getD j 0 ≠ (c : Int)) : onB ns c i = false := by
  unfold onB
  exact any_not 0 (fun j hj => decide_eq_false (h j hj))
theorem onB_beh {ns : List Node} {c i : Nat} (h0 : 0 < c) : onB ns c i = beh ns c i := by
  unfold onB
  rw [on_iff, Bool.eq_iff_iff, beh_iff, decide_eq_true_iff]
  exact ⟨.inr, fun h => h.resolve_left (by omega)⟩
end Go.Proofs.Yteomgedahkpnlaa
namespace Go.Proofs.Yteomgedahkpnlaa
end Go.Proofs.Yteomgedahkpnlaa
end
section

namespace Go.Proofs.Yteomgedahkpnlaa
open Go.RowKit
section
variable {F : Fence} {P : Program} {nt : Nat} {ops : Array Oper} {S : St} {Q : Exit → St → Prop}
theorem RunL.callT (hF : Fr F) {l2 : List Oper} {dst : Option Nat} {n : FuncId} {f : Operand} {as_ : List Operand} {ts : Array TypeId} {ty : TypeId} {pos : String} {aft : Array Edge} {gd : Option (Nat × Bool)} {fa ca avs : List AV} {lf la : List (Nat × AV)} {R : AV → List Ent → Prop}
    (H m tl : List Ent) (hm : S.mem = H ++ (m ++ tl)) (hf : Opd f (.func n fa ca) lf) (ha : Opds as_ avs la) (hc : Callable P n) (hT : okT nt (lf ++ la) S.env)
    (hw : ∀ g w a hid, Rel nt g w a S hid → Region.wanted ⟨dst, .call { callee := .value f, args := as_.toArray, argTypes := ts }, ty, pos, aft, gd⟩ (yielded ops a.tmps) = true) (hy : MeetsT P n (fa ++ avs ++ ca) m R)
    (k : ∀ r m', R r m' → RunL F P nt ops l2 ⟨putT dst r S.env, H ++ (m' ++ tl)⟩ Q) : RunL F P nt ops (⟨dst, .call { callee := .value f, args := as_.toArray, argTypes := ts }, ty, pos, aft, gd⟩ :: l2) S Q := by
  intro g0 w0 g w a hid he hr
  unfold wpListIn
  rw [hw g w a hid hr]
  have hTT := hr.hasT hT.all
  have h := hf g w a hTT.left
  have hargs := ha.rep hTT.right
  refine ⟨fun f _ => hF.fn f, ?_⟩
  rw [Oper.semAt_eq _ _ _ (by simp)]
  generalize hu : a.eval f = u at h
  cases h with
  | func h1 h2 r1 r2 =>
    rename_i first caps
    have hi0 : Inv g w (m ++ (H ++ (tl ++ hid.map Ent.mark))) := by
      have := hr.inv
      rw [hm] at this
      refine this.perm ?_
      simp only [List.append_assoc]
      exact perm_mid H m _
    have hall : RepAll g w (first ++ (as_.map a.eval).toArray ++ caps) (fa ++ avs ++ ca) := RepAll.append (RepAll.append ⟨h1, r1⟩ hargs) ⟨h2, r2⟩
    have hrun : (execOp a.eval ⟨dst, .call { callee := .value f, args := as_.toArray, argTypes := ts }, ty, pos, aft, gd⟩).run P w = .ok (.enter n (first ++ (as_.map a.eval).toArray ++ caps)) w := by
      simp [execOp, resolve, hu, Deferred.ofValue, invoke, run_callFunc hc]
    rw [hrun, Oper.uponIn_enter]
    refine ⟨fun hd => by rw [hF.depth] at hd; simp at hd, Calls.inF hF ?_ _⟩
    refine (hy _ g w _ hi0 hall).mono ?_
    rintro e w' ⟨v, r', mem', g', rfl, ⟨m', rfl, hR⟩, h3, h4, h5⟩
    refine k r' m' hR g0 w0 g' w' _ hid (he.trans h5) (hr.put h5 ?_ h3)
    refine h4.perm ?_
    rw [List.append_assoc, List.append_assoc]
    exact (perm_mid H m' _).symm
end
def Arr (L m : List Ent) : Prop := ∀ g w tail, Inv g w (L ++ tail) → Inv g w (m ++ tail)
theorem Arr.refl (L : List Ent) : Arr L L := fun g w tail h => h
theorem Arr.trans {a b c : List Ent} (h : Arr a b) (k : Arr b c) : Arr a c := fun g w tail hi => k g w tail (h g w tail hi)
theorem Arr.cons (e : Ent) {a b : List Ent} (h : Arr a b) : Arr (e :: a) (e :: b) := fun g w tail hi => by
  have h1 : Inv g w (a ++ (e :: tail)) := hi.perm (List.perm_middle (l₁ := a) (l₂ := tail) (a := e)).symm
  exact (h g w (e :: tail) h1).perm (List.perm_middle (l₁ := b) (l₂ := tail) (a := e))
theorem Arr.take {L : List Ent} {p : Nat} {e : Ent} (h : L[p]? = some e) : Arr L (e :: L.set p .hole) := fun g w tail hi => by
  have hlt : p < L.length := (List.getElem?_eq_some_iff.1 h).1
  have h1 : Inv g w (.hole :: (L ++ tail)) := by simpa using hi.holes 1
  refine h1.perm ?_
  rw [List.cons_append, ← List.set_append_left _ _ hlt]
  exact set_perm (by rw [List.getElem?_append_left hlt]; exact h)
theorem Arr.put {L : List Ent} {p : Nat} {e : Ent} (h : L[p]? = some .hole) : Arr (e :: L) (L.set p e) := fun g w tail hi =>
  Move.cons (new := []) p h (Move.nil _) g w tail hi
theorem MeetsT.arr {P : Program} {n : FuncId} {args : List AV} {L m : List Ent} {R R' : AV → List Ent → Prop} (ha : Arr L m) (h : MeetsT P n args m R) (hR : ∀ r m', R r m' → ∃ L', Arr m' L' ∧ R' r L') : MeetsT P n args L R' := by
  intro tail g w vs hi hr
  refine (h tail g w vs (ha g w tail hi) hr).mono ?_
  rintro e w' ⟨v, r, mm, g', he, ⟨m', rfl, hRr⟩, h1, h2, h3⟩
  obtain ⟨L', ha', hr'⟩ := hR r m' hRr
  exact ⟨v, r, L' ++ tail, g', he, ⟨L', rfl, hr'⟩, h1, ha' g' w' tail h2, h3⟩
theorem Yields.arr {P : Program} {l : Nat} {args : List AV} {L m : List Ent} {R R' : AV → List Ent → Prop} (ha : Arr m L) (h : Yields P l args L R') (hR : ∀ r L', R' r L' → ∃ m', Arr L' m' ∧ R r m') : Yields P l args m R := by
  intro tail g w vs hi hr
  obtain ⟨f, tmps, as_, bo, h1, h2⟩ := h tail g w vs (ha g w tail hi) hr
  refine ⟨f, tmps, as_, bo, h1, fun F hF => (h2 F hF).mono ?_⟩
  rintro e w' ⟨v, r, L', g', he, hRr, k1, k2, k3⟩
  obtain ⟨m', ha', hr'⟩ := hR r L' hRr
  exact ⟨v, r, m', g', he, hr', k1, ha' g' w' tail k2, k3⟩
theorem Arr.out2 {L : List Ent} {p q : Nat} {e1 e2 : Ent} (h1 : L[p]? = some e1) (h2 : L[q]? = some e2) (hne : p ≠ q) : Arr L (e1 :: e2 :: (L.set p .hole).set q .hole) :=
  (Arr.take h1).trans (Arr.cons e1 (Arr.take (by rw [List.getElem?_set_ne hne]; exact h2)))
theorem Arr.in2 {L : List Ent} {p q : Nat} (e1 e2 : Ent) (hp : p < L.length) (hq : q < L.length) (hne : p ≠ q) : Arr (e1 :: e2 :: (L.set p .hole).set q .hole) ((L.set p e1).set q e2) := by
  have h1 : Arr (e2 :: (L.set p .hole).set q .hole) ((L.set p .hole).set q e2) := by
    have := Arr.put (e := e2) (L := (L.set p .hole).set q .hole) (p := q) (by rw [List.getElem?_set_self (by simpa using hq)])
    rwa [List.set_set] at this
  refine (Arr.cons e1 h1).trans ?_
  have h2 := Arr.put (e := e1) (L := (L.set p .hole).set q e2) (p := p) (by rw [List.getElem?_set_ne (Ne.symm hne), List.getElem?_set_self hp])
  rw [List.set_comm _ _ (Ne.symm hne), List.set_set] at h2
  exact h2
theorem iter2 {P : Program} {n : FuncId} {args : List AV} {y len : Nat} {arg : Nat → List AV} {E1 : Nat → Ent} {E2 : Ent}
    (H : ∀ M : Nat → Nat → List Ent, (∀ j x, j < len → Yields P y (arg j) (E1 j :: E2 :: M j x) (fun r m' => r = .bool true ∧ ∃ z, m' = E1 j :: E2 :: M (j + 1) z)) →
      ∀ x, MeetsT P n args (E1 0 :: E2 :: M 0 x) (fun r m' => r = .tuple [] ∧ ∃ z, m' = E1 len :: E2 :: M len z))
    (p q x0 : Nat) (B : Nat → Nat → List Ent) (m0 : List Ent) (hB : ∀ j x, (B j x)[q]? = some E2 ∧ p < (B j x).length) (hne : p ≠ q) (hm0 : m0 = (B 0 x0).set p (E1 0))
    (hy : ∀ j x, j < len → Yields P y (arg j) ((B j x).set p (E1 j)) (fun r m' => r = .bool true ∧ ∃ z, m' = (B (j + 1) z).set p (E1 j))) :
    MeetsT P n args m0 (fun r m' => r = .tuple [] ∧ ∃ z, m' = (B len z).set p (E1 len)) := by
  subst hm0
  have hq : ∀ j x, q < (B j x).length := fun j x => (List.getElem?_eq_some_iff.1 (hB j x).1).1
  have out : ∀ (j x : Nat) (e : Ent), Arr ((B j x).set p e) (e :: E2 :: ((B j x).set p .hole).set q .hole) := fun j x e => by
    have := Arr.out2 (L := (B j x).set p e) (p := p) (q := q) (e1 := e) (e2 := E2) (by rw [List.getElem?_set_self (hB j x).2]) (by rw [List.getElem?_set_ne hne]; exact (hB j x).1) hne
    rwa [List.set_set] at this
  have back : ∀ (j x : Nat) (e : Ent), Arr (e :: E2 :: ((B j x).set p .hole).set q .hole) ((B j x).set p e) := fun j x e => by
    have := Arr.in2 (L := B j x) (p := p) (q := q) e E2 (hB j x).2 (hq j x) hne
    have h2 : ((B j x).set p e).set q E2 = (B j x).set p e := by
      refine set_same ?_
      rw [List.getElem?_set_ne hne]; exact (hB j x).1
    rwa [h2] at this
  refine MeetsT.arr (out 0 x0 (E1 0)) (H (fun j x => ((B j x).set p .hole).set q .hole) (fun j x hj => ?_) x0) ?_
  · refine Yields.arr (back j x (E1 j)) (hy j x hj) ?_
    rintro r L' ⟨rfl, z, rfl⟩
    exact ⟨_, out (j + 1) z (E1 j), rfl, z, rfl⟩
  · rintro r m' ⟨rfl, z, rfl⟩
    exact ⟨_, back len z (E1 len), rfl, z, rfl⟩
theorem iter1 {P : Program} {n : FuncId} {args : List AV} {y len : Nat} {arg : Nat → List AV} {E : Ent} {X : List Ent → Prop}
    (H : ∀ (M : Nat → Nat → List Ent) (Z : List Ent → Prop), (∀ j x, j < len → Yields P y (arg j) (E :: M j x) (fun r m' => (r = .bool true ∧ ∃ z, m' = E :: M (j + 1) z) ∨ (r = .bool false ∧ ∃ z, m' = E :: z ∧ Z z))) →
      ∀ x, MeetsT P n args (E :: M 0 x) (fun r m' => r = .tuple [] ∧ ((∃ z, m' = E :: M len z) ∨ ∃ z, m' = E :: z ∧ Z z)))
    (p x0 : Nat) (B : Nat → Nat → List Ent) (m0 : List Ent) (hB : ∀ j x, (B j x)[p]? = some E) (hm0 : m0 = B 0 x0) (hX : ∀ m, X m → m[p]? = some E)
    (hy : ∀ j x, j < len → Yields P y (arg j) (B j x) (fun r m' => (r = .bool true ∧ ∃ z, m' = B (j + 1) z) ∨ (r = .bool false ∧ X m'))) :
    MeetsT P n args m0 (fun r m' => r = .tuple [] ∧ ((∃ z, m' = B len z) ∨ X m')) := by
  subst hm0
  have out : ∀ L : List Ent, L[p]? = some E → Arr L (E :: L.set p .hole) := fun L h => Arr.take h
  have back : ∀ L : List Ent, L[p]? = some E → Arr (E :: L.set p .hole) L := fun L h => by
    have hlt := (List.getElem?_eq_some_iff.1 h).1
    have := Arr.put (e := E) (L := L.set p .hole) (p := p) (by rw [List.getElem?_set_self hlt])
    rwa [List.set_set, set_same h] at this
  refine MeetsT.arr (out _ (hB 0 x0)) (H (fun j x => (B j x).set p .hole) (fun z => ∃ L, X L ∧ z = L.set p .hole) (fun j x hj => ?_) x0) ?_
  · refine Yields.arr (back _ (hB j x)) (hy j x hj) ?_
    rintro r L' (⟨rfl, z, rfl⟩ | ⟨rfl, hx⟩)
    · exact ⟨_, out _ (hB (j + 1) z), .inl ⟨rfl, z, rfl⟩⟩
    · exact ⟨_, out _ (hX _ hx), .inr ⟨rfl, _, rfl, L', hx, rfl⟩⟩
  · rintro r m' ⟨rfl, (⟨z, rfl⟩ | ⟨z, rfl, L, hx, rfl⟩)⟩
    · exact ⟨_, back _ (hB len z), rfl, .inl ⟨z, rfl⟩⟩
    · exact ⟨_, back _ (hX _ hx), rfl, .inr hx⟩
def updz (m : List Ent) (qs : List Nat) (es : List Ent) : List Ent := (qs.zip es).foldl (fun m x => m.set x.1 x.2) m
theorem updz_length : ∀ (qs : List Nat) (es m : List Ent), (updz m qs es).length = m.length
  | [], _, _ => rfl
  | _ :: _, [], _ => rfl
  | p :: ps, e :: es, m => by
    show (updz (m.set p e) ps es).length = _
    rw [updz_length ps es, List.length_set]
theorem updz_get {p : Nat} : ∀ (qs : List Nat) (es m : List Ent), p ∉ qs → (updz m qs es)[p]? = m[p]?
  | [], _, _, _ => rfl
  | _ :: _, [], _, _ => rfl
  | q :: ps, e :: es, m, h => by
    show (updz (m.set q e) ps es)[p]? = _
    rw [updz_get ps es _ (fun hm => h (List.mem_cons_of_mem _ hm)), List.getElem?_set_ne (fun e => h (by rw [e]; exact List.mem_cons_self))]
theorem updz_set {p : Nat} (x : Ent) : ∀ (qs : List Nat) (es m : List Ent), p ∉ qs → updz (m.set p x) qs es = (updz m qs es).set p x
  | [], _, _, _ => rfl
  | _ :: _, [], _, _ => rfl
  | q :: ps, e :: es, m, h => by
    show updz ((m.set p x).set q e) ps es = (updz (m.set q e) ps es).set p x
    rw [List.set_comm _ _ (fun e => h (by rw [e]; exact List.mem_cons_self)), updz_set x ps es _ (fun hm => h (List.mem_cons_of_mem _ hm))]
def rnd (pL : Nat) (Lb : Ent) (tl : List Ent) (m1 : Nat → List Ent) (ret : List Ent → Prop) (ex : Exit) (S : St) : Prop :=
  ∃ T, Weak S T ∧ ∃ m', T.mem = m' ++ tl ∧ m'[pL]? = some Lb ∧
    match ex with
    | .normal => ∃ z, m'.set pL .hole = m1 z
    | .ret => ret (m'.set pL .hole)
    | _ => False
def rnd1 (pL : Nat) (Lb : Ent) (tl : List Ent) (m1 : Nat → List Ent) (ok : Prop) (ret : List Ent → Prop) (ex : Exit) (S : St) : Prop :=
  ∃ T, Weak S T ∧ ∃ m', T.mem = m' ++ tl ∧ m'[pL]? = some Lb ∧
    match ex with
    | .normal => ∃ z, m'.set pL .hole = m1 z ∧ ok
    | .ret => ret (m'.set pL .hole)
    | _ => False
def imp : Ent := .obj 0 fun _ => False
theorem not_imp {g : Gh} {w : World} {m : List Ent} (h : Inv g w m) {i : Nat} (hi : m[i]? = some imp) : False := by
  obtain ⟨_, _, _, _, _, h, _⟩ := h.ok _ (List.mem_of_getElem? hi)
  exact h
theorem Yields.imp {P : Program} {l : Nat} {args : List AV} {m : List Ent} {R : AV → List Ent → Prop} {i : Nat} (hi : m[i]? = some imp) : Yields P l args m R := by
  intro tail g w vs h hr
  exact (not_imp h (i := i) (by rw [List.getElem?_append_left (List.getElem?_eq_some_iff.1 hi).1]; exact hi)).elim
theorem MeetsT.noImp {P : Program} {n : FuncId} {args : List AV} {m : List Ent} {R : AV → List Ent → Prop} (h : MeetsT P n args m R) : MeetsT P n args m (fun r m' => R r m' ∧ ∀ i : Nat, m'[i]? = some Go.Proofs.Yteomgedahkpnlaa.imp → False) := by
  intro tail g w vs hi hr
  refine (h tail g w vs hi hr).mono ?_
  rintro e w' ⟨v, r, mm, g', he, ⟨m', rfl, hRr⟩, h1, h2, h3⟩
  exact ⟨v, r, _, g', he, ⟨m', rfl, hRr, fun i hm => not_imp h2 (i := i) (by rw [List.getElem?_append_left (List.getElem?_eq_some_iff.1 hm).1]; exact hm)⟩, h1, h2, h3⟩
section
variable {F : Fence} {P : Program} {nt : Nat}
theorem AC.range2 (hF : Fr F) {x : Nat} {ps : Array Tmp} {as_ bo : Code} {S : St} {Q : Exit → St → Prop} (pL : Nat) {n : FuncId} {fs caps : List AV} (hx : getT S.env x = .func n fs caps) (hxn : Nat.blt x nt = true) (hc : Callable P n)
    (hp : S.mem[pL]? = some .hole) (hR : RoundOK F S.mem) {len : Nat} {arg : Nat → List AV} {E1 : Nat → Ent} {E2 : Ent} (p q x0 : Nat) (qs : List Nat) (g : Nat → Nat → List Ent)
    (hn : (p ≠ q ∧ p ≠ pL ∧ q ≠ pL) ∧ p ∉ qs ∧ q ∉ qs ∧ pL ∉ qs) (h1 : S.mem[p]? = some (E1 0)) (h2 : S.mem[q]? = some E2) (hg : updz S.mem qs (g 0 x0) = S.mem) (hps : ∀ j, ps.size = (arg j).length)
    (H : ∀ (l : Nat) (M : Nat → Nat → List Ent), (∀ j x, j < len → Yields P l (arg j) (E1 j :: E2 :: M j x) (fun r m' => r = .bool true ∧ ∃ z, m' = E1 j :: E2 :: M (j + 1) z)) →
      ∀ x, MeetsT P n (fs ++ [.yieldf l] ++ caps) (E1 0 :: E2 :: M 0 x) (fun r m' => r = .tuple [] ∧ ∃ z, m' = E1 len :: E2 :: M len z))
    (round : ∀ (l : Nat) (L Lb : Ent), L = .loop l .ready none ps as_ bo S.env nt → Lb = .loop l .busy none ps as_ bo S.env nt → ∀ F', Fr F' → F'.round = some l → ∀ (tl : List Ent) (j x : Nat), j < len →
      AC F' P nt as_ ⟨parEnv ps.toList (arg j) S.env, ((updz S.mem qs (g j x)).set p (E1 j)).set pL L ++ tl⟩ (thenQ (fun S1 => ∃ m1, S1.mem = m1 ++ tl ∧ m1[pL]? = some L ∧
        AC F' P nt bo ⟨S1.env, m1.set pL Lb ++ tl⟩ (rnd pL Lb tl (fun z => (updz S.mem qs (g (j + 1) z)).set p (E1 j)) fun _ => False)) (fun _ _ => False)))
    (normal : ∀ x, Q .normal ⟨S.env, (updz S.mem qs (g len x)).set p (E1 len)⟩) : AC F P nt (.rangeFunc (.tmp x) ps as_ bo) S Q := by
  obtain ⟨⟨n1, n2, n3⟩, n4, n5, n6⟩ := hn
  have hpl := (List.getElem?_eq_some_iff.1 hp).1
  have hplen := (List.getElem?_eq_some_iff.1 h1).1
  refine AC.range hF pL hx hxn hc hp hR fun l => ⟨_, iter2 (fun M hM => H l M hM) p q x0 (fun j x => updz (S.mem.set pL (.loop l .ready none ps as_ bo S.env nt)) qs (g j x)) _ (fun j x => ⟨?_, ?_⟩) n1 ?_ (fun j x hj => ?_), ?_⟩
  · rw [updz_get _ _ _ n5, List.getElem?_set_ne (Ne.symm n3)]; exact h2
  · rw [updz_length, List.length_set]; exact hplen
  · show _ = List.set (updz _ _ _) p (E1 0)
    rw [updz_set _ _ _ _ n6, hg, List.set_comm _ _ (Ne.symm n2), set_same h1]
  · have key : ∀ (j x : Nat) (L : Ent), ((updz (S.mem.set pL (.loop l .ready none ps as_ bo S.env nt)) qs (g j x)).set p (E1 j)).set pL L = ((updz S.mem qs (g j x)).set p (E1 j)).set pL L := fun j x L => by
      rw [updz_set _ _ _ _ n6, List.set_comm _ _ (Ne.symm n2), List.set_set]
    refine Yields.roundL (p := pL) (ps := ps) (as_ := as_) (bo := bo) (env := S.env) (nt := nt) ?_ (hps j) fun L Lb hL hLb F' hF' hr tl => ?_
    · rw [List.getElem?_set_ne n2, updz_set _ _ _ _ n6, List.getElem?_set_self (by rw [updz_length]; exact hpl)]
    · rw [key]
      refine (round l L Lb hL hLb F' hF' hr tl j x hj).mono ?_
      intro ex S1 h
      cases ex with
      | normal =>
        obtain ⟨m1, k1, k2, k3⟩ := h
        refine ⟨m1, k1, k2, k3.mono ?_⟩
        rintro ex S2 ⟨T, hw, m', t1, t2, t3⟩
        refine ⟨T, hw, m', t1, t2, ?_⟩
        cases ex with
        | normal =>
          obtain ⟨z, t3⟩ := t3
          refine ⟨rfl, z, ?_⟩
          have hml := (List.getElem?_eq_some_iff.1 t2).1
          have e : m'.set pL L = ((updz S.mem qs (g (j + 1) z)).set p (E1 j)).set pL L := by
            have t3 : m'.set pL .hole = (updz S.mem qs (g (j + 1) z)).set p (E1 j) := t3
            rw [← t3, List.set_set]
          rw [e, hL]
          show _ = List.set (updz _ _ _) p (E1 j)
          rw [updz_set _ _ _ _ n6, List.set_comm _ _ n2]
        | ret => exact t3.elim
        | exit id => exact t3.elim
        | goto t => exact t3.elim
        | panic ch => exact t3.elim
        | outgrown => exact t3.elim
      | ret => exact h.elim
      | exit id => exact h.elim
      | goto t => exact h.elim
      | panic ch => exact h.elim
      | outgrown => exact h.elim
  · rintro r m' ⟨rfl, z, rfl⟩
    refine ⟨.ready, none, ?_, by decide, jumpQ_none ?_⟩
    · show (List.set (updz _ _ _) p (E1 len))[pL]? = _
      rw [List.getElem?_set_ne n2, updz_set _ _ _ _ n6, List.getElem?_set_self (by rw [updz_length]; exact hpl)]
    · have e : (List.set (updz (S.mem.set pL (.loop l .ready none ps as_ bo S.env nt)) qs (g len z)) p (E1 len)).set pL .hole = (updz S.mem qs (g len z)).set p (E1 len) := by
        rw [updz_set _ _ _ _ n6, List.set_comm _ _ (Ne.symm n2), List.set_set]
        refine set_same ?_
        rw [List.getElem?_set_ne n2, updz_get _ _ _ n6]; exact hp
      rw [e]
      exact normal z
theorem AC.range1 (hF : Fr F) {x : Nat} {ps : Array Tmp} {as_ bo : Code} {S : St} {Q : Exit → St → Prop} (pL : Nat) {n : FuncId} {fs caps : List AV} (hx : getT S.env x = .func n fs caps) (hxn : Nat.blt x nt = true) (hc : Callable P n)
    (hp : S.mem[pL]? = some .hole) (hR : RoundOK F S.mem) {len : Nat} {arg : Nat → List AV} {E : Ent} (p x0 : Nat) (qs : List Nat) (g : Nat → Nat → List Ent) (PJ : Nat → List Ent → Prop) (Ok : Nat → Prop) (h0 : Ok 0)
    (hn : p ≠ pL ∧ p ∉ qs ∧ pL ∉ qs) (h1 : S.mem[p]? = some E) (hg : updz S.mem qs (g 0 x0) = S.mem) (hps : ∀ j, ps.size = (arg j).length)
    (H : ∀ (l : Nat) (M : Nat → Nat → List Ent) (Z : List Ent → Prop), (∀ j x, j < len → Yields P l (arg j) (E :: M j x) (fun r m' => (r = .bool true ∧ ∃ z, m' = E :: M (j + 1) z) ∨ (r = .bool false ∧ ∃ z, m' = E :: z ∧ Z z))) →
      ∀ x, MeetsT P n (fs ++ [.yieldf l] ++ caps) (E :: M 0 x) (fun r m' => r = .tuple [] ∧ ((∃ z, m' = E :: M len z) ∨ ∃ z, m' = E :: z ∧ Z z)))
    (round : ∀ (l : Nat) (L Lb : Ent), L = .loop l .ready none ps as_ bo S.env nt → Lb = .loop l .busy none ps as_ bo S.env nt → ∀ F', Fr F' → F'.round = some l → ∀ (tl : List Ent) (j x : Nat), j < len → Ok j →
      AC F' P nt as_ ⟨parEnv ps.toList (arg j) S.env, (updz S.mem qs (g j x)).set pL L ++ tl⟩ (thenQ (fun S1 => ∃ m1, S1.mem = m1 ++ tl ∧ m1[pL]? = some L ∧
        AC F' P nt bo ⟨S1.env, m1.set pL Lb ++ tl⟩ (rnd1 pL Lb tl (fun z => updz S.mem qs (g (j + 1) z)) (Ok (j + 1)) fun m => ∃ es, m = updz S.mem qs es ∧ PJ j es)) (fun _ _ => False)))
    (normal : ∀ x, Ok len → Q .normal ⟨S.env, updz S.mem qs (g len x)⟩) (ret : ∀ j es, j < len → Ok j → PJ j es → Q .ret ⟨S.env, updz S.mem qs es⟩) : AC F P nt (.rangeFunc (.tmp x) ps as_ bo) S Q := by
  obtain ⟨n2, n4, n6⟩ := hn
  have hpl := (List.getElem?_eq_some_iff.1 hp).1
  classical
  refine AC.range hF pL hx hxn hc hp hR fun l => ⟨_, (iter1 (X := fun m => ∃ j es, j < len ∧ Ok j ∧ PJ j es ∧ m = updz (S.mem.set pL (.loop l .done (some .ret) ps as_ bo S.env nt)) qs es) (fun M Z hM => H l M Z hM) p x0 (fun j x => if Ok j then updz (S.mem.set pL (.loop l .ready none ps as_ bo S.env nt)) qs (g j x) else (updz S.mem qs (g j x)).set pL imp) _ (fun j x => ?_) ?_ ?_ (fun j x hj => ?_)).noImp, ?_⟩
  · split
    · rw [updz_get _ _ _ n4, List.getElem?_set_ne (Ne.symm n2)]; exact h1
    · rw [List.getElem?_set_ne (Ne.symm n2), updz_get _ _ _ n4]; exact h1
  · rw [if_pos h0, updz_set _ _ _ _ n6, hg]
  · rintro m ⟨j, es, _, _, _, rfl⟩
    rw [updz_get _ _ _ n4, List.getElem?_set_ne (Ne.symm n2)]; exact h1
  · by_cases hOk : Ok j
    case neg =>
      refine Yields.imp (i := pL) ?_
      rw [if_neg hOk, List.getElem?_set_self (by rw [updz_length]; exact hpl)]
    rw [if_pos hOk]
    refine Yields.roundL (p := pL) (ps := ps) (as_ := as_) (bo := bo) (env := S.env) (nt := nt) ?_ (hps j) fun L Lb hL hLb F' hF' hr tl => ?_
    · rw [updz_set _ _ _ _ n6, List.getElem?_set_self (by rw [updz_length]; exact hpl)]
    · have key : (updz (S.mem.set pL (.loop l .ready none ps as_ bo S.env nt)) qs (g j x)).set pL L = (updz S.mem qs (g j x)).set pL L := by
        rw [updz_set _ _ _ _ n6, List.set_set]
      rw [key]
      refine (round l L Lb hL hLb F' hF' hr tl j x hj hOk).mono ?_
      intro ex S1 h
      cases ex with
      | normal =>
        obtain ⟨m1, k1, k2, k3⟩ := h
        refine ⟨m1, k1, k2, k3.mono ?_⟩
        rintro ex S2 ⟨T, hw, m', t1, t2, t3⟩
        refine ⟨T, hw, m', t1, t2, ?_⟩
        cases ex with
        | normal =>
          obtain ⟨z, t3, t4⟩ := t3
          have t3 : m'.set pL .hole = updz S.mem qs (g (j + 1) z) := t3
          refine .inl ⟨rfl, z, ?_⟩
          rw [if_pos t4]
          rw [updz_set _ _ _ _ n6, ← t3, List.set_set, hL]
        | ret =>
          obtain ⟨es, t4, t5⟩ := t3
          refine .inr ⟨rfl, j, es, hj, hOk, t5, ?_⟩
          rw [updz_set _ _ _ _ n6, ← t4, List.set_set]
        | exit id => exact t3.elim
        | goto t => exact t3.elim
        | panic ch => exact t3.elim
        | outgrown => exact t3.elim
      | ret => exact h.elim
      | exit id => exact h.elim
      | goto t => exact h.elim
      | panic ch => exact h.elim
      | outgrown => exact h.elim
  · have back : ∀ (st : LoopState) (pend : Option Code) (es : List Ent), (updz (S.mem.set pL (.loop l st pend ps as_ bo S.env nt)) qs es)[pL]? = some (.loop l st pend ps as_ bo S.env nt) ∧
        (updz (S.mem.set pL (.loop l st pend ps as_ bo S.env nt)) qs es).set pL .hole = updz S.mem qs es := fun st pend es => by
      rw [updz_set _ _ _ _ n6]
      refine ⟨by rw [List.getElem?_set_self (by rw [updz_length]; exact hpl)], ?_⟩
      rw [List.set_set]
      refine set_same ?_
      rw [updz_get _ _ _ n6]; exact hp
    rintro r m' ⟨⟨rfl, (⟨z, rfl⟩ | ⟨j, es, hj, hO, hP, rfl⟩)⟩, hni⟩
    · by_cases hOk : Ok len
      case neg =>
        rw [if_neg hOk] at hni
        exact (hni pL (by rw [List.getElem?_set_self (by rw [updz_length]; exact hpl)])).elim
      rw [if_pos hOk]
      refine ⟨.ready, none, (back _ _ _).1, by decide, jumpQ_none ?_⟩
      rw [(back _ _ _).2]
      exact normal z hOk
    · refine ⟨.done, some .ret, (back _ _ _).1, by decide, ?_⟩
      show Q .ret _
      rw [(back _ _ _).2]
      exact ret j es hj hO hP
end
end Go.Proofs.Yteomgedahkpnlaa
end
section

namespace Go.Proofs.Yteomgedahkpnlaa
open Go.RowKit
def MapIs (es : List (AV × AV)) (o : Obj) : Prop := ∃ a c, o = .map a c ∧ a.toList.map (fun e => (e.key, e.val)) = es.map (fun p => (conc p.1, conc p.2))
def Finds (P : Program) (kt : TypeId) (k : AV) (es : List (AV × AV)) (r : Option (Nat × AV)) : Prop :=
  ∀ (l : List MapEntry) w, l.map (fun e => (e.key, e.val)) = es.map (fun p => (conc p.1, conc p.2)) → (Instr.findKey kt (conc k) l).run P w = .ok (r.map fun x => (x.1, conc x.2)) w
def KeyOK (P : Program) (kt : TypeId) (k : AV) : Prop := ∀ b w, (Instr.checkKey b 10000 kt (conc k)).run P w = .ok () w
theorem Inv.newObj {g : Gh} {w : World} {mem : List Ent} (h : Inv g w mem) {s p : Nat} (hs : g.sy s = .held) (hp : p < mem.length) (o : Obj) {φ : Obj → Prop} (hc : φ o) :
    Stab (some s) g w (g.put s (.blk w.heap.size)) (w.alloc o) ∧ Inv (g.put s (.blk w.heap.size)) (w.alloc o) (mem.set p (.obj s φ)) ∧ (g.put s (.blk w.heap.size)).sy s = .blk w.heap.size := by
  have hst := stab_alloc h hs (.blk w.heap.size) o
  have hsy : (g.put s (.blk w.heap.size)).sy s = .blk w.heap.size := by show (if s = s then _ else _) = _; rw [if_pos rfl]
  refine ⟨hst, h.set hst p _ ?_ ?_ (fun b o hi => by have := h.lt b o hi; simp; omega) (put_room h.room), hsy⟩
  · intro i e b hi hne hb
    have hlt := (h.ok e (List.mem_of_getElem? hi)).block_lt hb
    refine ⟨alloc_old w _ hlt.2, fun _ hh => hh, ?_⟩
    simp only [Ent.block, hsy, symBlock]
    intro e
    injection e with e
    omega
  · exact ⟨w.heap.size, o, hsy, h.base, alloc_new w _, hc, fun o ho => by have := h.lt _ _ ho; omega⟩
theorem putO_other (w : World) (l : Nat) (o : Obj) {b : Nat} (h : b ≠ l) : (World.putO w l o).heap[b]? = w.heap[b]? := by
  show (w.heap.setIfInBounds l _)[b]? = _
  rw [Array.getElem?_setIfInBounds_ne (Ne.symm h)]
theorem Inv.setObj {g : Gh} {w : World} {mem : List Ent} (h : Inv g w mem) {s p b : Nat} {φ ψ : Obj → Prop} (hp : mem[p]? = some (.obj s φ)) (hb : g.sy s = .blk b) (o : Obj) (ho : ψ o) :
    Ext g w g (World.putO w b o) ∧ Inv g (World.putO w b o) (mem.set p (.obj s ψ)) := by
  obtain ⟨b', o', h1, h2, h3, h4, h5⟩ := h.ok _ (List.mem_of_getElem? hp)
  rw [hb] at h1
  injection h1 with h1
  subst h1
  have hlt : b < w.heap.size := (Array.getElem?_eq_some_iff.1 h3).1
  have hst : Ext g w g (World.putO w b o) :=
    ⟨rfl, ⟨rfl, rfl, rfl, by simp [World.putO], fun k hk => putO_other w b _ (by omega)⟩, fun c oo hi => ⟨hi, by
      have hne : c ≠ b := fun e => by subst e; exact h5 oo hi
      simp only [World.cell?, putO_other w b _ hne]⟩, fun _ _ _ => rfl, fun s hs => by cases hs⟩
  refine ⟨hst, h.set hst p _ ?_ ?_ (fun c oo ho => by simpa [World.putO] using h.lt c oo ho) h.room⟩
  · intro i e c hie hne hec
    have hne' : c ≠ b := by
      intro e'
      subst e'
      exact hne (h.apart i p e _ c hie hp hec (by simp [Ent.block, hb, symBlock]))
    refine ⟨putO_other w b _ hne', fun _ h => h, ?_⟩
    simp only [Ent.block, hb, symBlock]
    intro e'
    injection e' with e'
    exact hne' e'.symm
  · refine ⟨b, o, hb, h2, ?_, ho, h5⟩
    show (w.heap.setIfInBounds b _)[b]? = _
    rw [Array.getElem?_setIfInBounds_self_of_lt hlt]
section
variable {P : Program} {ops : Array Oper} {ty : TypeId} {pos : String} {aft : Array Edge} {d : Nat}
theorem s_makeMap {T : TypeId} (p s : Nat) : Step P ops ⟨some d, .makeMap T none, ty, pos, aft, none⟩ { wT := some (d, .mp s), wM := some (p, .obj s (MapIs [])), sym := some s } :=
  Step.value rfl rfl (by simp) fun g w a mem hi hT hM hs hp => by
    obtain ⟨h1, h2, h3⟩ := hi.newObj (hs s rfl) (hp p _ rfl) (.map #[] 0) (φ := MapIs []) ⟨_, _, rfl, rfl⟩
    refine ⟨.map (some w.heap.size), w.alloc (.map #[] 0), _, ?_, h1, h2, fun d' v e => ?_⟩
    · simp [execOp, Instr.makeMap, newObj, Sem.run]
    · injection e with e; injection e with _ e; subst e; exact .mp h3
theorem MapIs.at {g : Gh} {w : World} {mem : List Ent} (hi : Inv g w mem) {p s b : Nat} {es : List (AV × AV)} (hp : mem[p]? = some (.obj s (MapIs es))) (hb : g.sy s = .blk b) :
    ∃ a c, w.heap[b]? = some (.map a c) ∧ a.toList.map (fun e => (e.key, e.val)) = es.map (fun p => (conc p.1, conc p.2)) := by
  obtain ⟨b', o', h1, h2, h3, ⟨a, c, rfl, h4⟩, h5⟩ := hi.ok _ (List.mem_of_getElem? hp)
  rw [hb] at h1
  injection h1 with h1
  subst h1
  exact ⟨a, c, h3, h4⟩
theorem upd_new {T kt vt : TypeId} {k v : AV} {es : List (AV × AV)} (hT : P.underlying T = some (.map kt vt)) (hk : KeyOK P kt k) (hf : Finds P kt k es none) {b : Nat} {w : World} {a : Array MapEntry} {c : Nat} (hb : w.heap[b]? = some (.map a c))
    (ha : a.toList.map (fun e => (e.key, e.val)) = es.map (fun p => (conc p.1, conc p.2))) : (Instr.mapUpdate T (.map (some b)) (conc k) (conc v)).run P w = .ok () (World.putO w b (.map (a.push { key := conc k, val := conc v, born := c }) (c + 1))) := by
  simp only [Instr.mapUpdate, Sem.run_bind, run_underlying hT, Go.MapKept.run_getObj_map hb, hk false w, hf a.toList w ha, Result.andThen_ok, Option.map_none, Go.MapKept.run_setObj_map _ hb]
  rfl
theorem s_insert {T kt vt : TypeId} {m k x : Operand} {s : Nat} {es : List (AV × AV)} {kv v : AV} {lm lk lx : List (Nat × AV)} (p : Nat) (hT : P.underlying T = some (.map kt vt)) (hm : Opd m (.mp s) lm) (hk : Opd k kv lk) (hx : Opd x v lx)
    (hpk : plainA kv = true) (hpv : plainA v = true) (hko : KeyOK P kt kv) (hf : Finds P kt kv es none) :
    Step P ops ⟨none, .insert T m k x, ty, pos, aft, none⟩ { rT := lm ++ (lk ++ lx), rM := [(p, .obj s (MapIs es))], wM := some (p, .obj s (MapIs (es ++ [(kv, v)]))) } :=
  Step.skip rfl rfl rfl (by simp) fun g w a mem hi hT' hM hs hp => by
    have h := hm g w a hT'.left
    have h1 := conc_of (hk g w a hT'.right.left) hpk
    have h2 := conc_of (hx g w a hT'.right.right) hpv
    generalize hu : a.eval m = u at h
    cases h with
    | mp hsb =>
      rename_i b
      have hpm := hM p (.obj s (MapIs es)) (by simp)
      obtain ⟨arr, c, hb, hes⟩ := MapIs.at hi hpm hsb
      obtain ⟨k1, k2⟩ := hi.setObj hpm hsb (.map (arr.push { key := conc kv, val := conc v, born := c }) (c + 1)) (ψ := MapIs (es ++ [(kv, v)])) ⟨_, _, rfl, by simp [hes]⟩
      refine ⟨_, g, ?_, k1, k2⟩
      simp [execOp, hu, h1, h2, upd_new hT hko hf hb hes]
theorem s_lookup {T kt vt : TypeId} {m k : Operand} {s i : Nat} {es : List (AV × AV)} {kv v : AV} {lm lk : List (Nat × AV)} (p : Nat) (hT : P.underlying T = some (.map kt vt)) (hm : Opd m (.mp s) lm) (hk : Opd k kv lk)
    (hpk : plainA kv = true) (hko : KeyOK P kt kv) (hf : Finds P kt kv es (some (i, v))) (hv : ∀ g w, Rep g w (conc v) v) :
    Step P ops ⟨some d, .lookup T m k false, ty, pos, aft, none⟩ { rT := lm ++ lk, rM := [(p, .obj s (MapIs es))], wT := some (d, v) } :=
  Step.calc (by simp) fun g w a mem hi hT' hM => by
    have h := hm g w a hT'.left
    have h1 := conc_of (hk g w a hT'.right) hpk
    generalize hu : a.eval m = u at h
    cases h with
    | mp hsb =>
      rename_i b
      obtain ⟨arr, c, hb, hes⟩ := MapIs.at hi (hM p (.obj s (MapIs es)) (by simp)) hsb
      refine ⟨conc v, ?_, hv g w⟩
      have hl : (Instr.lookup T (.map (some b)) (conc kv) false).run P w = .ok (conc v) w := by
        simp [Instr.lookup, run_underlying hT, Go.MapKept.run_getObj_map hb, hko _ w, hf arr.toList w hes, Result.andThen]
      simp [execOp, hu, h1, hl]
end
section
variable {P : Program} {ops : Array Oper} {ty : TypeId} {pos : String} {aft : Array Edge} {d : Nat}
theorem s_andB {c x : Operand} {p q : Bool} {lc lx : List (Nat × AV)} (hc : Opd c (.bool p) lc) (hx : Opd x (.bool q) lx) :
    Step P ops ⟨some d, .pick c x (.const (.bool false)), ty, pos, aft, none⟩ { rT := lc ++ lx, wT := some (d, .bool (p && q)) } :=
  Step.calc (rM := []) (by simp) fun g w a mem hi hT hM => by
    have h1 := bool_of (hc g w a hT.left)
    have h2 := bool_of (hx g w a hT.right)
    refine ⟨.bool (p && q), ?_, .bool _⟩
    cases p with
    | true => simp [execOp, h1, h2, asBool]
    | false =>
      have h3 : a.eval (.const (.bool false)) = .bool false := rfl
      simp [execOp, h1, h3, asBool]
theorem s_andT {c x : Operand} {p : Bool} {lc lx : List (Nat × AV)} (hc : Opd c (.bool p) lc) (hx : Opd x (.bool true) lx) :
    Step P ops ⟨some d, .pick c x (.const (.bool false)), ty, pos, aft, none⟩ { rT := lc ++ lx, wT := some (d, .bool p) } := by
  have h := s_andB (P := P) (ops := ops) (ty := ty) (pos := pos) (aft := aft) (d := d) hc hx
  rwa [Bool.and_true] at h
end
theorem res_cell1 {P : Program} {nt : Nat} {S : St} {x t s : Nat} {cs : List AV} {c : AV} (p : Nat) (h : getT S.env x = .ptr s 0) (hx : Nat.blt x nt = true) (hm : S.mem[p]? = some (.box s cs)) (ht : TyS P t) (hc : cs[0]? = some c) : ResOK P nt S (.cell x t) c := by
  intro g w a hid hr
  have hp := hr.eval (c := x) (by simpa [Nat.blt_eq] using hx)
  rw [h] at hp
  simp only [Act.eval] at hp
  generalize hu : a.tmps.getD x undef = u at hp
  cases hp with
  | ptr hs =>
    have hm' : (S.mem ++ hid.map Ent.mark)[p]? = some (.box s cs) := by rw [List.getElem?_append_left (List.getElem?_eq_some_iff.1 hm).1]; exact hm
    obtain ⟨arr, tt, hb, _, hrc, _, hcell⟩ := box_cell hr.inv hm' hs
    have hlt : 0 < arr.size := by rw [hrc.1]; exact (List.getElem?_eq_some_iff.1 hc).1
    exact ⟨arr[0], by simp only [rvSem, hu]; simp [asAddr, loadVar, run_single ht, hcell 0 _ (Array.getElem?_eq_getElem hlt)], hrc.2 0 _ _ (Array.getElem?_eq_getElem hlt) hc⟩
theorem Opd.free {o : Operand} {es : List AV} {own : Option Nat} {l : List (Nat × AV)} (h : Opd o (.slice es own) l) : Opd o (.slice es none) l := fun g w a hT => by
  have h2 := h g w a hT
  generalize a.eval o = u at h2
  cases h2 with
  | slice b o vals hl hA hsz hc hr hle how => exact .slice b o vals hl hA hsz hc hr hle (fun s hs => by cases hs)
theorem rep_conc2 (a b : Int) (g : Gh) (w : World) : Rep g w (conc (.agg [I a, I b])) (.agg [I a, I b]) := .agg rfl fun i v x h1 h2 => by
  match i, h1, h2 with
  | 0, h1, h2 => obtain rfl := Option.some.inj h1; obtain rfl := Option.some.inj h2; exact .int _ _
  | 1, h1, h2 => obtain rfl := Option.some.inj h1; obtain rfl := Option.some.inj h2; exact .int _ _
  | i + 2, h1, h2 => simp [conc] at h1
theorem keyOK_bool {P : Program} {kt : TypeId} (h : P.underlying kt = some .bool) (b : Bool) : KeyOK P kt (.bool b) := fun e w => by
  have k : ∀ n, (Instr.checkKey e (n + 1) kt (.bool b)).run P w = .ok () w := fun n => by
    simp [Instr.checkKey, run_underlying h, Result.andThen]
  exact k 9999
theorem finds_nil {P : Program} {kt : TypeId} {dd : TypeDesc} (h : P.underlying kt = some dd) (k : AV) : Finds P kt k [] none := fun l w hl => by
  cases l with
  | nil => simp [Instr.findKey, run_underlying h, Instr.findNow, Result.andThen]
  | cons x r => simp at hl
theorem finds_bool1 {P : Program} {kt : TypeId} (h : P.underlying kt = some .bool) (v : AV) : Finds P kt (.bool true) [(.bool false, v)] none := fun l w hl => by
  rcases l with _ | ⟨e, _ | ⟨f, r⟩⟩
  · simp at hl
  · simp only [List.map_cons, List.map_nil, List.cons.injEq, Prod.mk.injEq, and_true] at hl
    have e1 : e.key = .bool false := hl.1
    simp [Instr.findKey, run_underlying h, Instr.findNow, Result.andThen, Instr.sameNow, e1, conc, conc.conc1]
  · simp at hl
theorem finds_boolF {P : Program} {kt : TypeId} (h : P.underlying kt = some .bool) (v x : AV) : Finds P kt (.bool false) [(.bool false, v), (.bool true, x)] (some (0, v)) := fun l w hl => by
  rcases l with _ | ⟨e, _ | ⟨f, _ | ⟨f2, r⟩⟩⟩
  · simp at hl
  · simp at hl
  · simp only [List.map_cons, List.map_nil, List.cons.injEq, Prod.mk.injEq, and_true] at hl
    have e1 : e.key = .bool false := hl.1.1
    simp [Instr.findKey, run_underlying h, Instr.findNow, Result.andThen, Instr.sameNow, e1, conc, conc.conc1, hl.1.2]
  · simp at hl
theorem finds_boolT {P : Program} {kt : TypeId} (h : P.underlying kt = some .bool) (v x : AV) : Finds P kt (.bool true) [(.bool false, v), (.bool true, x)] (some (1, x)) := fun l w hl => by
  rcases l with _ | ⟨e, _ | ⟨f, _ | ⟨f2, r⟩⟩⟩
  · simp at hl
  · simp at hl
  · simp only [List.map_cons, List.map_nil, List.cons.injEq, Prod.mk.injEq, and_true] at hl
    have e1 : e.key = .bool false := hl.1.1
    have e2 : f.key = .bool true := hl.2.1
    simp [Instr.findKey, run_underlying h, Instr.findNow, Result.andThen, Instr.sameNow, e1, e2, conc, conc.conc1, hl.2.2]
  · simp at hl
end Go.Proofs.Yteomgedahkpnlaa
end
section

namespace Go.Proofs.Yteomgedahkpnlaa
open Go.RowKit
def covB (ops : Array Oper) : Bool := (List.range (ops.size - 1)).all (fun i => (List.range ops.size).any fun j => decide (i < j) && (match ops[j]? with | some o => boundEdge o i | none => false)) &&
  (match ops[ops.size - 1]? with | some o => o.after.all fun e => !Region.binds .any e || decide (e.on < ops.size - 1) | none => false)
theorem unlisted_splitL (n : Nat) (listed : Array Bool) (i : Nat) (hi : i ∈ unlisted n listed) (hsz : n ≤ listed.size) :
    ∃ A B, unlisted n listed = A ++ i :: B ∧ unlisted n (listed.setIfInBounds i true) = A ++ B ∧ ∀ k ∈ A, k < i ∧ listed.getD k true = false := by
  unfold unlisted at *
  simp only [List.mem_filter, List.mem_range] at hi
  obtain ⟨hin, hil⟩ := hi
  have hr : List.range n = List.range' 0 i ++ i :: List.range' (i + 1) (n - (i + 1)) := by
    have h1 : List.range' i (n - i) = i :: List.range' (i + 1) (n - (i + 1)) := by
      rw [show n - i = (n - (i + 1)) + 1 from by omega, List.range'_succ]
    have h2 := List.range'_append (s := 0) (m := i) (n := n - i) (step := 1)
    simp only [Nat.one_mul, Nat.zero_add] at h2
    have h3 : i + (n - i) = n := by omega
    rw [h3] at h2
    rw [List.range_eq_range', ← h2, h1]
  have same : ∀ l : List Nat, (∀ x ∈ l, x ≠ i) → l.filter (fun j => !(listed.setIfInBounds i true).getD j true) = l.filter (fun j => !listed.getD j true) := by
    intro l hl
    refine List.filter_congr fun j hj => ?_
    have hne := hl j hj
    simp only [Array.getD_eq_getD_getElem?, Array.getElem?_setIfInBounds_ne (Ne.symm hne)]
  refine ⟨(List.range' 0 i).filter (fun j => !listed.getD j true), (List.range' (i + 1) (n - (i + 1))).filter (fun j => !listed.getD j true), ?_, ?_, ?_⟩
  · rw [hr, List.filter_append, List.filter_cons, if_pos (by simpa using hil)]
  · rw [hr, List.filter_append, List.filter_cons, if_neg (by simp [Array.getD_eq_getD_getElem?, show i < listed.size by omega]), same _ (fun x hx => by simp only [List.mem_range'_1] at hx; omega), same _ (fun x hx => by simp only [List.mem_range'_1] at hx; omega)]
  · intro k hk
    simp only [List.mem_filter, List.mem_range'_1] at hk
    exact ⟨by omega, by simpa using hk.2⟩
theorem way_anyL {P : Program} {ops : Array Oper} {F : Fence} (hF : Fr F) {nt : Nat} {g0 : Gh} {w0 : World} {hid : List Nat} {Fin : St} {Q : Exit → Act → World → Prop} {n1 : Nat} {oL : Oper} (hn : ops.size = n1 + 1) (hoL : ops[n1]? = some oL) (hcov : covB ops = true)
    (sps : List Spec) (hlen : n1 = sps.length) (hst : ∀ (i : Nat) o sp, ops[i]? = some o → sps[i]? = some sp → Step P ops o sp)
    (hnt : ∀ sp ∈ sps, ∀ x v, (x, v) ∈ sp.rT → x < nt) (hsy : ∀ (i j : Nat) x y s, sps[i]? = some x → sps[j]? = some y → x.sym = some s → y.sym = some s → i = j)
    (hok : drawOk (ops.toList.take n1) sps = true)
    (hQ : ∀ g w a S, Way nt g0 w0 g w a S hid [] → SEq S Fin → wpListIn F 0 P ops Q [oL] a w) :
    ∀ (fuel : Nat) (listed : Array Bool), listed.size = ops.size → listed.getD n1 true = false → (∀ i o, listed.getD i false = true → ops[i]? = some o → ∀ e ∈ o.after, Region.binds .any e = true → listed.getD e.on false = true) → fuel = (unlisted n1 listed).length →
      ∀ g w a S, Way nt g0 w0 g w a S hid ((unlisted n1 listed).map (fun i => sps.getD i {})) → valid ((unlisted n1 listed).map (fun i => sps.getD i {})) S Fin →
        wpAnyIn F 0 P .any ops Q (fuel + 1) listed a w := by
  have ready_iff : ∀ (listed : Array Bool) i, i ∈ Region.ready .any ops listed ↔ i ∈ unlisted ops.size listed ∧ ∀ o, ops[i]? = some o → ∀ e ∈ o.after, Region.binds .any e = true → listed.getD e.on false = true := by
    intro listed i
    unfold Region.ready unlisted
    simp only [List.mem_filter, List.mem_range, Bool.and_eq_true]
    constructor
    · rintro ⟨h1, h2, h3⟩
      refine ⟨⟨h1, h2⟩, fun o ho e he hb => ?_⟩
      rw [ho] at h3
      simp only [Option.map_some, Option.getD_some, Array.all_eq_true] at h3
      obtain ⟨j, hj, hje⟩ := Array.mem_iff_getElem.1 he
      have := h3 j hj
      rw [hje, hb] at this
      simpa using this
    · rintro ⟨⟨h1, h2⟩, h3⟩
      refine ⟨h1, h2, ?_⟩
      rw [Array.getElem?_eq_getElem h1]
      simp only [Option.map_some, Option.getD_some, Array.all_eq_true]
      intro j hj
      by_cases hb : Region.binds .any (ops[i].after[j]) = true
      · simp [h3 _ (Array.getElem?_eq_getElem h1) _ (Array.getElem_mem hj) hb]
      · simp [hb]
  have mem_un : ∀ (n : Nat) (listed : Array Bool) i, n ≤ listed.size → (i ∈ unlisted n listed ↔ i < n ∧ listed.getD i false = false) := by
    intro n listed i hsz
    unfold unlisted
    simp only [List.mem_filter, List.mem_range, Bool.not_eq_true']
    constructor
    · rintro ⟨h1, h2⟩
      refine ⟨h1, ?_⟩
      have : i < listed.size := by omega
      simp only [Array.getD_eq_getD_getElem?, Array.getElem?_eq_getElem this, Option.getD_some] at h2 ⊢
      exact h2
    · rintro ⟨h1, h2⟩
      refine ⟨h1, ?_⟩
      have : i < listed.size := by omega
      simp only [Array.getD_eq_getD_getElem?, Array.getElem?_eq_getElem this, Option.getD_some] at h2 ⊢
      exact h2
  simp only [covB, hn, Nat.add_sub_cancel, hoL, Bool.and_eq_true, List.all_eq_true, List.mem_range, List.any_eq_true, decide_eq_true_eq, Array.all_eq_true, Bool.or_eq_true, Bool.not_eq_true'] at hcov
  obtain ⟨hcov, hlast⟩ := hcov
  have hlast' : ∀ e ∈ oL.after, Region.binds .any e = true → e.on < n1 := fun e he hb => by
    obtain ⟨j, hj, hje⟩ := Array.mem_iff_getElem.1 he
    rcases hlast j hj with h | h
    · rw [hje, hb] at h; cases h
    · rw [hje] at h; exact h
  have hlist : ∀ i : Nat, i < n1 → (ops.toList.take n1)[i]? = ops[i]? := fun i hi => by
    rw [List.getElem?_take, if_pos hi, Array.getElem?_toList]
  intro fuel
  induction fuel with
  | zero =>
    intro listed hsz hl hdown hf g w a S h hv
    have hnil : unlisted n1 listed = [] := List.eq_nil_of_length_eq_zero hf.symm
    have all : ∀ i, i < n1 → listed.getD i false = true := fun i hi => by
      cases hx : listed.getD i false with
      | true => rfl
      | false =>
        have := (mem_un n1 listed i (by omega)).2 ⟨hi, hx⟩
        rw [hnil] at this; cases this
    have hLr : n1 ∈ Region.ready .any ops listed := by
      refine (ready_iff listed n1).2 ⟨(mem_un _ _ _ (by omega)).2 ⟨by omega, ?_⟩, fun o ho e he hb => ?_⟩
      · have : n1 < listed.size := by omega
        simp only [Array.getD_eq_getD_getElem?, Array.getElem?_eq_getElem this, Option.getD_some] at hl ⊢
        exact hl
      · rw [hoL] at ho; cases ho
        exact all _ (hlast' e he hb)
    refine ⟨fun hnil' => (by rw [hnil'] at hLr; exact absurd hLr List.not_mem_nil), fun i hi => ?_⟩
    have hi2 := (mem_un _ _ _ (by omega)).1 ((ready_iff listed i).1 hi).1
    have : i = n1 := by
      by_cases h1 : i < n1
      · have := all i h1; rw [this] at hi2; cases hi2.2
      · omega
    subst this
    rw [hnil] at h hv
    have hw := hQ g w a S h hv
    have hr : Region.ready .any ops (listed.setIfInBounds i true) = [] := by
      rw [List.eq_nil_iff_forall_not_mem]
      intro j hj
      have hj2 := (mem_un _ _ _ (by simp; omega)).1 ((ready_iff _ j).1 hj).1
      by_cases hji : j = i
      · subst hji
        have := hj2.2
        simp [Array.getD_eq_getD_getElem?, show j < listed.size by omega] at this
      · have h3 := all j (by omega)
        have := hj2.2
        simp only [Array.getD_eq_getD_getElem?, Array.getElem?_setIfInBounds_ne (Ne.symm hji)] at this h3
        rw [h3] at this; cases this
    have hK : wpAnyIn F 0 P .any ops Q 0 (listed.setIfInBounds i true) = wpListIn F 0 P ops Q [] := by
      funext a' w'
      simp only [wpAnyIn, wpListIn, hr, true_and]
    rw [hK]
    unfold wpOpIn
    rw [hoL]
    exact hw
  | succ fuel ih =>
    intro listed hsz hl hdown hf g w a S h hv
    have hnot : ¬ (∀ i, i < n1 → listed.getD i false = true) := fun hall => by
      cases hu : unlisted n1 listed with
      | nil => rw [hu] at hf; cases hf
      | cons x y =>
        have := (mem_un n1 listed x (by omega)).1 (by rw [hu]; exact List.mem_cons_self)
        rw [hall x this.1] at this; cases this.2
    refine ⟨fun hnil => ?_, fun i hi => ?_⟩
    · exfalso
      obtain ⟨i0, r, hr⟩ : ∃ i0 r, unlisted n1 listed = i0 :: r := by
        cases hu : unlisted n1 listed with
        | nil => rw [hu] at hf; cases hf
        | cons x y => exact ⟨x, y, rfl⟩
      have hm : i0 ∈ unlisted n1 listed := by rw [hr]; exact List.mem_cons_self
      have hm2 := (mem_un n1 listed i0 (by omega)).1 hm
      have hlt : i0 < n1 := hm2.1
      have hs : sps[i0]? = some (sps[i0]'(by omega)) := List.getElem?_eq_getElem _
      have : i0 ∈ Region.ready .any ops listed := by
        refine (ready_iff listed i0).2 ⟨(mem_un _ _ _ (by omega)).2 ⟨by omega, hm2.2⟩, fun o ho e he hb => ?_⟩
        have hbefore := (drawOk_spec hok (o := o) (by rw [hlist _ hlt]; exact ho) hs).1 e he hb
        cases hl2 : listed.getD e.on false with
        | true => rfl
        | false =>
          exfalso
          obtain ⟨A, B, h1, _, h3⟩ := unlisted_splitL n1 listed e.on ((mem_un _ _ _ (by omega)).2 ⟨by omega, hl2⟩) (by omega)
          rw [hr] at h1
          cases A with
          | nil => injection h1 with h1 _; omega
          | cons x A =>
            injection h1 with h1 _
            have := (h3 x List.mem_cons_self).1
            omega
      rw [hnil] at this
      cases this
    · obtain ⟨hm, hedges⟩ := (ready_iff listed i).1 hi
      have hm2 := (mem_un _ _ _ (by omega)).1 hm
      have hlt : i < n1 := by
        by_cases h1 : i < n1
        · exact h1
        · exfalso
          have e : i = n1 := by omega
          subst e
          refine hnot ?_
          have key : ∀ k j, j < i → i - 1 - j = k → listed.getD j false = true := by
            intro k
            induction k using Nat.strongRecOn with
            | ind k ihk =>
              intro j hj hjk
              obtain ⟨j2, hj2, hlt2, hb⟩ := hcov j hj
              cases ho2 : ops[j2]? with
              | none => rw [ho2] at hb; cases hb
              | some o2 =>
                rw [ho2] at hb
                simp only [boundEdge, Array.any_eq_true, Bool.and_eq_true, beq_iff_eq] at hb
                obtain ⟨x, hx, hb1, hb2⟩ := hb
                by_cases hji : j2 = i
                · subst hji
                  have := hedges o2 ho2 _ (Array.getElem_mem hx) hb1
                  rwa [hb2] at this
                · have h3 := ihk (i - 1 - j2) (by omega) j2 (by omega) rfl
                  have := hdown j2 o2 h3 ho2 _ (Array.getElem_mem hx) hb1
                  rwa [hb2] at this
          exact fun j hj => key _ j hj rfl
      obtain ⟨A, B, h1, h2, h3⟩ := unlisted_splitL n1 listed i ((mem_un _ _ _ (by omega)).2 ⟨hlt, hm2.2⟩) (by omega)
      have ho : ops[i]? = some ops[i] := Array.getElem?_eq_getElem (by omega)
      have hs : sps[i]? = some (sps[i]'(by omega)) := List.getElem?_eq_getElem _
      have hgi : sps.getD i {} = sps[i]'(by omega) := by simp [List.getD_eq_getElem?_getD, hs]
      have hind : ∀ k ∈ A, Indep (sps.getD k {}) (sps.getD i {}) := by
        intro k hk
        obtain ⟨hki, hkl⟩ := h3 k hk
        have hsk : sps[k]? = some (sps[k]'(by omega)) := List.getElem?_eq_getElem _
        have hgk : sps.getD k {} = sps[k]'(by omega) := by simp [List.getD_eq_getElem?_getD, hsk]
        rw [hgk, hgi]
        rcases (drawOk_spec hok (o := ops[i]) (by rw [hlist _ hlt]; exact ho) hs).2 k _ hki hsk with hb | hb
        · exfalso
          unfold boundEdge at hb
          simp only [Array.any_eq_true, Bool.and_eq_true, beq_iff_eq] at hb
          obtain ⟨j, hj, hb1, hb2⟩ := hb
          have := hedges _ ho _ (Array.getElem_mem hj) hb1
          rw [hb2] at this
          have hk' : k < listed.size := by omega
          simp only [Array.getD_eq_getD_getElem?, Array.getElem?_eq_getElem hk', Option.getD_some] at this hkl
          rw [hkl] at this
          cases this
        · exact hb
      rw [h1, List.map_append, List.map_cons] at h hv
      obtain ⟨hreq, hv'⟩ := valid_move _ _ _ hv (by
        intro k hk
        obtain ⟨k', hk', rfl⟩ := List.mem_map.1 hk
        exact hind k' hk')
      have hway : Way nt g0 w0 g w a S hid (sps.getD i {} :: ((A ++ B).map fun i => sps.getD i {})) :=
        ⟨h.ext, h.rel, fun sp s hsp hss => h.held sp s (by
          rw [List.map_append] at hsp
          simp only [List.mem_cons, List.mem_append] at hsp ⊢
          rcases hsp with rfl | hsp | hsp
          · exact .inr (.inl rfl)
          · exact .inl hsp
          · exact .inr (.inr hsp)) hss⟩
      unfold wpOpIn
      rw [ho]
      dsimp only
      have hne : ∀ x ∈ A ++ B, x < n1 ∧ x ≠ i := by
        intro x hx
        rw [← h2] at hx
        unfold unlisted at hx
        simp only [List.mem_filter, List.mem_range] at hx
        refine ⟨hx.1, fun e => ?_⟩
        subst e
        simp [Array.getD_eq_getD_getElem?, show x < listed.size by omega] at hx
      refine hway.step hF (by rw [hgi]; exact hst i _ _ ho hs) hreq (by rw [hgi]; exact hnt _ (List.getElem_mem _)) ?_ _ Q ?_
      · intro sp' s hm' hss hss'
        obtain ⟨x, hx, rfl⟩ := List.mem_map.1 hm'
        have hx' := hne x hx
        have hsx : sps[x]? = some (sps[x]'(by omega)) := List.getElem?_eq_getElem _
        have hgx : sps.getD x {} = sps[x]'(by omega) := by simp [List.getD_eq_getElem?_getD, hsx]
        rw [hgx] at hss'
        rw [hgi] at hss
        exact hx'.2 (hsy x i _ _ s hsx hs hss' hss)
      · intro g' w' a' h'
        refine ih (listed.setIfInBounds i true) (by simpa using hsz) (by simp only [Array.getD_eq_getD_getElem?, Array.getElem?_setIfInBounds_ne (show i ≠ n1 by omega)] at hl ⊢; exact hl) ?_ ?_ g' w' a' _ (by rw [h2]; exact h') (by rw [h2, List.map_append]; exact hv')
        · intro k o hk hok' e he hb
          have up : ∀ x, listed.getD x false = true → (listed.setIfInBounds i true).getD x false = true := fun x hx => by
            by_cases hxi : i = x
            · subst hxi; simp [Array.getD_eq_getD_getElem?, show i < listed.size by omega]
            · simp only [Array.getD_eq_getD_getElem?, Array.getElem?_setIfInBounds_ne hxi] at hx ⊢; exact hx
          by_cases hki : i = k
          · subst hki
            exact up _ (hedges o hok' e he hb)
          · refine up _ (hdown k o ?_ hok' e he hb)
            simp only [Array.getD_eq_getD_getElem?, Array.getElem?_setIfInBounds_ne hki] at hk ⊢; exact hk
        rw [h1] at hf
        rw [h2]
        simp only [List.length_append, List.length_cons] at hf ⊢
        omega
def RegOKD (P : Program) (nt : Nat) (ops : Array Oper) (l : List Oper) (S : St) (σ : Nat → Nat) (next : St → Prop) : Prop :=
  ∃ sps ks Fin, Steps P ops l sps ∧ getsT sps S = wantsT sps ∧ getsM sps S = wantsM sps ∧ placesM sps S.mem = true ∧ needsM sps S ∧ chk nt true l sps = true ∧
    sps.map Spec.sym = symL (sps.map fun sp => sp.sym.isSome) σ 0 ∧ keepSt ks (finSt sps S) = Fin ∧ next Fin
theorem RegOKD.mk {P : Program} {nt : Nat} {ops : Array Oper} {l : List Oper} {S : St} {σ : Nat → Nat} {next : St → Prop} {sps : List Spec} (ks : List Nat) (Fin : St) (h1 : Steps P ops l sps) (h2 : getsT sps S = wantsT sps) (h3 : getsM sps S = wantsM sps)
    (h4 : placesM sps S.mem = true) (h4' : needsM sps S) (h5 : chk nt true l sps = true) (h6 : sps.map Spec.sym = symL (sps.map fun sp => sp.sym.isSome) σ 0) (h7 : keepSt ks (finSt sps S) = Fin) (h8 : next Fin) : RegOKD P nt ops l S σ next :=
  ⟨sps, ks, Fin, h1, h2, h3, h4, h4', h5, h6, h7, h8⟩
theorem RegOKD.m1 {P : Program} {nt : Nat} {ops : Array Oper} {l : List Oper} {S : St} {σ : Nat → Nat} {next : St → Prop} {sps : List Spec} (ks : List Nat) (Fin : St) (h1 : Steps P ops l sps) (h8 : next Fin) (h2 : getsT sps S = wantsT sps := by kernel_rfl) (h3 : getsM sps S = wantsM sps := by kernel_rfl)
    (h4 : placesM sps S.mem = true := by kernel_rfl) (h4' : noNeeds sps = true := by kernel_rfl) (h5 : chk nt true l sps = true := by kernel_rfl) (h6 : sps.map Spec.sym = symL (sps.map fun sp => sp.sym.isSome) σ 0 := by kernel_rfl) (h7 : keepSt ks (finSt sps S) = Fin := by kernel_rfl) : RegOKD P nt ops l S σ next := .mk ks Fin h1 h2 h3 h4 (noNeeds_of _ _ h4') h5 h6 h7 h8
theorem AC.regionD {F : Fence} (hF : Fr F) {P : Program} (hm : P.follows .mixedOrders = true) {nt id : Nat} {ops : Array Oper} {S : St} {Q : Exit → St → Prop} (n1 : Nat) (hn : ops.size = n1 + 1) (hcov : covB ops = true)
    (h : ∀ σ, RegOKD P nt ops (ops.toList.take n1) S σ (fun S' => RunL F P nt ops (ops.toList.drop n1) S' Q)) : AC F P nt (.region id ops true) S Q := by
  intro g w a hid hr
  obtain ⟨N, hN⟩ := hr.inv.room
  obtain ⟨sps, ks, Fin, hst, ht, hmm, hp, hnd, hc, hsy, hk, hq⟩ := h (fun i => N + i)
  have hlen : n1 = sps.length := by
    have := hst.length
    rw [List.length_take, Array.length_toList] at this
    omega
  have hoL : ops[n1]? = some ops[n1] := Array.getElem?_eq_getElem (by omega)
  have hdrop : ops.toList.drop n1 = [ops[n1]] := by
    rw [List.drop_eq_getElem_cons (by rw [Array.length_toList]; omega), List.drop_eq_nil_of_le (by rw [Array.length_toList]; omega)]
    simp
  simp only [chk, Bool.and_eq_true, List.all_eq_true, Bool.or_eq_true, Bool.not_eq_true'] at hc
  have hnt : ∀ sp ∈ sps, ∀ x v, (x, v) ∈ sp.rT → x < nt := fun sp hsp x v hx => by
    have := hc.1 sp hsp (x, v) hx
    simpa [Nat.blt_eq] using this
  have hsym : ∀ (i : Nat) sp s, sps[i]? = some sp → sp.sym = some s → s = N + i ∧ i < n1 := by
    intro i sp s hi hs
    have h1 : (sps.map Spec.sym)[i]? = some (some s) := by rw [List.getElem?_map, hi, ← hs]; rfl
    rw [hsy] at h1
    have := symL_at _ _ 0 i s h1
    refine ⟨by simpa using this, ?_⟩
    rw [hlen]
    exact (List.getElem?_eq_some_iff.1 hi).1
  let g1 := g.hold N n1
  have hext : ∀ w1 : World, Below g.base w w1 → (∀ x, w1.cell? x = w.cell? x) → Ext g w g1 w1 := fun w1 hb hcell =>
    ⟨rfl, hb, fun b o hi => ⟨hi, hcell _⟩, fun s _ hs => by
      show (if N ≤ s ∧ s < N + n1 then Sym.held else g.sy s) = g.sy s
      rw [if_neg]
      intro hlt
      exact hs (hN s hlt.1), fun s hs => by cases hs⟩
  have hinv : ∀ w1 : World, Below g.base w w1 → (∀ x, w1.cell? x = w.cell? x) → w1.heap = w.heap → Inv g1 w1 (S.mem ++ hid.map Ent.mark) := fun w1 hb hcell hh =>
    hr.inv.keep (hext w1 hb hcell) (fun e b _ _ => by rw [hh]) (fun e b o _ _ hi => hi) (fun b o hi => by rw [hh]; exact hr.inv.lt b o hi)
      ⟨N + n1, fun s hs => by
        show (if N ≤ s ∧ s < N + n1 then Sym.held else g.sy s) = Sym.free
        rw [if_neg (by omega)]
        exact hN s (by omega)⟩
  have hway : ∀ w1 : World, Below g.base w w1 → (∀ x, w1.cell? x = w.cell? x) → w1.heap = w.heap → ∀ l : List Spec, (∀ sp ∈ l, sp ∈ sps) → Way nt g w g1 w1 a S hid l := fun w1 hb hcell hh l hl =>
    ⟨hext w1 hb hcell, ⟨hr.size, hr.defers, EnvOK.stab (hext w1 hb hcell) hr.env, hinv w1 hb hcell hh⟩, fun sp s hsp hs => by
      obtain ⟨i, hi⟩ := List.getElem?_of_mem (hl sp hsp)
      obtain ⟨h1, h2⟩ := hsym i sp s hi hs
      subst h1
      refine ⟨?_, hN _ (by omega)⟩
      show (if N ≤ N + i ∧ N + i < N + n1 then Sym.held else g.sy (N + i)) = Sym.held
      rw [if_pos (by omega)]⟩
  have hval := valid_of sps S ht hmm hp hnd
  refine wpIn_region_any hm ?_
  have hz : unlisted n1 (Array.replicate ops.size false) = List.range n1 := by
    unfold unlisted
    rw [List.filter_eq_self]
    intro i hi
    simp only [List.mem_range] at hi
    simp [Array.getD_eq_getD_getElem?, show i < ops.size by omega]
  have hmap : (List.range n1).map (fun i => sps.getD i {}) = sps := by
    apply List.ext_getElem?
    intro i
    rw [List.getElem?_map]
    by_cases hi : i < sps.length
    · rw [List.getElem?_range (by omega)]
      simp [List.getD_eq_getElem?_getD, List.getElem?_eq_getElem hi]
    · rw [List.getElem?_eq_none (by simpa using Nat.le_of_not_lt (by rw [hlen]; exact hi)), List.getElem?_eq_none (by omega)]
      rfl
  have hdrew : Below g.base w { w with drawn := w.drawn + 1 } := (Below.refl _ _).drew
  rw [hn]
  rw [hn] at hz
  refine way_anyL hF hn hoL hcov sps hlen (fun i o sp h1 h2 => hst.at_ i o sp (by
      have : i < sps.length := (List.getElem?_eq_some_iff.1 h2).1
      rw [List.getElem?_take, if_pos (by omega), Array.getElem?_toList]; exact h1) h2) hnt ?_ ?_
    (hid := hid) (Fin := finSt sps S) (Q := fun ex a' w' => ∃ g' S' hid', Rel nt g' w' a' S' hid' ∧ Ext g w g' w' ∧ Q ex S') (g0 := g) (w0 := w) (nt := nt) ?_ n1 (Array.replicate (n1 + 1) false) (by simp [hn]) (by simp [Array.getD_eq_getD_getElem?]) ?_ (by rw [hz]; simp)
    g1 { w with drawn := w.drawn + 1 } a S ?_ ?_
  · intro i j x y s hi hj h1 h2
    have e1 := (hsym i _ s hi h1).1
    have e2 := (hsym j _ s hj h2).1
    omega
  · simpa using hc.2
  · intro g' w' a' S' hw hs
    have h9 := hq g w g' w' a' hid hw.ext (hw.rel.weak ⟨fun x => by rw [← hk, hs.t x]; exact getT_keep ks (getT (finSt sps S).env) x, by rw [← hk, hs.m]; rfl, fun i e he => by rw [← hk] at he; rw [hs.m]; exact .inr he⟩)
    rw [hdrop] at h9
    exact h9
  · intro i o hi
    exfalso
    simp only [Array.getD_eq_getD_getElem?, Array.getElem?_replicate] at hi
    split at hi <;> simp at hi
  · rw [hz, hmap]; exact hway _ hdrew (fun _ => rfl) rfl sps (fun _ h => h)
  · rw [hz, hmap]; exact hval
end Go.Proofs.Yteomgedahkpnlaa
end
section

namespace Go.Proofs.Yteomgedahkpnlaa
open Go.RowKit
theorem rep_free {g : Gh} {w : World} {u : Value} {es : List AV} {own : Option Nat} (h : Rep g w u (.slice es own)) : Rep g w u (.slice es none) := by
  cases h with
  | slice b o vals hl hA hsz hc hr hle how => exact .slice b o vals hl hA hsz hc hr hle (fun s hs => by cases hs)
theorem rep_nils {g : Gh} {w : World} {u : Value} (h : Rep g w u .nils) : Rep g w u (.slice [] none) := by
  cases h
  exact .slice 0 0 (fun _ _ => undef) rfl (fun h => absurd rfl h) (sz := 0) (fun e he => by cases he) (fun i e j c h => by simp at h) (fun i e j c h => by simp at h) (Nat.le_refl _) (fun s hs => by cases hs)
section
variable {F : Fence} {P : Program} {nt : Nat} {S : St} {Q : Exit → St → Prop}
theorem AC.as_ {c : Code} (t : Nat) (a a' : AV) (h : getT S.env t = a) (ha : ∀ g w u, Rep g w u a → Rep g w u a') (k : AC F P nt c ⟨(t, a') :: S.env, S.mem⟩ Q) : AC F P nt c S Q := by
  intro g w a2 hid hr
  refine k g w a2 hid ⟨hr.size, hr.defers, fun x u hx => ?_, hr.inv⟩
  show Rep g w u (if x = t then a' else getT S.env x)
  have h0 := hr.env x u hx
  by_cases e : x = t
  · subst e
    rw [if_pos rfl]
    rw [h] at h0
    exact ha g w u h0
  · rw [if_neg e]; exact h0
theorem AC.joinT {a b : Code} {Q' : Exit → St → Prop} (J : St → Prop) (h : AC F P nt a S (thenQ (fun S' => ∃ T, J T ∧ Weak S' T) Q')) (k : ∀ T, J T → AC F P nt b T Q) : AC F P nt a S (thenQ (fun S' => AC F P nt b S' Q) Q') :=
  h.mono fun ex S' hq => by
    cases ex with
    | normal =>
      obtain ⟨T, hT, hw⟩ := hq
      exact (k T hT).weaken hw
    | _ => exact hq
theorem AC.free {c : Code} (t : Nat) (es : List AV) (own : Option Nat) (h : getT S.env t = .slice es own) (k : AC F P nt c ⟨(t, .slice es none) :: S.env, S.mem⟩ Q) : AC F P nt c S Q :=
  AC.as_ t _ _ h (fun _ _ _ => rep_free) k
theorem AC.nil {c : Code} (t : Nat) (h : getT S.env t = .nils) (k : AC F P nt c ⟨(t, .slice [] none) :: S.env, S.mem⟩ Q) : AC F P nt c S Q :=
  AC.as_ t _ _ h (fun _ _ _ => rep_nils) k
end
section
variable {P : Program} {ops : Array Oper} {ty : TypeId} {pos : String} {aft : Array Edge} {d : Nat}
theorem s_ixV {α : Type} {l : List α} {f : α → AV} {v : α} (df : α) {t e : TypeId} {x y : Operand} {n : Nat} {own : Option Nat} {k : IntKind} {i : Int} {lx ly : List (Nat × AV)} (hv : l.getD i.toNat df = v) (ht : SliceT P t e n) (hx : Opd x (.slice (l.map f) own) lx) (hy : Opd y (.int k i) ly)
    (h : 0 ≤ i ∧ i < l.length) (hn : (f v).cells.length = n) : Step P ops ⟨some d, .indexAddr t x y, ty, pos, aft, none⟩ { rT := lx ++ ly, wT := some (d, .eptr (f v) 0) } := by
  subst hv
  exact s_ixM df ht hx hy h hn
theorem append0_run {t e : TypeId} {x y : Operand} {sz s : Nat} {es : List AV} {lx ly : List (Nat × AV)} (ht : SliceT P t e sz) (hx : Opd x (.slice es (some s)) lx) (hy : Opd y (.slice [] none) ly) {g : Gh} {w : World} {a : Act} (hT : HasT g w a (lx ++ ly)) :
    ∃ u, (execOp a.eval ⟨some d, .call { callee := .builtin .append, args := #[x, y], argTypes := #[t, t] }, ty, pos, aft, none⟩).run P w = .ok (.value u) w ∧ Rep g w u (.slice es (some s)) := by
  have hX := hx g w a hT.left
  have hY := hy g w a hT.right
  generalize hux : a.eval x = ux at hX
  generalize huy : a.eval y = uy at hY
  refine ⟨ux, ?_, hX⟩
  cases hX with
  | slice b o vals hl hA hsz hc hr hle how =>
    cases hY with
    | slice b2 o2 vals2 hl2 hA2 hsz2 hc2 hr2 hle2 how2 =>
      rename_i A len cap sz1 A2 len2 cap2 sz2
      have e0 : len2 = 0 := by simpa using hl2.symm
      subst e0
      have h0 : ∀ (ad : Addr), (loadCells ad 0).run P w = .ok #[] w := fun ad => by
        have := run_loadCells (P := P) w ad 0 (fun _ => undef) (fun j hj => by omega)
        simpa using this
      have h2 : (Builtin.firstCells sz 0 (.slice A2 0 cap2)).run P w = .ok #[] w := by
        cases A2 with
        | none => simp [Builtin.firstCells]
        | some ad => simp [Builtin.firstCells, h0]
      have h3 : ∀ ad : Addr, (storeCells ad ([] : List Value)).run P w = .ok () w := fun ad => by simp [storeCells]
      have key : (Builtin.append_ #[t, t] ty #[.slice A len cap, .slice A2 0 cap2]).run P w = .ok (.slice A len cap) w := by
        cases A with
        | none => simp [Builtin.append_, run_underlying ht.1, run_size ht.2, Builtin.lenOf, h2, hle, Result.andThen]
        | some ad => simp [Builtin.append_, run_underlying ht.1, run_size ht.2, Builtin.lenOf, h2, hle, h3, Result.andThen]
      simp [execOp, resolve, invoke, builtin, hux, huy, key]
theorem s_append0 {t e : TypeId} {x y : Operand} {n sz s : Nat} {es : List AV} {lx ly : List (Nat × AV)} (p : Nat) (ht : SliceT P t e sz) (hx : Opd x (.slice es (some s)) lx) (hy : Opd y (.slice [] none) ly) (hint : P.underlying t = some (.slice e)) :
    Step P ops ⟨some d, .call { callee := .builtin .append, args := #[x, y], argTypes := #[t, t] }, ty, pos, aft, none⟩ { rT := lx ++ ly, rM := [(p, .row s n e sz)], wT := some (d, .slice es (some s)) } :=
  Step.calc (by simp) fun g w a mem hi hT hM => append0_run ht hx hy hT
end
end Go.Proofs.Yteomgedahkpnlaa
end
section

namespace Go.Proofs.Yteomgedahkpnlaa
open Go.RowKit
abbrev pairA (e : Int × Int) : AV := .agg [I e.1, I e.2]
def ents (ks : List (Int × Int)) : List (AV × AV) := ks.map fun k => (pairA k, AV.bool true)
def ins (ks : List (Int × Int)) (k : Int × Int) : List (Int × Int) := if k ∈ ks then ks else ks ++ [k]
def KeyEq (P : Program) (kt : TypeId) : Prop := ∀ (a b : Int × Int) (w : World), (Op.equal kt (conc (pairA a)) (conc (pairA b))).run P w = .ok (decide (a = b)) w
theorem askAt {P : Program} {kt : TypeId} (he : KeyEq P kt) (k : Int × Int) : ∀ (l : List MapEntry) (ks : List (Int × Int)) (i : Nat) (w : World), l.map (fun e => (e.key, e.val)) = (ents ks).map (fun p => (conc p.1, conc p.2)) →
    (Instr.findAsking kt (conc (pairA k)) l i).run P w = .ok (if k ∈ ks then some (i + ks.idxOf k, .bool true) else none) w
  | [], [], i, w, h => by simp [Instr.findAsking]
  | [], x :: ks, i, w, h => by simp [ents] at h
  | e :: l, [], i, w, h => by simp [ents] at h
  | e :: l, x :: ks, i, w, h => by
    simp only [ents, List.map_cons, List.cons.injEq, Prod.mk.injEq] at h
    obtain ⟨⟨h1, h2⟩, h3⟩ := h
    have h1' : e.key = conc (pairA x) := h1
    have h2' : e.val = .bool true := h2
    unfold Instr.findAsking
    rw [Sem.run_bind, h1', he k x w, Result.andThen_ok]
    by_cases hk : k = x
    · subst hk
      simp [h2']
    · have ih := askAt he k l ks (i + 1) w h3
      simp only [decide_eq_false hk, Bool.false_eq_true, if_false]
      rw [ih]
      by_cases hm : k ∈ ks
      · have hx : List.idxOf k (x :: ks) = ks.idxOf k + 1 := by
          rw [List.idxOf_cons, show (x == k) = false from beq_eq_false_iff_ne.2 (Ne.symm hk)]; rfl
        rw [if_pos hm, if_pos (List.mem_cons_of_mem _ hm), hx]
        congr 3
        omega
      · rw [if_neg hm, if_neg (fun h9 => (List.mem_cons.1 h9).elim hk hm)]
theorem findAt {P : Program} {kt : TypeId} {fs : Array Field} (hu : P.underlying kt = some (.struct fs)) (he : KeyEq P kt) (k : Int × Int) (l : List MapEntry) (ks : List (Int × Int)) (w : World) (h : l.map (fun e => (e.key, e.val)) = (ents ks).map (fun p => (conc p.1, conc p.2))) :
    (Instr.findKey kt (conc (pairA k)) l).run P w = .ok (if k ∈ ks then some (ks.idxOf k, .bool true) else none) w := by
  unfold Instr.findKey
  rw [Sem.run_bind, run_underlying hu, Result.andThen_ok]
  cases l with
  | nil =>
    cases ks with
    | nil => simp [Instr.findNow]
    | cons x ks => simp [ents] at h
  | cons e l =>
    have := askAt he k (e :: l) ks 0 w h
    simp only [Nat.zero_add] at this
    have h0 : Instr.findNow (.struct fs) (conc (pairA k)) (e :: l) 0 = none := by
      simp [Instr.findNow, Instr.sameNow]
    rw [h0]
    exact this
theorem sameBits_pair (k : Int × Int) : Instr.sameBits 10000 (conc (pairA k)) (conc (pairA k)) = true := by
  show Instr.sameBits (9999 + 1) (.agg #[.int .i64 k.1, .int .i64 k.2]) (.agg #[.int .i64 k.1, .int .i64 k.2]) = true
  simp [Instr.sameBits]
theorem runUpd {P : Program} {T kt vt : TypeId} {fs : Array Field} (hT : P.underlying T = some (.map kt vt)) (hu : P.underlying kt = some (.struct fs)) (he : KeyEq P kt) (k : Int × Int) (hk : KeyOK P kt (pairA k)) {ks : List (Int × Int)} {b : Nat} {w : World} {a : Array MapEntry} {c : Nat} (hb : w.heap[b]? = some (.map a c))
    (ha : a.toList.map (fun e => (e.key, e.val)) = (ents ks).map (fun p => (conc p.1, conc p.2))) :
    ∃ a' c', (Instr.mapUpdate T (.map (some b)) (conc (pairA k)) (.bool true)).run P w = .ok () (World.putO w b (.map a' c')) ∧ a'.toList.map (fun e => (e.key, e.val)) = (ents (ins ks k)).map (fun p => (conc p.1, conc p.2)) := by
  have hf := findAt hu he k a.toList ks w ha
  by_cases hm : k ∈ ks
  · rw [if_pos hm] at hf
    have hi : ks.idxOf k < ks.length := List.idxOf_lt_length_iff.2 hm
    have hg : ks[ks.idxOf k]'hi = k := List.getElem_idxOf hi
    have hlen : a.size = ks.length := by
      have := congrArg List.length ha
      simpa [ents] using this
    have hat : ∀ j (hj : j < ks.length), (a[j]'(by omega)).key = conc (pairA (ks[j])) ∧ (a[j]'(by omega)).val = .bool true := by
      intro j hj
      have := congrArg (fun l => l[j]?) ha
      simp only [List.getElem?_map, ents] at this
      rw [Array.getElem?_toList, Array.getElem?_eq_getElem (by omega), List.getElem?_eq_getElem hj] at this
      simp only [Option.map_some, Option.some.injEq, Prod.mk.injEq] at this
      exact this
    refine ⟨a.modify (ks.idxOf k) fun e => { e with key := conc (pairA k), val := .bool true }, c, ?_, ?_⟩
    · have hold : ((a[ks.idxOf k]?).map (·.key)).getD (conc (pairA k)) = conc (pairA k) := by
        rw [Array.getElem?_eq_getElem (by omega)]
        simp only [Option.map_some, Option.getD_some]
        rw [(hat _ hi).1, hg]
      simp only [Instr.mapUpdate, Sem.run_bind, run_underlying hT, Go.MapKept.run_getObj_map hb, hk false w, hf, Result.andThen_ok, hold, Instr.keyThatStays, sameBits_pair, if_true, Sem.run_pure, Go.MapKept.run_setObj_map _ hb]
      rfl
    · unfold ins
      rw [if_pos hm, ← ha]
      apply List.ext_getElem?
      intro j
      simp only [List.getElem?_map, Array.getElem?_toList, Array.getElem?_modify]
      split
      · rename_i hj
        subst hj
        rw [Array.getElem?_eq_getElem (by omega)]
        simp only [Option.map_some, Option.some.injEq, Prod.mk.injEq]
        have := hat _ hi
        rw [hg] at this
        exact ⟨this.1.symm, this.2.symm⟩
      · rfl
  · rw [if_neg hm] at hf
    refine ⟨a.push { key := conc (pairA k), val := .bool true, born := c }, c + 1, ?_, ?_⟩
    · simp only [Instr.mapUpdate, Sem.run_bind, run_underlying hT, Go.MapKept.run_getObj_map hb, hk false w, hf, Result.andThen_ok, Go.MapKept.run_setObj_map _ hb]
      rfl
    · unfold ins
      rw [if_neg hm]
      simp only [Array.toList_push, List.map_append, ha, ents, List.map_cons, List.map_nil]
      rfl
section
variable {P : Program} {ops : Array Oper} {ty : TypeId} {pos : String} {aft : Array Edge} {d : Nat}
theorem s_mapUpdate {T kt vt : TypeId} {fs : Array Field} {m k x : Operand} {s : Nat} {ks : List (Int × Int)} {kv : Int × Int} {lm lk lx : List (Nat × AV)} (p : Nat) (hT : P.underlying T = some (.map kt vt)) (hu : P.underlying kt = some (.struct fs)) (he : KeyEq P kt) (hko : ∀ k, KeyOK P kt (pairA k)) (hm : Opd m (.mp s) lm) (hk : Opd k (pairA kv) lk) (hx : Opd x (.bool true) lx) :
    Step P ops ⟨none, .mapUpdate T m k x, ty, pos, aft, none⟩ { rT := lm ++ (lk ++ lx), rM := [(p, .obj s (MapIs (ents ks)))], wM := some (p, .obj s (MapIs (ents (ins ks kv)))) } :=
  Step.skip rfl rfl rfl (by simp) fun g w a mem hi hT' hM hs hp => by
    have h := hm g w a hT'.left
    have h1 := conc_of (hk g w a hT'.right.left) rfl
    have h2 := conc_of (hx g w a hT'.right.right) rfl
    generalize hu' : a.eval m = u at h
    cases h with
    | mp hsb =>
      rename_i b
      have hpm := hM p (.obj s (MapIs (ents ks))) (by simp)
      obtain ⟨arr, c, hb, hes⟩ := MapIs.at hi hpm hsb
      obtain ⟨a', c', hrun, h9⟩ := runUpd hT hu he kv (hko kv) hb hes
      obtain ⟨k1, k2⟩ := hi.setObj hpm hsb (.map a' c') (ψ := MapIs (ents (ins ks kv))) ⟨_, _, rfl, h9⟩
      refine ⟨_, g, ?_, k1, k2⟩
      have h2' : a.eval x = .bool true := h2
      simp [execOp, hu', h1, h2', hrun]
theorem s_mapHas {T kt vt : TypeId} {fs : Array Field} {m k : Operand} {s : Nat} {ks : List (Int × Int)} {kv : Int × Int} {lm lk : List (Nat × AV)} (p : Nat) (hT : P.underlying T = some (.map kt vt)) (hu : P.underlying kt = some (.struct fs)) (hz : Zero P vt (.bool false)) (he : KeyEq P kt) (hko : ∀ k, KeyOK P kt (pairA k)) (hm : Opd m (.mp s) lm) (hk : Opd k (pairA kv) lk) :
    Step P ops ⟨some d, .lookup T m k false, ty, pos, aft, none⟩ { rT := lm ++ lk, rM := [(p, .obj s (MapIs (ents ks)))], wT := some (d, .bool (decide (kv ∈ ks))) } :=
  Step.calc (by simp) fun g w a mem hi hT' hM => by
    have h := hm g w a hT'.left
    have h1 := conc_of (hk g w a hT'.right) rfl
    generalize hu' : a.eval m = u at h
    cases h with
    | mp hsb =>
      rename_i b
      obtain ⟨arr, c, hb, hes⟩ := MapIs.at hi (hM p (.obj s (MapIs (ents ks))) (by simp)) hsb
      have hf := findAt hu he kv arr.toList ks w hes
      refine ⟨.bool (decide (kv ∈ ks)), ?_, .bool _⟩
      have hl : (Instr.lookup T (.map (some b)) (conc (pairA kv)) false).run P w = .ok (.bool (decide (kv ∈ ks))) w := by
        by_cases hmem : kv ∈ ks
        · rw [if_pos hmem] at hf
          simp [Instr.lookup, run_underlying hT, Go.MapKept.run_getObj_map hb, hko kv _ w, hf, Result.andThen, hmem]
        · rw [if_neg hmem] at hf
          simp [Instr.lookup, run_underlying hT, Go.MapKept.run_getObj_map hb, hko kv _ w, hf, Result.andThen, hmem, run_zero hz]
      simp [execOp, hu', h1, hl]
end
end Go.Proofs.Yteomgedahkpnlaa
end
section

namespace Go.Proofs.Yteomgedahkpnlaa
abbrev Opn := Int × Int
theorem ins_mem {ks : List Opn} {k x : Opn} : x ∈ ins ks k ↔ x ∈ ks ∨ x = k := by
  unfold ins
  split
  · rename_i h
    exact ⟨.inl, fun h2 => h2.elim id fun e => e ▸ h⟩
  · rw [List.mem_append, List.mem_singleton]
def insAll (p : Int) (ks : List Opn) (l : List Nat) : List Opn := l.foldl (fun ks (i : Nat) => ins ks ((i : Int), p)) ks
theorem insAll_snoc (p : Int) (ks : List Opn) (l : List Nat) (i : Nat) : insAll p ks (l ++ [i]) = ins (insAll p ks l) ((i : Int), p) := by
  unfold insAll
  rw [List.foldl_append]; rfl
theorem insAll_mem {p : Int} {x : Opn} : ∀ {l : List Nat} {ks : List Opn}, x ∈ insAll p ks l ↔ x ∈ ks ∨ ∃ i : Nat, i ∈ l ∧ x = ((i : Int), p)
  | [], ks => ⟨.inl, fun h => h.elim id fun ⟨i, hi, _⟩ => absurd hi List.not_mem_nil⟩
  | i :: l, ks => by
    show x ∈ insAll p (ins ks ((i : Int), p)) l ↔ _
    rw [insAll_mem, ins_mem]
    constructor
    · rintro ((h | h) | ⟨j, hj, e⟩)
      · exact .inl h
      · exact .inr ⟨i, List.mem_cons_self, h⟩
      · exact .inr ⟨j, List.mem_cons_of_mem _ hj, e⟩
    · rintro (h | ⟨j, hj, e⟩)
      · exact .inl (.inl h)
      · rcases List.mem_cons.1 hj with hj | hj
        · subst hj; exact .inl (.inr e)
        · exact .inr ⟨j, hj, e⟩
def keysTo (f : Feeder) (ws : List Opn) : Nat → List Opn
  | 0 => []
  | m + 1 => insAll (ws.getD m (0, 0)).2 (keysTo f ws m) (dfs f.nodes f.nodes.length (ws.getD m (0, 0)).1.toNat)
def isDark (f : Feeder) (ws : List Opn) (i : Nat) (p : Int) : Bool := ws.any fun w => decide (w.2 = p) && beh f.nodes w.1.toNat i
def opnBad (f : Feeder) (w : Opn) : Bool := !(decide (0 ≤ w.1) && decide (w.1 ≤ (f.nodes.length : Int) - 1)) || !(decide (0 ≤ w.2) && decide (w.2 ≤ 2))
theorem keys_iff {f : Feeder} (ht : Tree f.nodes) {ws : List Opn} (hw : ∀ j : Nat, j < ws.length → 0 ≤ (ws.getD j (0, 0)).1 ∧ (ws.getD j (0, 0)).1 < (f.nodes.length : Int)) {i : Nat} (hi : i < f.nodes.length) (p : Int) :
    ((i : Int), p) ∈ keysTo f ws ws.length ↔ isDark f ws i p = true := by
  have key : ∀ m : Nat, m ≤ ws.length → (((i : Int), p) ∈ keysTo f ws m ↔ ∃ j : Nat, j < m ∧ (ws.getD j (0, 0)).2 = p ∧ beh f.nodes (ws.getD j (0, 0)).1.toNat i = true) := by
    intro m
    induction m with
    | zero => exact fun _ => ⟨fun h => absurd h List.not_mem_nil, fun ⟨j, hj, _⟩ => absurd hj (by omega)⟩
    | succ m ih =>
      intro hm
      have hwm := hw m (by omega)
      show _ ∈ insAll _ _ _ ↔ _
      rw [insAll_mem, ih (by omega)]
      constructor
      · rintro (⟨j, hj, h⟩ | ⟨k, hk, e⟩)
        · exact ⟨j, by omega, h⟩
        · injection e with e1 e2
          have : k = i := by omega
          subst this
          exact ⟨m, by omega, e2.symm, ((mem_dfs ht _ _ (by omega) (by omega) k).1 hk).2⟩
      · rintro ⟨j, hj, h1, h2⟩
        rcases Nat.lt_or_ge j m with h | h
        · exact .inl ⟨j, h, h1, h2⟩
        · have : j = m := by omega
          subst this
          exact .inr ⟨i, (mem_dfs ht _ _ (by omega) (by omega) i).2 ⟨hi, h2⟩, by rw [h1]⟩
  rw [key _ (Nat.le_refl _)]
  unfold isDark
  rw [List.any_eq_true]
  constructor
  · rintro ⟨j, hj, h1, h2⟩
    exact ⟨_, getD_mem (d := (0, 0)) hj, by rw [decide_eq_true h1, h2]; rfl⟩
  · rintro ⟨x, hx, h⟩
    obtain ⟨j, hj⟩ := List.getElem?_of_mem hx
    have hlt := (List.getElem?_eq_some_iff.1 hj).1
    have e : ws.getD j (0, 0) = x := by rw [List.getD_eq_getElem?_getD, hj]; rfl
    rw [Bool.and_eq_true, decide_eq_true_iff] at h
    exact ⟨j, hlt, by rw [e]; exact h.1, by rw [e]; exact h.2⟩
def co (b : Bool) (x : Opn) : List Opn := if b then [x] else []
def darkAt (f : Feeder) (ws : List Opn) (i : Nat) : List Opn := co (isDark f ws i 0) ((i : Int), 0) ++ co (isDark f ws i 1) ((i : Int), 1) ++ co (isDark f ws i 2) ((i : Int), 2)
def darkTo (f : Feeder) (ws : List Opn) : Nat → List Opn
  | 0 => []
  | i + 1 => darkTo f ws i ++ darkAt f ws i
def darkErr (f : Feeder) (ws : List Opn) : Int := if (check f).2.2 ≠ 0 then (check f).2.2 else if 120 < (ws.length : Int) then 3 else if ws.any (opnBad f) = true then 4 else 0
def darkRes (f : Feeder) (ws : List Opn) : List Opn × Int := if darkErr f ws ≠ 0 then ([], darkErr f ws) else (darkTo f ws f.nodes.length, 0)
end Go.Proofs.Yteomgedahkpnlaa
namespace Go.Proofs.Yteomgedahkpnlaa
theorem opn_ok {f : Feeder} {ws : List Opn} (h : ¬ ws.any (opnBad f) = true) : ∀ j : Nat, j < ws.length → (0 ≤ (ws.getD j (0, 0)).1 ∧ (ws.getD j (0, 0)).1 < (f.nodes.length : Int)) ∧ 0 ≤ (ws.getD j (0, 0)).2 ∧ (ws.getD j (0, 0)).2 ≤ 2 := by
  intro j hj
  have h1 : opnBad f (ws.getD j (0, 0)) = false := by
    rw [Bool.eq_false_iff]
    exact fun h2 => h (List.any_eq_true.2 ⟨_, getD_mem hj, h2⟩)
  unfold opnBad at h1
  simp only [Bool.or_eq_false_iff, Bool.not_eq_false', Bool.and_eq_true, decide_eq_true_eq] at h1
  omega
theorem darkRes_e {f : Feeder} {ws : List Opn} {e : Int} (h : darkErr f ws = e) (he : e ≠ 0) : darkRes f ws = ([], e) := by
  unfold darkRes
  rw [h, if_pos he]
theorem darkRes_0 {f : Feeder} {ws : List Opn} (h : darkErr f ws = 0) : darkRes f ws = (darkTo f ws f.nodes.length, 0) := by
  unfold darkRes
  rw [if_neg (fun h2 => h2 h)]
theorem keys_succ {f : Feeder} {ws : List Opn} {m n : Nat} (h : (ws.getD m (0, 0)).1 = (n : Int)) : keysTo f ws (m + 1) = insAll (ws.getD m (0, 0)).2 (keysTo f ws m) (dfs f.nodes f.nodes.length n) := by
  show insAll _ _ (dfs _ _ _) = _
  rw [h]; rfl
theorem dark_len {f : Feeder} {ws : List Opn} : ∀ i : Nat, (darkTo f ws i).length ≤ 3 * i
  | 0 => Nat.le_refl _
  | i + 1 => by
    have := dark_len (f := f) (ws := ws) i
    have c : ∀ (b : Bool) (x : Opn), (co b x).length ≤ 1 := fun b x => by unfold co; split <;> simp
    have a := c (isDark f ws i 0) ((i : Int), 0)
    have b := c (isDark f ws i 1) ((i : Int), 1)
    have d := c (isDark f ws i 2) ((i : Int), 2)
    show (darkTo f ws i ++ darkAt f ws i).length ≤ _
    unfold darkAt
    simp only [List.length_append]
    omega
end Go.Proofs.Yteomgedahkpnlaa
end
section

namespace Go.Proofs.Yteomgedahkpnlaa
def darkE0 (f : Feeder) (ws : List Opn) : Int := if (check f).2.2 ≠ 0 then (check f).2.2 else if 120 < (ws.length : Int) then 3 else 0
theorem darkE_end {f : Feeder} {ws : List Opn} {k : Nat} {e e0 : Int} (he0 : e0 = darkE0 f ws) (he : (e = e0 ∧ ∀ j : Nat, j < k → opnBad f (ws.getD j (0, 0)) = false) ∨ (e = 4 ∧ e0 = 0 ∧ ws.any (opnBad f) = true)) (q : ¬ ((k : Int) < (ws.length : Int) ∧ e = 0)) (hk : k ≤ ws.length) : e = darkErr f ws := by
  unfold darkE0 at he0
  unfold darkErr
  by_cases h1 : (check f).2.2 ≠ 0
  · rw [if_pos h1] at he0 ⊢
    rcases he with ⟨h, _⟩ | ⟨_, h, _⟩
    · omega
    · omega
  · rw [if_neg h1] at he0 ⊢
    by_cases h2 : 120 < (ws.length : Int)
    · rw [if_pos h2] at he0 ⊢
      rcases he with ⟨h, _⟩ | ⟨_, h, _⟩
      · omega
      · omega
    · rw [if_neg h2] at he0 ⊢
      rcases he with ⟨h, h3⟩ | ⟨h, _, h3⟩
      · have hkl : k = ws.length := by
          have : ¬ (k : Int) < (ws.length : Int) := fun h4 => q ⟨h4, by omega⟩
          omega
        have : ws.any (opnBad f) = false := any_not (0, 0) (fun j hj => h3 j (by omega))
        rw [if_neg (by rw [this]; decide)]
        omega
      · rw [if_pos h3]; exact h
theorem dark_zero {f : Feeder} {ws : List Opn} (h : darkErr f ws = 0) : (check f).2.2 = 0 ∧ ws.length ≤ 120 ∧ ¬ ws.any (opnBad f) = true := by
  unfold darkErr at h
  split at h
  · rename_i h1; exact absurd h h1
  · rename_i h1
    split at h
    · omega
    · split at h
      · omega
      · rename_i h2 h3
        exact ⟨Decidable.not_not.1 h1, by omega, h3⟩
theorem dark_b {f : Feeder} {ws : List Opn} {i q : Nat} {p : Int} {b : Bool} (hb : b = (ws.take q).any fun w => decide (w.2 = p) && beh f.nodes w.1.toNat i) (hq : q = ws.length) : isDark f ws i p = b := by
  rw [hb, hq, List.take_length]; rfl
theorem dark_step {f : Feeder} {ws : List Opn} {i q n : Nat} {p : Int} {b x : Bool} (hb : b = (ws.take q).any fun w => decide (w.2 = p) && beh f.nodes w.1.toNat i) (hq : q < ws.length) (hn : (ws.getD q (0, 0)).1 = (n : Int)) (hx : x = (b || (decide ((ws.getD q (0, 0)).2 = p) && (decide ((n : Int) = 0) || onB f.nodes n i)))) :
    x = (ws.take (q + 1)).any fun w => decide (w.2 = p) && beh f.nodes w.1.toNat i := by
  rw [take_snoc (0, 0) hq, List.any_append, ← hb, hx]
  congr 1
  rw [List.any_cons, List.any_nil, Bool.or_false, hn]
  congr 1
  show _ = beh f.nodes n i
  rcases Nat.eq_zero_or_pos n with h0 | h0
  · subst h0
    have : beh f.nodes 0 i = true := beh_iff.2 (.inl rfl)
    rw [this]; rfl
  · rw [onB_beh h0, decide_eq_false (by omega)]; rfl
end Go.Proofs.Yteomgedahkpnlaa
namespace Go.Proofs.Yteomgedahkpnlaa
theorem same_at {a b : Opn} (h : (!(decide (a.1 = b.1) && (decide (a.2 = b.2) && true))) = false) : a = b := by
  simp only [Bool.and_true, Bool.not_eq_false', Bool.and_eq_true, decide_eq_true_eq] at h
  exact Prod.ext h.1 h.2
theorem same_all {l m : List Opn} (hl : l.length = m.length) (h : ∀ j : Nat, j < l.length → l.getD j (0, 0) = m.getD j (0, 0)) : l = m := by
  apply List.ext_getElem hl
  intro j h1 h2
  have := h j h1
  rw [List.getD_eq_getElem?_getD, List.getD_eq_getElem?_getD, List.getElem?_eq_getElem h1, List.getElem?_eq_getElem h2] at this
  exact this
theorem darkRes_len (f : Feeder) (ws : List Opn) : ((darkRes f ws).1.length : Int) ≤ 9223372036854775807 := by
  unfold darkRes
  split
  · simp
  · rename_i h
    have dz := dark_zero (Decidable.not_not.1 h)
    have g := (FG.of dz.1).nn
    have := dark_len (f := f) (ws := ws) f.nodes.length
    dsimp only
    omega
end Go.Proofs.Yteomgedahkpnlaa
end
section
set_option maxRecDepth 100000
namespace Go.Proofs.Yteomgedahkpnlaa
open Go.Proofs
theorem eqD26 (d : Nat) (a b c e : Int) : EqD Try.prog (d + 2) 26 (.agg #[.int .i64 a, .int .i64 b]) (.agg #[.int .i64 c, .int .i64 e]) (decide (a = c) && (decide (b = e) && true)) :=
  EqD.struct Try.underlying26 (by kernel_rfl) (.cons (by decide) (PartD.one tyS3 rfl) (PartD.one tyS3 rfl) (EqD.int Try.underlying3 _ _ _ _) (.cons (by decide) (PartD.one tyS3 rfl) (PartD.one tyS3 rfl) (EqD.int Try.underlying3 _ _ _ _) .nil))
theorem eqT26 (a b c e : Int) : EqT Try.prog 26 (.agg [I a, I b]) (.agg [I c, I e]) (decide (a = c) && (decide (b = e) && true)) :=
  EqT.of (eqD26 9998 a b c e) (fun w op o p => eqGuard_agg (by kernel_rfl) _ _ w op o p)
theorem eqT58 (a b c e : Int) : EqT Try.prog 58 (.agg [I a, I b]) (.agg [I c, I e]) (decide (a = c) && (decide (b = e) && true)) :=
  EqT.of (EqD.struct Try.underlying58 (by kernel_rfl) (.cons (by decide) (PartD.one tyS3 rfl) (PartD.one tyS3 rfl) (EqD.int Try.underlying3 _ _ _ _) (.cons (by decide) (PartD.one tyS3 rfl) (PartD.one tyS3 rfl) (EqD.int Try.underlying3 _ _ _ _) .nil))) (fun w op o p => eqGuard_agg (by kernel_rfl) _ _ w op o p)
theorem eqD45 (d : Nat) (a1 a2 a3 a4 a5 a6 b1 b2 b3 b4 b5 b6 : Int) : EqD Try.prog (d + 3) 45 (.agg #[.int .i64 a1, .int .i64 a2, .int .i64 a3, .int .i64 a4, .int .i64 a5, .int .i64 a6]) (.agg #[.int .i64 b1, .int .i64 b2, .int .i64 b3, .int .i64 b4, .int .i64 b5, .int .i64 b6]) ((decide (a1 = b1) && (decide (a2 = b2) && true)) && ((decide (a3 = b3) && (decide (a4 = b4) && true)) && (decide (a5 = b5) && (decide (a6 = b6) && true)))) :=
  EqD.array3 Try.underlying45 sz26 (PartD.agg tyA26 rfl rfl) (PartD.agg tyA26 rfl rfl) (PartD.agg tyA26 rfl rfl) (PartD.agg tyA26 rfl rfl) (PartD.agg tyA26 rfl rfl) (PartD.agg tyA26 rfl rfl) (eqD26 d _ _ _ _) (eqD26 d _ _ _ _) (eqD26 d _ _ _ _)
theorem eqT45 (a1 a2 a3 a4 a5 a6 b1 b2 b3 b4 b5 b6 : Int) : EqT Try.prog 45 (.agg [I a1, I a2, I a3, I a4, I a5, I a6]) (.agg [I b1, I b2, I b3, I b4, I b5, I b6]) ((decide (a1 = b1) && (decide (a2 = b2) && true)) && ((decide (a3 = b3) && (decide (a4 = b4) && true)) && (decide (a5 = b5) && (decide (a6 = b6) && true)))) :=
  EqT.of (eqD45 9997 _ _ _ _ _ _ _ _ _ _ _ _) (fun w op o p => eqGuard_agg (by kernel_rfl) _ _ w op o p)
theorem eqT47 (n : ByteArray) (p1 p2 p3 p4 a1 a2 a3 a4 a5 a6 : Int) (m : ByteArray) (q1 q2 q3 q4 b1 b2 b3 b4 b5 b6 : Int) : EqT Try.prog 47 (.agg [.str n, I p1, I p2, I p3, I p4, I a1, I a2, I a3, I a4, I a5, I a6]) (.agg [.str m, I q1, I q2, I q3, I q4, I b1, I b2, I b3, I b4, I b5, I b6])
    (decide (n = m) && (decide (p1 = q1) && (decide (p2 = q2) && (decide (p3 = q3) && (decide (p4 = q4) && (((decide (a1 = b1) && (decide (a2 = b2) && true)) && ((decide (a3 = b3) && (decide (a4 = b4) && true)) && (decide (a5 = b5) && (decide (a6 = b6) && true)))) && true)))))) :=
  EqT.of (EqD.struct Try.underlying47 (by kernel_rfl) (.cons (by decide) (PartD.one tyS9 rfl) (PartD.one tyS9 rfl) (EqD.str Try.underlying9 _ _ _) (.cons (by decide) (PartD.one tyS3 rfl) (PartD.one tyS3 rfl) (EqD.int Try.underlying3 _ _ _ _) (.cons (by decide) (PartD.one tyS3 rfl) (PartD.one tyS3 rfl) (EqD.int Try.underlying3 _ _ _ _) (.cons (by decide) (PartD.one tyS3 rfl) (PartD.one tyS3 rfl) (EqD.int Try.underlying3 _ _ _ _) (.cons (by decide) (PartD.one tyS3 rfl) (PartD.one tyS3 rfl) (EqD.int Try.underlying3 _ _ _ _) (.cons (by decide) (PartD.agg tyA45 rfl rfl) (PartD.agg tyA45 rfl rfl) (eqD45 9996 _ _ _ _ _ _ _ _ _ _ _ _) .nil))))))) (fun w op o p => eqGuard_agg (by kernel_rfl) _ _ w op o p)
end Go.Proofs.Yteomgedahkpnlaa
end
section
set_option maxRecDepth 100000
namespace Go.Proofs.Yteomgedahkpnlaa
open Go.Proofs
theorem F51 (n : Int) (lo : Int) (hi : Int) : Pure Try.prog 51 [I n, I lo, I hi] (.bool ((inB n lo hi))) := by
 intro mem
 refine Meets.body 0 Try.func51 rfl rfl ?_
 refine AC.rq (fun σ0 => RegOK.m1 [0, 1, 2] ⟨[(0, I n), (1, I lo), (2, I hi)], mem⟩ (.cons (s_assign (.bool false)) .nil) ?_)
 refine AC.rq (fun σ1 => RegOK.m1 [6] ⟨[(6, .bool ((decide (lo ≤ n) && decide (n ≤ hi))))], mem⟩ (.cons (s_move (.tmp 1 (I lo))) (.cons (s_move (.tmp 0 (I n))) (.cons (s_leq (.tmp 7 (I lo)) (.tmp 8 (I n))) (.cons (s_move (.tmp 9 (.bool (decide (lo ≤ n))))) (.cons (Step.guard _ rfl (.bool (decide (lo ≤ n))) gT (fun hb => s_move (.tmp 0 (I n)))) (.cons (Step.guard _ rfl (.bool (decide (lo ≤ n))) gT (fun hb => s_move (.tmp 2 (I hi)))) (.cons (Step.guard _ rfl (.bool (decide (lo ≤ n))) gT (fun hb => s_leq (.tmpC hb 11 (I n)) (.tmpC hb 12 (I hi)))) (.cons (s_and' (q := decide (n ≤ hi)) (fun h => h) (.tmp 10 (.bool (decide (lo ≤ n))))) (.cons (s_assign (.tmp 14 (.bool ((decide (lo ≤ n) && decide (n ≤ hi)))))) .nil))))))))) ?_)
 refine AC.ret ?_
 exact FinQ.ret (result1 rfl (res_tmp (v := .bool ((decide (lo ≤ n) && decide (n ≤ hi)))) rfl rfl)) ⟨by rfl, rfl⟩
theorem F74 (n : Int) (lo : Int) (hi : Int) : Pure Try.prog 74 [I n, I lo, I hi] (.bool ((inB n lo hi))) := by
 intro mem
 refine Meets.body 0 Try.func74 rfl rfl ?_
 refine AC.rq (fun σ0 => RegOK.m1 [0, 1, 2] ⟨[(0, I n), (1, I lo), (2, I hi)], mem⟩ (.cons (s_assign (.bool false)) .nil) ?_)
 refine AC.rq (fun σ1 => RegOK.m1 [6] ⟨[(6, .bool ((decide (lo ≤ n) && decide (n ≤ hi))))], mem⟩ (.cons (s_move (.tmp 0 (I n))) (.cons (s_move (.tmp 1 (I lo))) (.cons (s_geq (.tmp 7 (I n)) (.tmp 8 (I lo))) (.cons (s_move (.tmp 9 (.bool (decide (lo ≤ n))))) (.cons (Step.guard _ rfl (.bool (decide (lo ≤ n))) gT (fun hb => s_move (.tmp 0 (I n)))) (.cons (Step.guard _ rfl (.bool (decide (lo ≤ n))) gT (fun hb => s_move (.tmp 2 (I hi)))) (.cons (Step.guard _ rfl (.bool (decide (lo ≤ n))) gT (fun hb => s_leq (.tmpC hb 11 (I n)) (.tmpC hb 12 (I hi)))) (.cons (s_and' (q := decide (n ≤ hi)) (fun h => h) (.tmp 10 (.bool (decide (lo ≤ n))))) (.cons (s_assign (.tmp 14 (.bool ((decide (lo ≤ n) && decide (n ≤ hi)))))) .nil))))))))) ?_)
 refine AC.ret ?_
 exact FinQ.ret (result1 rfl (res_tmp (v := .bool ((decide (lo ≤ n) && decide (n ≤ hi)))) rfl rfl)) ⟨by rfl, rfl⟩
theorem F62 (a b : Int) (lo : Int) (hi : Int) : Pure Try.prog 62 [.agg [I a, I b], I lo, I hi] (.bool ((wvB a b lo hi))) := by
 intro mem
 refine Meets.body 1 Try.func62 rfl rfl ?_
 refine AC.rq (fun σ0 => RegOK.m1 [1, 2, 3] ⟨[(1, I lo), (2, I hi), (3, .ptr (σ0 0) 0)], (.box (σ0 0) [I a, I b]) :: mem⟩ (.cons (s_box 0 (σ0 0) (.tmp 0 (.agg [I a, I b])) rfl) (.cons (s_assign (.bool false)) .nil)) ?_)
 refine AC.rq (fun σ1 => RegOK.m1 [6] ⟨[(6, .bool (((decide (lo ≤ a) && decide (a ≤ b)) && decide (b ≤ hi))))], (.box (σ0 0) [I a, I b]) :: mem⟩ (.cons (s_move (.tmp 1 (I lo))) (.cons (s_fieldAddr fld26_0 (.tmp 3 (.ptr (σ0 0) 0))) (.cons (s_load1 (cs := [I a, I b]) (c := I a) 0 tyS3 (.tmp 8 (.ptr (σ0 0) 0)) rfl) (.cons (s_leq (.tmp 7 (I lo)) (.tmp 9 (I a))) (.cons (s_move (.tmp 10 (.bool (decide (lo ≤ a))))) (.cons (Step.guard _ rfl (.bool (decide (lo ≤ a))) gT (fun hb => s_fieldAddr fld26_0 (.tmp 3 (.ptr (σ0 0) 0)))) (.cons (Step.guard _ rfl (.bool (decide (lo ≤ a))) gT (fun hb => s_load1 (cs := [I a, I b]) (c := I a) 0 tyS3 (.tmpC hb 12 (.ptr (σ0 0) 0)) rfl)) (.cons (Step.guard _ rfl (.bool (decide (lo ≤ a))) gT (fun hb => s_fieldAddr fld26_1 (.tmp 3 (.ptr (σ0 0) 0)))) (.cons (Step.guard _ rfl (.bool (decide (lo ≤ a))) gT (fun hb => s_load1 (cs := [I a, I b]) (c := I b) 0 tyS3 (.tmpC hb 14 (.ptr (σ0 0) 1)) rfl)) (.cons (Step.guard _ rfl (.bool (decide (lo ≤ a))) gT (fun hb => s_leq (.tmpC hb 13 (I a)) (.tmpC hb 15 (I b)))) (.cons (s_and' (q := decide (a ≤ b)) (fun h => h) (.tmp 11 (.bool (decide (lo ≤ a))))) (.cons (s_move (.tmp 17 (.bool ((decide (lo ≤ a) && decide (a ≤ b)))))) (.cons (Step.guard _ rfl (.bool ((decide (lo ≤ a) && decide (a ≤ b)))) gT (fun hb => s_fieldAddr fld26_1 (.tmp 3 (.ptr (σ0 0) 0)))) (.cons (Step.guard _ rfl (.bool ((decide (lo ≤ a) && decide (a ≤ b)))) gT (fun hb => s_load1 (cs := [I a, I b]) (c := I b) 0 tyS3 (.tmpC hb 19 (.ptr (σ0 0) 1)) rfl)) (.cons (Step.guard _ rfl (.bool ((decide (lo ≤ a) && decide (a ≤ b)))) gT (fun hb => s_move (.tmp 2 (I hi)))) (.cons (Step.guard _ rfl (.bool ((decide (lo ≤ a) && decide (a ≤ b)))) gT (fun hb => s_leq (.tmpC hb 20 (I b)) (.tmpC hb 21 (I hi)))) (.cons (s_and' (q := decide (b ≤ hi)) (fun h => h) (.tmp 18 (.bool ((decide (lo ≤ a) && decide (a ≤ b)))))) (.cons (s_assign (.tmp 23 (.bool (((decide (lo ≤ a) && decide (a ≤ b)) && decide (b ≤ hi)))))) .nil)))))))))))))))))) ?_)
 refine AC.ret ?_
 exact FinQ.ret (result1 rfl (res_tmp (v := .bool (((decide (lo ≤ a) && decide (a ≤ b)) && decide (b ≤ hi)))) rfl rfl)) ⟨by rfl, rfl⟩
theorem F73 (a b : Int) (lo : Int) (hi : Int) : Pure Try.prog 73 [.agg [I a, I b], I lo, I hi] (.bool ((wiB a b lo hi))) := by
 intro mem
 refine Meets.body 1 Try.func73 rfl rfl ?_
 refine AC.rq (fun σ0 => RegOK.m1 [1, 2, 3] ⟨[(1, I lo), (2, I hi), (3, .ptr (σ0 0) 0)], (.box (σ0 0) [I a, I b]) :: mem⟩ (.cons (s_box 0 (σ0 0) (.tmp 0 (.agg [I a, I b])) rfl) (.cons (s_assign (.bool false)) .nil)) ?_)
 refine AC.rq (fun σ1 => RegOK.m1 [6] ⟨[(6, .bool (((decide (a ≤ b) && (inB a lo hi)) && (inB b lo hi))))], (.box (σ0 0) [I a, I b]) :: mem⟩ (.cons (s_fieldAddr fld26_0 (.tmp 3 (.ptr (σ0 0) 0))) (.cons (s_load1 (cs := [I a, I b]) (c := I a) 0 tyS3 (.tmp 7 (.ptr (σ0 0) 0)) rfl) (.cons (s_fieldAddr fld26_1 (.tmp 3 (.ptr (σ0 0) 0))) (.cons (s_load1 (cs := [I a, I b]) (c := I b) 0 tyS3 (.tmp 9 (.ptr (σ0 0) 1)) rfl) (.cons (s_leq (.tmp 8 (I a)) (.tmp 10 (I b))) (.cons (s_move (.tmp 11 (.bool (decide (a ≤ b))))) (.cons (Step.guard _ rfl (.bool (decide (a ≤ b))) gT (fun hb => s_fieldAddr fld26_0 (.tmp 3 (.ptr (σ0 0) 0)))) (.cons (Step.guard _ rfl (.bool (decide (a ≤ b))) gT (fun hb => s_load1 (cs := [I a, I b]) (c := I a) 0 tyS3 (.tmpC hb 13 (.ptr (σ0 0) 0)) rfl)) (.cons (Step.guard _ rfl (.bool (decide (a ≤ b))) gT (fun hb => s_move (.tmp 1 (I lo)))) (.cons (Step.guard _ rfl (.bool (decide (a ≤ b))) gT (fun hb => s_move (.tmp 2 (I hi)))) (.cons (Step.guard _ rfl (.bool (decide (a ≤ b))) gT (fun hb => s_call (r := .bool ((inB a lo hi))) (.func 74) (.cons (.tmpC hb 14 (I a)) (.cons (.tmpC hb 15 (I lo)) (.cons (.tmpC hb 16 (I hi)) .nil))) call74 (F74 (a) (lo) (hi)))) (.cons (s_and' (q := (inB a lo hi)) (fun h => h) (.tmp 12 (.bool (decide (a ≤ b))))) (.cons (s_move (.tmp 18 (.bool ((decide (a ≤ b) && (inB a lo hi)))))) (.cons (Step.guard _ rfl (.bool ((decide (a ≤ b) && (inB a lo hi)))) gT (fun hb => s_fieldAddr fld26_1 (.tmp 3 (.ptr (σ0 0) 0)))) (.cons (Step.guard _ rfl (.bool ((decide (a ≤ b) && (inB a lo hi)))) gT (fun hb => s_load1 (cs := [I a, I b]) (c := I b) 0 tyS3 (.tmpC hb 20 (.ptr (σ0 0) 1)) rfl)) (.cons (Step.guard _ rfl (.bool ((decide (a ≤ b) && (inB a lo hi)))) gT (fun hb => s_move (.tmp 1 (I lo)))) (.cons (Step.guard _ rfl (.bool ((decide (a ≤ b) && (inB a lo hi)))) gT (fun hb => s_move (.tmp 2 (I hi)))) (.cons (Step.guard _ rfl (.bool ((decide (a ≤ b) && (inB a lo hi)))) gT (fun hb => s_call (r := .bool ((inB b lo hi))) (.func 74) (.cons (.tmpC hb 21 (I b)) (.cons (.tmpC hb 22 (I lo)) (.cons (.tmpC hb 23 (I hi)) .nil))) call74 (F74 (b) (lo) (hi)))) (.cons (s_and' (q := (inB b lo hi)) (fun h => h) (.tmp 19 (.bool ((decide (a ≤ b) && (inB a lo hi)))))) (.cons (s_assign (.tmp 25 (.bool (((decide (a ≤ b) && (inB a lo hi)) && (inB b lo hi)))))) .nil)))))))))))))))))))) ?_)
 refine AC.ret ?_
 exact FinQ.ret (result1 rfl (res_tmp (v := .bool (((decide (a ≤ b) && (inB a lo hi)) && (inB b lo hi)))) rfl rfl)) ⟨by rfl, rfl⟩
theorem F104 (s : ByteArray) (hs : (s.size : Int) ≤ 9223372036854775807) : Pure Try.prog 104 [.str (s)] (.bool (nameOK s)) := by
 intro mem
 have hl : (s.size : Int) = (s.data.toList.length : Int) := by rw [Array.length_toList]; rfl
 refine Meets.body 0 Try.func104 rfl rfl ?_
 refine AC.rq (fun σ0 => RegOK.m1 [0] ⟨[(0, .str (s))], mem⟩ (.cons (s_assign (.bool false)) .nil) ?_)
 refine AC.seq ?_
 refine AC.rq (fun σ1 => RegOK.m1 [0, 7, 8, 9] ⟨[(0, .str (s)), (7, .slice ((s.data.toList).map U) none), (8, I (s.data.toList.length : Int)), (9, I 0)], mem⟩ (.cons (s_move (.tmp 0 (.str (s)))) (.cons (s_bytes Try.underlying9 Try.underlying171 Try.underlying5 (.tmp 6 (.str (s)))) (.cons (s_lenM (l := s.data.toList) slc171 (.tmp 7 (.slice ((s.data.toList).map U) none))) (.cons (s_move (.int .i64 (0))) .nil)))) ?_)
 refine AC.block ?_
 refine AC.loopW (fun mz T => ∃ (k : Nat), mz = s.data.toList.length - k ∧ ((k ≤ s.data.toList.length) ∧ (∀ j : Nat, j < k → okAt ((s.data.toList.getD j 0).toNat : Int) j)) ∧ T = ⟨[(0, .str (s)), (7, .slice ((s.data.toList).map U) none), (8, I (s.data.toList.length : Int)), (9, I (k : Int))], mem⟩) _ ⟨[(0, .str (s)), (7, .slice ((s.data.toList).map U) none), (8, I (s.data.toList.length : Int)), (9, I ((0) : Int))], mem⟩ ⟨0, rfl, ⟨(by omega), (by intro j hj; omega)⟩, rfl⟩ (Weak.of [] (by kernel_rfl) (by kernel_rfl)) ?_ Fr.plain
 rintro _ _ ⟨k, rfl, ⟨hk, hn⟩, rfl⟩
 refine AC.rq (fun σ2 => RegOK.m1 [0, 7, 8, 9, 10] ⟨[(0, .str (s)), (7, .slice ((s.data.toList).map U) none), (8, I (s.data.toList.length : Int)), (9, I (k : Int)), (10, .bool (decide ((k : Int) < (s.data.toList.length : Int))))], mem⟩ (.cons (s_lss (.tmp 9 (I (k : Int))) (.tmp 8 (I (s.data.toList.length : Int)))) .nil) ?_)
 refine AC.cseq (decide ((k : Int) < (s.data.toList.length : Int))) rfl rfl (fun hc => ?_) (fun hc => ?_)
 ·have q1 := iD.1 hc
  refine AC.skip ?_
  refine thenQ_n ?_
  refine AC.bseq ?_
  refine AC.rq (fun σ3 => RegOK.m1 [0, 3, 4, 7, 8, 9] ⟨[(0, .str (s)), (3, I (k : Int)), (4, .int .u8 (((s.data.toList.getD k 0)).toNat : Int)), (7, .slice ((s.data.toList).map U) none), (8, I (s.data.toList.length : Int)), (9, I (k : Int))], mem⟩ (.cons (s_move (.tmp 9 (I (k : Int)))) (.cons (s_ixM (l := s.data.toList) (f := U) (0) slc171 (.tmp 7 (.slice ((s.data.toList).map U) none)) (.tmp 9 (I (k : Int))) (by omega) rfl) (.cons (s_load1e (c := .int .u8 (((s.data.toList.getD k 0)).toNat : Int)) tyS5 (.tmp 12 (.eptr (.int .u8 (((s.data.toList.getD k 0)).toNat : Int)) 0)) rfl) (.cons (s_assign (.tmp 11 (I (k : Int)))) (.cons (s_assign (.tmp 13 (.int .u8 (((s.data.toList.getD k 0)).toNat : Int)))) .nil))))) ?_)
  refine AC.rq (fun σ4 => RegOK.m1 [0, 3, 4, 5, 7, 8, 9] ⟨[(0, .str (s)), (3, I (k : Int)), (4, .int .u8 (((s.data.toList.getD k 0)).toNat : Int)), (5, .bool ((decide (97 ≤ (((s.data.toList.getD k 0)).toNat : Int)) && decide ((((s.data.toList.getD k 0)).toNat : Int) ≤ 122)))), (7, .slice ((s.data.toList).map U) none), (8, I (s.data.toList.length : Int)), (9, I (k : Int))], mem⟩ (.cons (s_move (.tmp 4 (.int .u8 (((s.data.toList.getD k 0)).toNat : Int)))) (.cons (s_geq (.tmp 14 (.int .u8 (((s.data.toList.getD k 0)).toNat : Int))) (.int .u8 (97))) (.cons (s_move (.tmp 15 (.bool (decide (97 ≤ (((s.data.toList.getD k 0)).toNat : Int)))))) (.cons (Step.guard _ rfl (.bool (decide (97 ≤ (((s.data.toList.getD k 0)).toNat : Int)))) gT (fun hb => s_move (.tmp 4 (.int .u8 (((s.data.toList.getD k 0)).toNat : Int))))) (.cons (Step.guard _ rfl (.bool (decide (97 ≤ (((s.data.toList.getD k 0)).toNat : Int)))) gT (fun hb => s_leq (.tmpC hb 17 (.int .u8 (((s.data.toList.getD k 0)).toNat : Int))) (.int .u8 (122)))) (.cons (s_and' (q := decide ((((s.data.toList.getD k 0)).toNat : Int) ≤ 122)) (fun h => h) (.tmp 16 (.bool (decide (97 ≤ (((s.data.toList.getD k 0)).toNat : Int)))))) (.cons (s_assign (.tmp 19 (.bool ((decide (97 ≤ (((s.data.toList.getD k 0)).toNat : Int)) && decide ((((s.data.toList.getD k 0)).toNat : Int) ≤ 122)))))) .nil))))))) ?_)
  refine AC.rq (fun σ5 => RegOK.m1 [0, 7, 8, 9, 38] ⟨[(0, .str (s)), (7, .slice ((s.data.toList).map U) none), (8, I (s.data.toList.length : Int)), (9, I (k : Int)), (38, .bool (((!(decide (97 ≤ (((s.data.toList.getD k 0)).toNat : Int)) && decide ((((s.data.toList.getD k 0)).toNat : Int) ≤ 122))) && (decide ((k : Int) = 0) || ((!(decide (48 ≤ (((s.data.toList.getD k 0)).toNat : Int)) && decide ((((s.data.toList.getD k 0)).toNat : Int) ≤ 57))) && decide ((((s.data.toList.getD k 0)).toNat : Int) ≠ 45))))))], mem⟩ (.cons (s_move (.tmp 5 (.bool ((decide (97 ≤ (((s.data.toList.getD k 0)).toNat : Int)) && decide ((((s.data.toList.getD k 0)).toNat : Int) ≤ 122)))))) (.cons (s_not (.tmp 20 (.bool ((decide (97 ≤ (((s.data.toList.getD k 0)).toNat : Int)) && decide ((((s.data.toList.getD k 0)).toNat : Int) ≤ 122)))))) (.cons (s_move (.tmp 21 (.bool ((!(decide (97 ≤ (((s.data.toList.getD k 0)).toNat : Int)) && decide ((((s.data.toList.getD k 0)).toNat : Int) ≤ 122))))))) (.cons (Step.guard _ rfl (.bool ((!(decide (97 ≤ (((s.data.toList.getD k 0)).toNat : Int)) && decide ((((s.data.toList.getD k 0)).toNat : Int) ≤ 122))))) gT (fun hb => s_move (.tmp 3 (I (k : Int))))) (.cons (Step.guard _ rfl (.bool ((!(decide (97 ≤ (((s.data.toList.getD k 0)).toNat : Int)) && decide ((((s.data.toList.getD k 0)).toNat : Int) ≤ 122))))) gT (fun hb => s_eql (.tmpC hb 23 (I (k : Int))) (.int .i64 (0)))) (.cons (Step.guard _ rfl (.bool ((!(decide (97 ≤ (((s.data.toList.getD k 0)).toNat : Int)) && decide ((((s.data.toList.getD k 0)).toNat : Int) ≤ 122))))) gT (fun hb => s_move (.tmpC hb 24 (.bool (decide ((k : Int) = 0)))))) (.cons (Step.guard _ rfl (.cond ((!(decide (97 ≤ (((s.data.toList.getD k 0)).toNat : Int)) && decide ((((s.data.toList.getD k 0)).toNat : Int) ≤ 122)))) (.bool (decide ((k : Int) = 0)))) gcF (fun hb => s_move (.tmp 4 (.int .u8 (((s.data.toList.getD k 0)).toNat : Int))))) (.cons (Step.guard _ rfl (.cond ((!(decide (97 ≤ (((s.data.toList.getD k 0)).toNat : Int)) && decide ((((s.data.toList.getD k 0)).toNat : Int) ≤ 122)))) (.bool (decide ((k : Int) = 0)))) gcF (fun hb => s_geq (.tmpC hb 26 (.int .u8 (((s.data.toList.getD k 0)).toNat : Int))) (.int .u8 (48)))) (.cons (Step.guard _ rfl (.cond ((!(decide (97 ≤ (((s.data.toList.getD k 0)).toNat : Int)) && decide ((((s.data.toList.getD k 0)).toNat : Int) ≤ 122)))) (.bool (decide ((k : Int) = 0)))) gcF (fun hb => s_move (.tmpC hb 27 (.bool (decide (48 ≤ (((s.data.toList.getD k 0)).toNat : Int))))))) (.cons (Step.guard _ rfl (.cond (((!(decide (97 ≤ (((s.data.toList.getD k 0)).toNat : Int)) && decide ((((s.data.toList.getD k 0)).toNat : Int) ≤ 122))) && (!(decide ((k : Int) = 0))))) (.bool (decide (48 ≤ (((s.data.toList.getD k 0)).toNat : Int))))) gcT (fun hb => s_move (.tmp 4 (.int .u8 (((s.data.toList.getD k 0)).toNat : Int))))) (.cons (Step.guard _ rfl (.cond (((!(decide (97 ≤ (((s.data.toList.getD k 0)).toNat : Int)) && decide ((((s.data.toList.getD k 0)).toNat : Int) ≤ 122))) && (!(decide ((k : Int) = 0))))) (.bool (decide (48 ≤ (((s.data.toList.getD k 0)).toNat : Int))))) gcT (fun hb => s_leq (.tmpC hb 29 (.int .u8 (((s.data.toList.getD k 0)).toNat : Int))) (.int .u8 (57)))) (.cons (Step.guard _ rfl (.cond ((!(decide (97 ≤ (((s.data.toList.getD k 0)).toNat : Int)) && decide ((((s.data.toList.getD k 0)).toNat : Int) ≤ 122)))) (.bool (decide ((k : Int) = 0)))) gcF (fun hb => s_and' (e := (((!(decide (97 ≤ (((s.data.toList.getD k 0)).toNat : Int)) && decide ((((s.data.toList.getD k 0)).toNat : Int) ≤ 122))) && (!(decide ((k : Int) = 0)))) && decide (48 ≤ (((s.data.toList.getD k 0)).toNat : Int)))) (q := decide ((((s.data.toList.getD k 0)).toNat : Int) ≤ 57)) (fun h => andMk hb h) (.tmpC hb 28 (.bool (decide (48 ≤ (((s.data.toList.getD k 0)).toNat : Int))))))) (.cons (Step.guard _ rfl (.cond ((!(decide (97 ≤ (((s.data.toList.getD k 0)).toNat : Int)) && decide ((((s.data.toList.getD k 0)).toNat : Int) ≤ 122)))) (.bool (decide ((k : Int) = 0)))) gcF (fun hb => s_not (.tmpC hb 31 (.bool ((decide (48 ≤ (((s.data.toList.getD k 0)).toNat : Int)) && decide ((((s.data.toList.getD k 0)).toNat : Int) ≤ 57))))))) (.cons (Step.guard _ rfl (.cond ((!(decide (97 ≤ (((s.data.toList.getD k 0)).toNat : Int)) && decide ((((s.data.toList.getD k 0)).toNat : Int) ≤ 122)))) (.bool (decide ((k : Int) = 0)))) gcF (fun hb => s_move (.tmpC hb 32 (.bool ((!(decide (48 ≤ (((s.data.toList.getD k 0)).toNat : Int)) && decide ((((s.data.toList.getD k 0)).toNat : Int) ≤ 57)))))))) (.cons (Step.guard _ rfl (.cond (((!(decide (97 ≤ (((s.data.toList.getD k 0)).toNat : Int)) && decide ((((s.data.toList.getD k 0)).toNat : Int) ≤ 122))) && (!(decide ((k : Int) = 0))))) (.bool ((!(decide (48 ≤ (((s.data.toList.getD k 0)).toNat : Int)) && decide ((((s.data.toList.getD k 0)).toNat : Int) ≤ 57)))))) gcT (fun hb => s_move (.tmp 4 (.int .u8 (((s.data.toList.getD k 0)).toNat : Int))))) (.cons (Step.guard _ rfl (.cond (((!(decide (97 ≤ (((s.data.toList.getD k 0)).toNat : Int)) && decide ((((s.data.toList.getD k 0)).toNat : Int) ≤ 122))) && (!(decide ((k : Int) = 0))))) (.bool ((!(decide (48 ≤ (((s.data.toList.getD k 0)).toNat : Int)) && decide ((((s.data.toList.getD k 0)).toNat : Int) ≤ 57)))))) gcT (fun hb => s_neq (.tmpC hb 34 (.int .u8 (((s.data.toList.getD k 0)).toNat : Int))) (.int .u8 (45)))) (.cons (Step.guard _ rfl (.cond ((!(decide (97 ≤ (((s.data.toList.getD k 0)).toNat : Int)) && decide ((((s.data.toList.getD k 0)).toNat : Int) ≤ 122)))) (.bool (decide ((k : Int) = 0)))) gcF (fun hb => s_and' (e := (((!(decide (97 ≤ (((s.data.toList.getD k 0)).toNat : Int)) && decide ((((s.data.toList.getD k 0)).toNat : Int) ≤ 122))) && (!(decide ((k : Int) = 0)))) && (!(decide (48 ≤ (((s.data.toList.getD k 0)).toNat : Int)) && decide ((((s.data.toList.getD k 0)).toNat : Int) ≤ 57))))) (q := decide ((((s.data.toList.getD k 0)).toNat : Int) ≠ 45)) (fun h => andMk hb h) (.tmpC hb 33 (.bool ((!(decide (48 ≤ (((s.data.toList.getD k 0)).toNat : Int)) && decide ((((s.data.toList.getD k 0)).toNat : Int) ≤ 57)))))))) (.cons (Step.guard _ rfl (.bool ((!(decide (97 ≤ (((s.data.toList.getD k 0)).toNat : Int)) && decide ((((s.data.toList.getD k 0)).toNat : Int) ≤ 122))))) gT (fun hb => s_or' (e := ((!(decide (97 ≤ (((s.data.toList.getD k 0)).toNat : Int)) && decide ((((s.data.toList.getD k 0)).toNat : Int) ≤ 122))) && (!(decide ((k : Int) = 0))))) (q := ((!(decide (48 ≤ (((s.data.toList.getD k 0)).toNat : Int)) && decide ((((s.data.toList.getD k 0)).toNat : Int) ≤ 57))) && decide ((((s.data.toList.getD k 0)).toNat : Int) ≠ 45))) (fun h => andMk hb (notMk h)) (.tmpC hb 25 (.bool (decide ((k : Int) = 0)))))) (.cons (s_and' (q := (decide ((k : Int) = 0) || ((!(decide (48 ≤ (((s.data.toList.getD k 0)).toNat : Int)) && decide ((((s.data.toList.getD k 0)).toNat : Int) ≤ 57))) && decide ((((s.data.toList.getD k 0)).toNat : Int) ≠ 45)))) (fun h => h) (.tmp 22 (.bool ((!(decide (97 ≤ (((s.data.toList.getD k 0)).toNat : Int)) && decide ((((s.data.toList.getD k 0)).toNat : Int) ≤ 122))))))) .nil))))))))))))))))))) ?_)
  refine AC.cend (((!(decide (97 ≤ (((s.data.toList.getD k 0)).toNat : Int)) && decide ((((s.data.toList.getD k 0)).toNat : Int) ≤ 122))) && (decide ((k : Int) = 0) || ((!(decide (48 ≤ (((s.data.toList.getD k 0)).toNat : Int)) && decide ((((s.data.toList.getD k 0)).toNat : Int) ≤ 57))) && decide ((((s.data.toList.getD k 0)).toNat : Int) ≠ 45))))) rfl rfl (fun hc => ?_) (fun hc => ?_)
  ·have q2 := (iA (iN (iA iD iD)) (iO iD (iA (iN (iA iD iD)) iD))).1 hc
   refine AC.rq (fun σ6 => RegOK.m1 [2] ⟨[(2, .bool (false))], mem⟩ (.cons (s_assign (.bool false)) .nil) ?_)
   refine AC.ret ?_
   refine blockQ_r ?_
   refine thenQ_r ?_
   refine thenQ_r ?_
   refine blockQ_r ?_
   refine thenQ_r ?_
   exact FinQ.ret (result1 rfl (res_tmp (v := .bool (false)) rfl rfl)) ⟨by first | exact congrArg AV.bool (name18f (k := k) (by omega) (by unfold okAt; omega)) | exact congrArg AV.bool (name18 (by intro j hj; exact hn j (by omega))), rfl⟩
  ·have q3 := iF (iA (iN (iA iD iD)) (iO iD (iA (iN (iA iD iD)) iD))) hc
   refine AC.skip ?_
   refine blockQ_n ?_
   refine thenQ_n ?_
   refine AC.re (fun σ7 => RegOK.m1 [0, 7, 8, 9] ⟨[(0, .str (s)), (7, .slice ((s.data.toList).map U) none), (8, I (s.data.toList.length : Int)), (9, I ((k : Int) + 1))], mem⟩ (.cons (s_add (.tmp 9 (I (k : Int))) (.int .i64 (1)) (inK_i64 (by omega))) (.cons (s_move (.tmp 39 (I ((k : Int) + 1)))) .nil)) ?_)
   refine thenQ_n ⟨_, ?_, _, ⟨(k + 1), rfl, ⟨(by omega), (by intro j hj; rcases Decidable.em (j = k) with hjk | hjk; (subst hjk; unfold okAt; omega); exact hn j (by omega))⟩, rfl⟩, Weak.of [] (by kernel_rfl) (by kernel_rfl)⟩
   omega
 ·have q4 := iF iD hc
  refine AC.exit ?_
  refine thenQ_x ?_
  refine thenQ_x ?_
  refine blockQ_x ?_
  refine thenQ_n ?_
  refine AC.rq (fun σ8 => RegOK.m1 [2] ⟨[(2, .bool ((decide (s ≠ ⟨#[]⟩) && decide ((s.size : Int) ≤ 24))))], mem⟩ (.cons (s_move (.tmp 0 (.str (s)))) (.cons (s_bytes_neq (.tmp 40 (.str (s))) (.str ⟨#[]⟩)) (.cons (s_move (.tmp 41 (.bool (decide (s ≠ ⟨#[]⟩))))) (.cons (Step.guard _ rfl (.bool (decide (s ≠ ⟨#[]⟩))) gT (fun hb => s_move (.tmp 0 (.str (s))))) (.cons (Step.guard _ rfl (.bool (decide (s ≠ ⟨#[]⟩))) gT (fun hb => s_lenS Try.underlying9 (.tmpC hb 43 (.str (s))))) (.cons (Step.guard _ rfl (.bool (decide (s ≠ ⟨#[]⟩))) gT (fun hb => s_leq (.tmpC hb 44 (I (s.size : Int))) (.int .i64 (24)))) (.cons (s_and' (q := decide ((s.size : Int) ≤ 24)) (fun h => h) (.tmp 42 (.bool (decide (s ≠ ⟨#[]⟩))))) (.cons (s_assign (.tmp 46 (.bool ((decide (s ≠ ⟨#[]⟩) && decide ((s.size : Int) ≤ 24)))))) .nil)))))))) ?_)
  refine AC.ret ?_
  exact FinQ.ret (result1 rfl (res_tmp (v := .bool ((decide (s ≠ ⟨#[]⟩) && decide ((s.size : Int) ≤ 24)))) rfl rfl)) ⟨by first | exact congrArg AV.bool (name18f (k := k) (by omega) (by unfold okAt; omega)) | exact congrArg AV.bool (name18 (by intro j hj; exact hn j (by omega))), rfl⟩
theorem F114 (s : ByteArray) (hs : (s.size : Int) ≤ 9223372036854775807) : Pure Try.prog 114 [.str (s)] (.bool (nameOK s)) := by
 intro mem
 have hl : (s.size : Int) = (s.data.toList.length : Int) := by rw [Array.length_toList]; rfl
 refine Meets.body 0 Try.func114 rfl rfl ?_
 refine AC.rq (fun σ0 => RegOK.m1 [0] ⟨[(0, .str (s))], mem⟩ (.cons (s_assign (.bool false)) .nil) ?_)
 refine AC.seq ?_
 refine AC.rq (fun σ1 => RegOK.m1 [0, 21] ⟨[(0, .str (s)), (21, .bool ((((decide ((s.size : Int) < 1) || decide (24 < (s.size : Int))) || decide (((s.data.toList.getD 0 0).toNat : Int) < 97)) || decide (122 < ((s.data.toList.getD 0 0).toNat : Int)))))], mem⟩ (.cons (s_move (.tmp 0 (.str (s)))) (.cons (s_lenS Try.underlying9 (.tmp 4 (.str (s)))) (.cons (s_lss (.tmp 5 (I (s.size : Int))) (.int .i64 (1))) (.cons (s_move (.tmp 6 (.bool (decide ((s.size : Int) < 1))))) (.cons (Step.guard _ rfl (.bool (decide ((s.size : Int) < 1))) gF (fun hb => s_move (.tmp 0 (.str (s))))) (.cons (Step.guard _ rfl (.bool (decide ((s.size : Int) < 1))) gF (fun hb => s_lenS Try.underlying9 (.tmpC hb 8 (.str (s))))) (.cons (Step.guard _ rfl (.bool (decide ((s.size : Int) < 1))) gF (fun hb => s_gtr (.tmpC hb 9 (I (s.size : Int))) (.int .i64 (24)))) (.cons (s_or' (e := (!(decide ((s.size : Int) < 1)))) (q := decide (24 < (s.size : Int))) (fun h => (notMk h)) (.tmp 7 (.bool (decide ((s.size : Int) < 1))))) (.cons (s_move (.tmp 11 (.bool ((decide ((s.size : Int) < 1) || decide (24 < (s.size : Int))))))) (.cons (Step.guard _ rfl (.bool ((decide ((s.size : Int) < 1) || decide (24 < (s.size : Int))))) gF (fun hb => s_move (.tmp 0 (.str (s))))) (.cons (Step.guard _ rfl (.bool ((decide ((s.size : Int) < 1) || decide (24 < (s.size : Int))))) gF (fun hb => s_indexS Try.underlying9 (.tmpC hb 13 (.str (s))) (.int .i64 (0)) (by have hq := (iN (iO iD iD)).1 hb; omega))) (.cons (Step.guard _ rfl (.bool ((decide ((s.size : Int) < 1) || decide (24 < (s.size : Int))))) gF (fun hb => s_lss (.tmpC hb 14 (.int .u8 ((s.data.toList.getD 0 0).toNat : Int))) (.int .u8 (97)))) (.cons (s_or' (e := (!(decide ((s.size : Int) < 1) || decide (24 < (s.size : Int))))) (q := decide (((s.data.toList.getD 0 0).toNat : Int) < 97)) (fun h => (notMk h)) (.tmp 12 (.bool ((decide ((s.size : Int) < 1) || decide (24 < (s.size : Int))))))) (.cons (s_move (.tmp 16 (.bool (((decide ((s.size : Int) < 1) || decide (24 < (s.size : Int))) || decide (((s.data.toList.getD 0 0).toNat : Int) < 97)))))) (.cons (Step.guard _ rfl (.bool (((decide ((s.size : Int) < 1) || decide (24 < (s.size : Int))) || decide (((s.data.toList.getD 0 0).toNat : Int) < 97)))) gF (fun hb => s_move (.tmp 0 (.str (s))))) (.cons (Step.guard _ rfl (.bool (((decide ((s.size : Int) < 1) || decide (24 < (s.size : Int))) || decide (((s.data.toList.getD 0 0).toNat : Int) < 97)))) gF (fun hb => s_indexS Try.underlying9 (.tmpC hb 18 (.str (s))) (.int .i64 (0)) (by have hq := (iN (iO (iO iD iD) iD)).1 hb; omega))) (.cons (Step.guard _ rfl (.bool (((decide ((s.size : Int) < 1) || decide (24 < (s.size : Int))) || decide (((s.data.toList.getD 0 0).toNat : Int) < 97)))) gF (fun hb => s_gtr (.tmpC hb 19 (.int .u8 ((s.data.toList.getD 0 0).toNat : Int))) (.int .u8 (122)))) (.cons (s_or' (e := (!((decide ((s.size : Int) < 1) || decide (24 < (s.size : Int))) || decide (((s.data.toList.getD 0 0).toNat : Int) < 97)))) (q := decide (122 < ((s.data.toList.getD 0 0).toNat : Int))) (fun h => (notMk h)) (.tmp 17 (.bool (((decide ((s.size : Int) < 1) || decide (24 < (s.size : Int))) || decide (((s.data.toList.getD 0 0).toNat : Int) < 97)))))) .nil)))))))))))))))))) ?_)
 refine AC.cend ((((decide ((s.size : Int) < 1) || decide (24 < (s.size : Int))) || decide (((s.data.toList.getD 0 0).toNat : Int) < 97)) || decide (122 < ((s.data.toList.getD 0 0).toNat : Int)))) rfl rfl (fun hc => ?_) (fun hc => ?_)
 ·have q1 := (iO (iO (iO iD iD) iD) iD).1 hc
  refine AC.rq (fun σ2 => RegOK.m1 [2] ⟨[(2, .bool (false))], mem⟩ (.cons (s_assign (.bool false)) .nil) ?_)
  refine AC.ret ?_
  refine thenQ_r ?_
  exact FinQ.ret (result1 rfl (res_tmp (v := .bool (false)) rfl rfl)) ⟨by first | exact congrArg AV.bool (name19a (by omega)) | exact congrArg AV.bool (name19f (k := k) (by omega) (by rw [Bool.eq_false_iff]; simp only [okU, lowU, digU, ne_eq, Bool.or_eq_true, Bool.and_eq_true, decide_eq_true_eq]; omega)) | exact congrArg AV.bool (name19 (by omega) (by omega) (by omega) (by omega) (by intro j hj; exact hn j (by omega))), rfl⟩
 ·have q2 := iF (iO (iO (iO iD iD) iD) iD) hc
  refine AC.skip ?_
  refine thenQ_n ?_
  refine AC.seq ?_
  refine AC.rq (fun σ3 => RegOK.m1 [0, 3] ⟨[(0, .str (s)), (3, I 0)], mem⟩ (.cons (s_assign (.int .i64 (0))) .nil) ?_)
  refine AC.block ?_
  refine AC.loopW (fun mz T => ∃ (k : Nat), mz = s.data.toList.length - k ∧ ((k ≤ s.data.toList.length) ∧ (∀ j : Nat, j < k → okU (s.data.toList.getD j 0) = true)) ∧ T = ⟨[(0, .str (s)), (3, I (k : Int))], mem⟩) _ ⟨[(0, .str (s)), (3, I ((0) : Int))], mem⟩ ⟨0, rfl, ⟨(by omega), (by intro j hj; omega)⟩, rfl⟩ (Weak.of [] (by kernel_rfl) (by kernel_rfl)) ?_ Fr.plain
  rintro _ _ ⟨k, rfl, ⟨hk, hn⟩, rfl⟩
  refine AC.seq ?_
  refine AC.rq (fun σ4 => RegOK.m1 [0, 3, 25] ⟨[(0, .str (s)), (3, I (k : Int)), (25, .bool (decide ((k : Int) < (s.size : Int))))], mem⟩ (.cons (s_move (.tmp 3 (I (k : Int)))) (.cons (s_move (.tmp 0 (.str (s)))) (.cons (s_lenS Try.underlying9 (.tmp 23 (.str (s)))) (.cons (s_lss (.tmp 22 (I (k : Int))) (.tmp 24 (I (s.size : Int)))) .nil)))) ?_)
  refine AC.cend (decide ((k : Int) < (s.size : Int))) rfl rfl (fun hc => ?_) (fun hc => ?_)
  ·have q3 := iD.1 hc
   refine AC.skip ?_
   refine thenQ_n ?_
   refine AC.bseq ?_
   refine AC.rq (fun σ6 => RegOK.m1 [0, 3, 56] ⟨[(0, .str (s)), (3, I (k : Int)), (56, .bool ((!(((decide (97 ≤ ((s.data.toList.getD k 0).toNat : Int)) && decide (((s.data.toList.getD k 0).toNat : Int) ≤ 122)) || (decide (48 ≤ ((s.data.toList.getD k 0).toNat : Int)) && decide (((s.data.toList.getD k 0).toNat : Int) ≤ 57))) || decide (((s.data.toList.getD k 0).toNat : Int) = 45)))))], mem⟩ (.cons (s_move (.tmp 0 (.str (s)))) (.cons (s_move (.tmp 3 (I (k : Int)))) (.cons (s_indexS Try.underlying9 (.tmp 28 (.str (s))) (.tmp 29 (I (k : Int))) (by omega)) (.cons (s_geq (.tmp 30 (.int .u8 ((s.data.toList.getD k 0).toNat : Int))) (.int .u8 (97))) (.cons (s_move (.tmp 31 (.bool (decide (97 ≤ ((s.data.toList.getD k 0).toNat : Int)))))) (.cons (Step.guard _ rfl (.bool (decide (97 ≤ ((s.data.toList.getD k 0).toNat : Int)))) gT (fun hb => s_move (.tmp 0 (.str (s))))) (.cons (Step.guard _ rfl (.bool (decide (97 ≤ ((s.data.toList.getD k 0).toNat : Int)))) gT (fun hb => s_move (.tmp 3 (I (k : Int))))) (.cons (Step.guard _ rfl (.bool (decide (97 ≤ ((s.data.toList.getD k 0).toNat : Int)))) gT (fun hb => s_indexS Try.underlying9 (.tmpC hb 33 (.str (s))) (.tmpC hb 34 (I (k : Int))) (by have hq := iD.1 hb; omega))) (.cons (Step.guard _ rfl (.bool (decide (97 ≤ ((s.data.toList.getD k 0).toNat : Int)))) gT (fun hb => s_leq (.tmpC hb 35 (.int .u8 ((s.data.toList.getD k 0).toNat : Int))) (.int .u8 (122)))) (.cons (s_and' (q := decide (((s.data.toList.getD k 0).toNat : Int) ≤ 122)) (fun h => h) (.tmp 32 (.bool (decide (97 ≤ ((s.data.toList.getD k 0).toNat : Int)))))) (.cons (s_move (.tmp 37 (.bool ((decide (97 ≤ ((s.data.toList.getD k 0).toNat : Int)) && decide (((s.data.toList.getD k 0).toNat : Int) ≤ 122)))))) (.cons (Step.guard _ rfl (.bool ((decide (97 ≤ ((s.data.toList.getD k 0).toNat : Int)) && decide (((s.data.toList.getD k 0).toNat : Int) ≤ 122)))) gF (fun hb => s_move (.tmp 0 (.str (s))))) (.cons (Step.guard _ rfl (.bool ((decide (97 ≤ ((s.data.toList.getD k 0).toNat : Int)) && decide (((s.data.toList.getD k 0).toNat : Int) ≤ 122)))) gF (fun hb => s_move (.tmp 3 (I (k : Int))))) (.cons (Step.guard _ rfl (.bool ((decide (97 ≤ ((s.data.toList.getD k 0).toNat : Int)) && decide (((s.data.toList.getD k 0).toNat : Int) ≤ 122)))) gF (fun hb => s_indexS Try.underlying9 (.tmpC hb 39 (.str (s))) (.tmpC hb 40 (I (k : Int))) (by have hq := (iN (iA iD iD)).1 hb; omega))) (.cons (Step.guard _ rfl (.bool ((decide (97 ≤ ((s.data.toList.getD k 0).toNat : Int)) && decide (((s.data.toList.getD k 0).toNat : Int) ≤ 122)))) gF (fun hb => s_geq (.tmpC hb 41 (.int .u8 ((s.data.toList.getD k 0).toNat : Int))) (.int .u8 (48)))) (.cons (Step.guard _ rfl (.bool ((decide (97 ≤ ((s.data.toList.getD k 0).toNat : Int)) && decide (((s.data.toList.getD k 0).toNat : Int) ≤ 122)))) gF (fun hb => s_move (.tmpC hb 42 (.bool (decide (48 ≤ ((s.data.toList.getD k 0).toNat : Int))))))) (.cons (Step.guard _ rfl (.cond ((!(decide (97 ≤ ((s.data.toList.getD k 0).toNat : Int)) && decide (((s.data.toList.getD k 0).toNat : Int) ≤ 122)))) (.bool (decide (48 ≤ ((s.data.toList.getD k 0).toNat : Int))))) gcT (fun hb => s_move (.tmp 0 (.str (s))))) (.cons (Step.guard _ rfl (.cond ((!(decide (97 ≤ ((s.data.toList.getD k 0).toNat : Int)) && decide (((s.data.toList.getD k 0).toNat : Int) ≤ 122)))) (.bool (decide (48 ≤ ((s.data.toList.getD k 0).toNat : Int))))) gcT (fun hb => s_move (.tmp 3 (I (k : Int))))) (.cons (Step.guard _ rfl (.cond ((!(decide (97 ≤ ((s.data.toList.getD k 0).toNat : Int)) && decide (((s.data.toList.getD k 0).toNat : Int) ≤ 122)))) (.bool (decide (48 ≤ ((s.data.toList.getD k 0).toNat : Int))))) gcT (fun hb => s_indexS Try.underlying9 (.tmpC hb 44 (.str (s))) (.tmpC hb 45 (I (k : Int))) (by have hq := (iA (iN (iA iD iD)) iD).1 hb; omega))) (.cons (Step.guard _ rfl (.cond ((!(decide (97 ≤ ((s.data.toList.getD k 0).toNat : Int)) && decide (((s.data.toList.getD k 0).toNat : Int) ≤ 122)))) (.bool (decide (48 ≤ ((s.data.toList.getD k 0).toNat : Int))))) gcT (fun hb => s_leq (.tmpC hb 46 (.int .u8 ((s.data.toList.getD k 0).toNat : Int))) (.int .u8 (57)))) (.cons (Step.guard _ rfl (.bool ((decide (97 ≤ ((s.data.toList.getD k 0).toNat : Int)) && decide (((s.data.toList.getD k 0).toNat : Int) ≤ 122)))) gF (fun hb => s_and' (e := ((!(decide (97 ≤ ((s.data.toList.getD k 0).toNat : Int)) && decide (((s.data.toList.getD k 0).toNat : Int) ≤ 122))) && decide (48 ≤ ((s.data.toList.getD k 0).toNat : Int)))) (q := decide (((s.data.toList.getD k 0).toNat : Int) ≤ 57)) (fun h => andMk hb h) (.tmpC hb 43 (.bool (decide (48 ≤ ((s.data.toList.getD k 0).toNat : Int))))))) (.cons (s_or' (e := (!(decide (97 ≤ ((s.data.toList.getD k 0).toNat : Int)) && decide (((s.data.toList.getD k 0).toNat : Int) ≤ 122)))) (q := (decide (48 ≤ ((s.data.toList.getD k 0).toNat : Int)) && decide (((s.data.toList.getD k 0).toNat : Int) ≤ 57))) (fun h => (notMk h)) (.tmp 38 (.bool ((decide (97 ≤ ((s.data.toList.getD k 0).toNat : Int)) && decide (((s.data.toList.getD k 0).toNat : Int) ≤ 122)))))) (.cons (s_move (.tmp 49 (.bool (((decide (97 ≤ ((s.data.toList.getD k 0).toNat : Int)) && decide (((s.data.toList.getD k 0).toNat : Int) ≤ 122)) || (decide (48 ≤ ((s.data.toList.getD k 0).toNat : Int)) && decide (((s.data.toList.getD k 0).toNat : Int) ≤ 57))))))) (.cons (Step.guard _ rfl (.bool (((decide (97 ≤ ((s.data.toList.getD k 0).toNat : Int)) && decide (((s.data.toList.getD k 0).toNat : Int) ≤ 122)) || (decide (48 ≤ ((s.data.toList.getD k 0).toNat : Int)) && decide (((s.data.toList.getD k 0).toNat : Int) ≤ 57))))) gF (fun hb => s_move (.tmp 0 (.str (s))))) (.cons (Step.guard _ rfl (.bool (((decide (97 ≤ ((s.data.toList.getD k 0).toNat : Int)) && decide (((s.data.toList.getD k 0).toNat : Int) ≤ 122)) || (decide (48 ≤ ((s.data.toList.getD k 0).toNat : Int)) && decide (((s.data.toList.getD k 0).toNat : Int) ≤ 57))))) gF (fun hb => s_move (.tmp 3 (I (k : Int))))) (.cons (Step.guard _ rfl (.bool (((decide (97 ≤ ((s.data.toList.getD k 0).toNat : Int)) && decide (((s.data.toList.getD k 0).toNat : Int) ≤ 122)) || (decide (48 ≤ ((s.data.toList.getD k 0).toNat : Int)) && decide (((s.data.toList.getD k 0).toNat : Int) ≤ 57))))) gF (fun hb => s_indexS Try.underlying9 (.tmpC hb 51 (.str (s))) (.tmpC hb 52 (I (k : Int))) (by have hq := (iN (iO (iA iD iD) (iA iD iD))).1 hb; omega))) (.cons (Step.guard _ rfl (.bool (((decide (97 ≤ ((s.data.toList.getD k 0).toNat : Int)) && decide (((s.data.toList.getD k 0).toNat : Int) ≤ 122)) || (decide (48 ≤ ((s.data.toList.getD k 0).toNat : Int)) && decide (((s.data.toList.getD k 0).toNat : Int) ≤ 57))))) gF (fun hb => s_eql (.tmpC hb 53 (.int .u8 ((s.data.toList.getD k 0).toNat : Int))) (.int .u8 (45)))) (.cons (s_or' (e := (!((decide (97 ≤ ((s.data.toList.getD k 0).toNat : Int)) && decide (((s.data.toList.getD k 0).toNat : Int) ≤ 122)) || (decide (48 ≤ ((s.data.toList.getD k 0).toNat : Int)) && decide (((s.data.toList.getD k 0).toNat : Int) ≤ 57))))) (q := decide (((s.data.toList.getD k 0).toNat : Int) = 45)) (fun h => (notMk h)) (.tmp 50 (.bool (((decide (97 ≤ ((s.data.toList.getD k 0).toNat : Int)) && decide (((s.data.toList.getD k 0).toNat : Int) ≤ 122)) || (decide (48 ≤ ((s.data.toList.getD k 0).toNat : Int)) && decide (((s.data.toList.getD k 0).toNat : Int) ≤ 57))))))) (.cons (s_not (.tmp 55 (.bool ((((decide (97 ≤ ((s.data.toList.getD k 0).toNat : Int)) && decide (((s.data.toList.getD k 0).toNat : Int) ≤ 122)) || (decide (48 ≤ ((s.data.toList.getD k 0).toNat : Int)) && decide (((s.data.toList.getD k 0).toNat : Int) ≤ 57))) || decide (((s.data.toList.getD k 0).toNat : Int) = 45)))))) .nil))))))))))))))))))))))))))))) ?_)
   refine AC.cend ((!(((decide (97 ≤ ((s.data.toList.getD k 0).toNat : Int)) && decide (((s.data.toList.getD k 0).toNat : Int) ≤ 122)) || (decide (48 ≤ ((s.data.toList.getD k 0).toNat : Int)) && decide (((s.data.toList.getD k 0).toNat : Int) ≤ 57))) || decide (((s.data.toList.getD k 0).toNat : Int) = 45)))) rfl rfl (fun hc => ?_) (fun hc => ?_)
   ·have q4 := (iN (iO (iO (iA iD iD) (iA iD iD)) iD)).1 hc
    refine AC.rq (fun σ7 => RegOK.m1 [2] ⟨[(2, .bool (false))], mem⟩ (.cons (s_assign (.bool false)) .nil) ?_)
    refine AC.ret ?_
    refine blockQ_r ?_
    refine thenQ_r ?_
    refine thenQ_r ?_
    refine blockQ_r ?_
    refine thenQ_r ?_
    exact FinQ.ret (result1 rfl (res_tmp (v := .bool (false)) rfl rfl)) ⟨by first | exact congrArg AV.bool (name19a (by omega)) | exact congrArg AV.bool (name19f (k := k) (by omega) (by rw [Bool.eq_false_iff]; simp only [okU, lowU, digU, ne_eq, Bool.or_eq_true, Bool.and_eq_true, decide_eq_true_eq]; omega)) | exact congrArg AV.bool (name19 (by omega) (by omega) (by omega) (by omega) (by intro j hj; exact hn j (by omega))), rfl⟩
   ·have q5 := iF (iN (iO (iO (iA iD iD) (iA iD iD)) iD)) hc
    refine AC.skip ?_
    refine blockQ_n ?_
    refine thenQ_n ?_
    refine AC.re (fun σ5 => RegOK.m1 [0, 3] ⟨[(0, .str (s)), (3, I ((k : Int) + 1))], mem⟩ (.cons (s_move (.tmp 3 (I (k : Int)))) (.cons (s_add (.tmp 26 (I (k : Int))) (.int .i64 (1)) (inK_i64 (by omega))) (.cons (s_assign (.tmp 27 (I ((k : Int) + 1)))) .nil))) ?_)
    refine thenQ_n ⟨_, ?_, _, ⟨(k + 1), rfl, ⟨(by omega), (by intro j hj; rcases Decidable.em (j = k) with hjk | hjk; (subst hjk; simp only [okU, lowU, digU, Bool.or_eq_true, Bool.and_eq_true, decide_eq_true_eq]; omega); exact hn j (by omega))⟩, rfl⟩, Weak.of [] (by kernel_rfl) (by kernel_rfl)⟩
    omega
  ·have q6 := iF iD hc
   refine AC.exit ?_
   refine thenQ_x ?_
   refine thenQ_x ?_
   refine blockQ_x ?_
   refine thenQ_n ?_
   refine AC.rq (fun σ8 => RegOK.m1 [2] ⟨[(2, .bool (true))], mem⟩ (.cons (s_assign (.bool true)) .nil) ?_)
   refine AC.ret ?_
   exact FinQ.ret (result1 rfl (res_tmp (v := .bool (true)) rfl rfl)) ⟨by first | exact congrArg AV.bool (name19a (by omega)) | exact congrArg AV.bool (name19f (k := k) (by omega) (by rw [Bool.eq_false_iff]; simp only [okU, lowU, digU, ne_eq, Bool.or_eq_true, Bool.and_eq_true, decide_eq_true_eq]; omega)) | exact congrArg AV.bool (name19 (by omega) (by omega) (by omega) (by omega) (by intro j hj; exact hn j (by omega))), rfl⟩
end Go.Proofs.Yteomgedahkpnlaa
end
section
set_option maxRecDepth 100000
namespace Go.Proofs.Yteomgedahkpnlaa
open Go.Proofs
theorem F97 (l : List Guard) (f : FuncId) (caps : List AV) (es : List Ent) (p : Guard → Bool) (hcall : Callable Try.prog f) (hf : ∀ x : Guard, x ∈ l → EffR Try.prog f ([] ++ [Guard.av x] ++ caps) es (.bool (p x))) (hl : (l.length : Int) ≤ 9223372036854775807) : EffR Try.prog 97 [.slice ((l).map Guard.av) none, .func f [] caps] es (.int .i64 (idxI p l)) := by
 intro mem hes
 refine Meets.body 0 Try.func97 rfl rfl ?_
 refine AC.rq (fun σ0 => RegOK.m1 [0, 1] ⟨[(0, .slice ((l).map Guard.av) none), (1, .func f [] caps)], mem⟩ (.cons (s_assign (.int .i64 (0))) .nil) ?_)
 refine AC.seq ?_
 refine AC.rq (fun σ1 => RegOK.m1 [0, 1, 7, 8] ⟨[(0, .slice ((l).map Guard.av) none), (1, .func f [] caps), (7, I (l.length : Int)), (8, I 0)], mem⟩ (.cons (s_move (.tmp 0 (.slice ((l).map Guard.av) none))) (.cons (s_lenM (l := l) slc90 (.tmp 6 (.slice ((l).map Guard.av) none))) (.cons (s_move (.int .i64 (0))) .nil))) ?_)
 refine AC.block ?_
 refine AC.loopW (fun mz T => ∃ (k : Nat), mz = l.length - k ∧ ((k ≤ l.length) ∧ (∀ j : Nat, j < k → p (l.getD j default) = false)) ∧ T = ⟨[(0, .slice ((l).map Guard.av) none), (1, .func f [] caps), (7, I (l.length : Int)), (8, I (k : Int))], mem⟩) _ ⟨[(0, .slice ((l).map Guard.av) none), (1, .func f [] caps), (7, I (l.length : Int)), (8, I ((0) : Int))], mem⟩ ⟨0, rfl, ⟨(by omega), (by intro j hj; omega)⟩, rfl⟩ (Weak.of [] (by kernel_rfl) (by kernel_rfl)) ?_ Fr.plain
 rintro _ _ ⟨k, rfl, ⟨hk, hn⟩, rfl⟩
 refine AC.rq (fun σ2 => RegOK.m1 [0, 1, 7, 8, 9] ⟨[(0, .slice ((l).map Guard.av) none), (1, .func f [] caps), (7, I (l.length : Int)), (8, I (k : Int)), (9, .bool (decide ((k : Int) < (l.length : Int))))], mem⟩ (.cons (s_lss (.tmp 8 (I (k : Int))) (.tmp 7 (I (l.length : Int)))) .nil) ?_)
 refine AC.cseq (decide ((k : Int) < (l.length : Int))) rfl rfl (fun hc => ?_) (fun hc => ?_)
 ·have q1 := iD.1 hc
  refine AC.skip ?_
  refine thenQ_n ?_
  refine AC.bseq ?_
  refine AC.rq (fun σ3 => RegOK.m1 [0, 1, 5, 7, 8] ⟨[(0, .slice ((l).map Guard.av) none), (1, .func f [] caps), (5, I (k : Int)), (7, I (l.length : Int)), (8, I (k : Int))], mem⟩ (.cons (s_move (.tmp 8 (I (k : Int)))) (.cons (s_assign (.tmp 10 (I (k : Int)))) .nil)) ?_)
  refine AC.rq (fun σ4 => RegOK.mkN [0, 1, 5, 7, 8, 16] ⟨[(0, .slice ((l).map Guard.av) none), (1, .func f [] caps), (5, I (k : Int)), (7, I (l.length : Int)), (8, I (k : Int)), (16, .bool ((p (l.getD k default))))], mem⟩ (.cons (s_move (.tmp 1 (.func f [] caps))) (.cons (s_move (.tmp 0 (.slice ((l).map Guard.av) none))) (.cons (s_move (.tmp 5 (I (k : Int)))) (.cons (s_ixM (l := l) (f := Guard.av) (default) slc90 (.tmp 12 (.slice ((l).map Guard.av) none)) (.tmp 13 (I (k : Int))) (by omega) rfl) (.cons (s_loadAe (l := (Guard.av (l.getD k default)).cells) tyA96 (.tmp 14 (.eptr (Guard.av (l.getD k default)) 0)) rfl rfl) (.cons (s_callR (r := .bool ((p (l.getD k default)))) (es := (es)) (.tmp 11 (.func f [] caps)) (.cons (.tmp 15 (Guard.av (l.getD k default))) .nil) hcall (hf (l.getD k default) (getD_mem (by omega)))) .nil)))))) (by kernel_rfl) (by kernel_rfl) (by kernel_rfl) ⟨trivial, trivial, trivial, trivial, trivial, (fun lq => (Has.left (Has.right (pre := []) hes))), trivial⟩ (by kernel_rfl) (by kernel_rfl) (by kernel_rfl) ?_)
  refine AC.cend ((p (l.getD k default))) rfl rfl (fun hc => ?_) (fun hc => ?_)
  ·have q2 := iB.1 hc
   refine AC.rq (fun σ5 => RegOK.m1 [4] ⟨[(4, I (k : Int))], mem⟩ (.cons (s_move (.tmp 5 (I (k : Int)))) (.cons (s_assign (.tmp 17 (I (k : Int)))) .nil)) ?_)
   refine AC.ret ?_
   refine blockQ_r ?_
   refine thenQ_r ?_
   refine thenQ_r ?_
   refine blockQ_r ?_
   refine thenQ_r ?_
   exact FinQ.ret (result1 rfl (res_tmp (v := I (k : Int)) rfl rfl)) ⟨by first | exact congrArg I (idx_found default (by omega) hn hc) | exact congrArg I (idx_none default (by intro j hj; exact hn j (by omega))), rfl⟩
  ·have q3 := iF iB hc
   refine AC.skip ?_
   refine blockQ_n ?_
   refine thenQ_n ?_
   refine AC.re (fun σ6 => RegOK.m1 [0, 1, 7, 8] ⟨[(0, .slice ((l).map Guard.av) none), (1, .func f [] caps), (7, I (l.length : Int)), (8, I ((k : Int) + 1))], mem⟩ (.cons (s_add (.tmp 8 (I (k : Int))) (.int .i64 (1)) (inK_i64 (by omega))) (.cons (s_move (.tmp 18 (I ((k : Int) + 1)))) .nil)) ?_)
   refine thenQ_n ⟨_, ?_, _, ⟨(k + 1), rfl, ⟨(by omega), (by intro j hj; rcases Decidable.em (j = k) with h | h; (subst h; exact hc); exact hn j (by omega))⟩, rfl⟩, Weak.of [] (by kernel_rfl) (by kernel_rfl)⟩
   omega
 ·have q4 := iF iD hc
  refine AC.exit ?_
  refine thenQ_x ?_
  refine thenQ_x ?_
  refine blockQ_x ?_
  refine thenQ_n ?_
  refine AC.rq (fun σ7 => RegOK.m1 [4] ⟨[(4, I (-1))], mem⟩ (.cons (s_assign (.int .i64 (-1))) .nil) ?_)
  refine AC.ret ?_
  exact FinQ.ret (result1 rfl (res_tmp (v := I (-1)) rfl rfl)) ⟨by first | exact congrArg I (idx_found default (by omega) hn hc) | exact congrArg I (idx_none default (by intro j hj; exact hn j (by omega))), rfl⟩
theorem F55 (l : List Guard) (f : FuncId) (caps : List AV) (es : List Ent) (p : Guard → Bool) (hcall : Callable Try.prog f) (hf : ∀ x : Guard, x ∈ l → EffR Try.prog f ([] ++ [Guard.av x] ++ caps) es (.bool (p x))) (hl : (l.length : Int) ≤ 9223372036854775807) : EffR Try.prog 55 [.slice ((l).map Guard.av) none, .func f [] caps] es (.bool (l.any p)) := by
 intro mem hes
 refine Meets.body 0 Try.func55 rfl rfl ?_
 refine AC.rq (fun σ0 => RegOK.m1 [0, 1] ⟨[(0, .slice ((l).map Guard.av) none), (1, .func f [] caps)], mem⟩ (.cons (s_assign (.bool false)) .nil) ?_)
 refine AC.rq (fun σ1 => RegOK.mkN [4] ⟨[(4, .bool (decide (0 ≤ (idxI p l))))], mem⟩ (.cons (s_move (.tmp 0 (.slice ((l).map Guard.av) none))) (.cons (s_move (.tmp 1 (.func f [] caps))) (.cons (s_callR (r := I (idxI p l)) (es := (es)) (.func 97) (.cons (.tmp 5 (.slice ((l).map Guard.av) none)) (.cons (.tmp 6 (.func f [] caps)) .nil)) call97 (F97 l f caps es p hcall hf hl)) (.cons (s_geq (.tmp 7 (I (idxI p l))) (.int .i64 (0))) (.cons (s_assign (.tmp 8 (.bool (decide (0 ≤ (idxI p l)))))) .nil))))) (by kernel_rfl) (by kernel_rfl) (by kernel_rfl) ⟨trivial, trivial, (fun lq => (Has.left (Has.right (pre := []) hes))), trivial, trivial, trivial⟩ (by kernel_rfl) (by kernel_rfl) (by kernel_rfl) ?_)
 refine AC.ret ?_
 exact FinQ.ret (result1 rfl (res_tmp (v := .bool (decide (0 ≤ (idxI p l)))) rfl rfl)) ⟨by exact congrArg AV.bool (idx_any p l), rfl⟩
theorem F101 (l : List (Int × Int)) (f : FuncId) (caps : List AV) (es : List Ent) (p : (Int × Int) → Bool) (hcall : Callable Try.prog f) (hf : ∀ x : (Int × Int), x ∈ l → EffR Try.prog f ([] ++ [encA x] ++ caps) es (.bool (p x))) (hl : (l.length : Int) ≤ 9223372036854775807) : EffR Try.prog 101 [.slice ((l).map encA) none, .func f [] caps] es (.int .i64 (idxI p l)) := by
 intro mem hes
 refine Meets.body 0 Try.func101 rfl rfl ?_
 refine AC.rq (fun σ0 => RegOK.m1 [0, 1] ⟨[(0, .slice ((l).map encA) none), (1, .func f [] caps)], mem⟩ (.cons (s_assign (.int .i64 (0))) .nil) ?_)
 refine AC.seq ?_
 refine AC.rq (fun σ1 => RegOK.m1 [0, 1, 7, 8] ⟨[(0, .slice ((l).map encA) none), (1, .func f [] caps), (7, I (l.length : Int)), (8, I 0)], mem⟩ (.cons (s_move (.tmp 0 (.slice ((l).map encA) none))) (.cons (s_lenM (l := l) slc54 (.tmp 6 (.slice ((l).map encA) none))) (.cons (s_move (.int .i64 (0))) .nil))) ?_)
 refine AC.block ?_
 refine AC.loopW (fun mz T => ∃ (k : Nat), mz = l.length - k ∧ ((k ≤ l.length) ∧ (∀ j : Nat, j < k → p (l.getD j (0, 0)) = false)) ∧ T = ⟨[(0, .slice ((l).map encA) none), (1, .func f [] caps), (7, I (l.length : Int)), (8, I (k : Int))], mem⟩) _ ⟨[(0, .slice ((l).map encA) none), (1, .func f [] caps), (7, I (l.length : Int)), (8, I ((0) : Int))], mem⟩ ⟨0, rfl, ⟨(by omega), (by intro j hj; omega)⟩, rfl⟩ (Weak.of [] (by kernel_rfl) (by kernel_rfl)) ?_ Fr.plain
 rintro _ _ ⟨k, rfl, ⟨hk, hn⟩, rfl⟩
 refine AC.rq (fun σ2 => RegOK.m1 [0, 1, 7, 8, 9] ⟨[(0, .slice ((l).map encA) none), (1, .func f [] caps), (7, I (l.length : Int)), (8, I (k : Int)), (9, .bool (decide ((k : Int) < (l.length : Int))))], mem⟩ (.cons (s_lss (.tmp 8 (I (k : Int))) (.tmp 7 (I (l.length : Int)))) .nil) ?_)
 refine AC.cseq (decide ((k : Int) < (l.length : Int))) rfl rfl (fun hc => ?_) (fun hc => ?_)
 ·have q1 := iD.1 hc
  refine AC.skip ?_
  refine thenQ_n ?_
  refine AC.bseq ?_
  refine AC.rq (fun σ3 => RegOK.m1 [0, 1, 5, 7, 8] ⟨[(0, .slice ((l).map encA) none), (1, .func f [] caps), (5, I (k : Int)), (7, I (l.length : Int)), (8, I (k : Int))], mem⟩ (.cons (s_move (.tmp 8 (I (k : Int)))) (.cons (s_assign (.tmp 10 (I (k : Int)))) .nil)) ?_)
  refine AC.rq (fun σ4 => RegOK.mkN [0, 1, 5, 7, 8, 16] ⟨[(0, .slice ((l).map encA) none), (1, .func f [] caps), (5, I (k : Int)), (7, I (l.length : Int)), (8, I (k : Int)), (16, .bool ((p (l.getD k (0, 0)))))], mem⟩ (.cons (s_move (.tmp 1 (.func f [] caps))) (.cons (s_move (.tmp 0 (.slice ((l).map encA) none))) (.cons (s_move (.tmp 5 (I (k : Int)))) (.cons (s_ixM (l := l) (f := encA) ((0, 0)) slc54 (.tmp 12 (.slice ((l).map encA) none)) (.tmp 13 (I (k : Int))) (by omega) rfl) (.cons (s_loadAe (l := [I ((l.getD k (0, 0)).1), I ((l.getD k (0, 0)).2)]) tyA58 (.tmp 14 (.eptr (.agg [I ((l.getD k (0, 0)).1), I ((l.getD k (0, 0)).2)]) 0)) rfl rfl) (.cons (s_callR (r := .bool ((p (l.getD k (0, 0))))) (es := (es)) (.tmp 11 (.func f [] caps)) (.cons (.tmp 15 (.agg [I ((l.getD k (0, 0)).1), I ((l.getD k (0, 0)).2)])) .nil) hcall (hf (l.getD k (0, 0)) (getD_mem (by omega)))) .nil)))))) (by kernel_rfl) (by kernel_rfl) (by kernel_rfl) ⟨trivial, trivial, trivial, trivial, trivial, (fun lq => (Has.left (Has.right (pre := []) hes))), trivial⟩ (by kernel_rfl) (by kernel_rfl) (by kernel_rfl) ?_)
  refine AC.cend ((p (l.getD k (0, 0)))) rfl rfl (fun hc => ?_) (fun hc => ?_)
  ·have q2 := iB.1 hc
   refine AC.rq (fun σ5 => RegOK.m1 [4] ⟨[(4, I (k : Int))], mem⟩ (.cons (s_move (.tmp 5 (I (k : Int)))) (.cons (s_assign (.tmp 17 (I (k : Int)))) .nil)) ?_)
   refine AC.ret ?_
   refine blockQ_r ?_
   refine thenQ_r ?_
   refine thenQ_r ?_
   refine blockQ_r ?_
   refine thenQ_r ?_
   exact FinQ.ret (result1 rfl (res_tmp (v := I (k : Int)) rfl rfl)) ⟨by first | exact congrArg I (idx_found (0, 0) (by omega) hn hc) | exact congrArg I (idx_none (0, 0) (by intro j hj; exact hn j (by omega))), rfl⟩
  ·have q3 := iF iB hc
   refine AC.skip ?_
   refine blockQ_n ?_
   refine thenQ_n ?_
   refine AC.re (fun σ6 => RegOK.m1 [0, 1, 7, 8] ⟨[(0, .slice ((l).map encA) none), (1, .func f [] caps), (7, I (l.length : Int)), (8, I ((k : Int) + 1))], mem⟩ (.cons (s_add (.tmp 8 (I (k : Int))) (.int .i64 (1)) (inK_i64 (by omega))) (.cons (s_move (.tmp 18 (I ((k : Int) + 1)))) .nil)) ?_)
   refine thenQ_n ⟨_, ?_, _, ⟨(k + 1), rfl, ⟨(by omega), (by intro j hj; rcases Decidable.em (j = k) with h | h; (subst h; exact hc); exact hn j (by omega))⟩, rfl⟩, Weak.of [] (by kernel_rfl) (by kernel_rfl)⟩
   omega
 ·have q4 := iF iD hc
  refine AC.exit ?_
  refine thenQ_x ?_
  refine thenQ_x ?_
  refine blockQ_x ?_
  refine thenQ_n ?_
  refine AC.rq (fun σ7 => RegOK.m1 [4] ⟨[(4, I (-1))], mem⟩ (.cons (s_assign (.int .i64 (-1))) .nil) ?_)
  refine AC.ret ?_
  exact FinQ.ret (result1 rfl (res_tmp (v := I (-1)) rfl rfl)) ⟨by first | exact congrArg I (idx_found (0, 0) (by omega) hn hc) | exact congrArg I (idx_none (0, 0) (by intro j hj; exact hn j (by omega))), rfl⟩
theorem F59 (l : List (Int × Int)) (f : FuncId) (caps : List AV) (es : List Ent) (p : (Int × Int) → Bool) (hcall : Callable Try.prog f) (hf : ∀ x : (Int × Int), x ∈ l → EffR Try.prog f ([] ++ [encA x] ++ caps) es (.bool (p x))) (hl : (l.length : Int) ≤ 9223372036854775807) : EffR Try.prog 59 [.slice ((l).map encA) none, .func f [] caps] es (.bool (l.any p)) := by
 intro mem hes
 refine Meets.body 0 Try.func59 rfl rfl ?_
 refine AC.rq (fun σ0 => RegOK.m1 [0, 1] ⟨[(0, .slice ((l).map encA) none), (1, .func f [] caps)], mem⟩ (.cons (s_assign (.bool false)) .nil) ?_)
 refine AC.rq (fun σ1 => RegOK.mkN [4] ⟨[(4, .bool (decide (0 ≤ (idxI p l))))], mem⟩ (.cons (s_move (.tmp 0 (.slice ((l).map encA) none))) (.cons (s_move (.tmp 1 (.func f [] caps))) (.cons (s_callR (r := I (idxI p l)) (es := (es)) (.func 101) (.cons (.tmp 5 (.slice ((l).map encA) none)) (.cons (.tmp 6 (.func f [] caps)) .nil)) call101 (F101 l f caps es p hcall hf hl)) (.cons (s_geq (.tmp 7 (I (idxI p l))) (.int .i64 (0))) (.cons (s_assign (.tmp 8 (.bool (decide (0 ≤ (idxI p l)))))) .nil))))) (by kernel_rfl) (by kernel_rfl) (by kernel_rfl) ⟨trivial, trivial, (fun lq => (Has.left (Has.right (pre := []) hes))), trivial, trivial, trivial⟩ (by kernel_rfl) (by kernel_rfl) (by kernel_rfl) ?_)
 refine AC.ret ?_
 exact FinQ.ret (result1 rfl (res_tmp (v := .bool (decide (0 ≤ (idxI p l)))) rfl rfl)) ⟨by exact congrArg AV.bool (idx_any p l), rfl⟩
theorem F126 (l : List Cable) (f : FuncId) (caps : List AV) (es : List Ent) (p : Cable → Bool) (hcall : Callable Try.prog f) (hf : ∀ x : Cable, x ∈ l → EffR Try.prog f ([] ++ [Cable.av x] ++ caps) es (.bool (p x))) (hl : (l.length : Int) ≤ 9223372036854775807) : EffR Try.prog 126 [.slice ((l).map Cable.av) none, .func f [] caps] es (.int .i64 (idxI p l)) := by
 intro mem hes
 refine Meets.body 0 Try.func126 rfl rfl ?_
 refine AC.rq (fun σ0 => RegOK.m1 [0, 1] ⟨[(0, .slice ((l).map Cable.av) none), (1, .func f [] caps)], mem⟩ (.cons (s_assign (.int .i64 (0))) .nil) ?_)
 refine AC.seq ?_
 refine AC.rq (fun σ1 => RegOK.m1 [0, 1, 7, 8] ⟨[(0, .slice ((l).map Cable.av) none), (1, .func f [] caps), (7, I (l.length : Int)), (8, I 0)], mem⟩ (.cons (s_move (.tmp 0 (.slice ((l).map Cable.av) none))) (.cons (s_lenM (l := l) slc22 (.tmp 6 (.slice ((l).map Cable.av) none))) (.cons (s_move (.int .i64 (0))) .nil))) ?_)
 refine AC.block ?_
 refine AC.loopW (fun mz T => ∃ (k : Nat), mz = l.length - k ∧ ((k ≤ l.length) ∧ (∀ j : Nat, j < k → p (l.getD j default) = false)) ∧ T = ⟨[(0, .slice ((l).map Cable.av) none), (1, .func f [] caps), (7, I (l.length : Int)), (8, I (k : Int))], mem⟩) _ ⟨[(0, .slice ((l).map Cable.av) none), (1, .func f [] caps), (7, I (l.length : Int)), (8, I ((0) : Int))], mem⟩ ⟨0, rfl, ⟨(by omega), (by intro j hj; omega)⟩, rfl⟩ (Weak.of [] (by kernel_rfl) (by kernel_rfl)) ?_ Fr.plain
 rintro _ _ ⟨k, rfl, ⟨hk, hn⟩, rfl⟩
 refine AC.rq (fun σ2 => RegOK.m1 [0, 1, 7, 8, 9] ⟨[(0, .slice ((l).map Cable.av) none), (1, .func f [] caps), (7, I (l.length : Int)), (8, I (k : Int)), (9, .bool (decide ((k : Int) < (l.length : Int))))], mem⟩ (.cons (s_lss (.tmp 8 (I (k : Int))) (.tmp 7 (I (l.length : Int)))) .nil) ?_)
 refine AC.cseq (decide ((k : Int) < (l.length : Int))) rfl rfl (fun hc => ?_) (fun hc => ?_)
 ·have q1 := iD.1 hc
  refine AC.skip ?_
  refine thenQ_n ?_
  refine AC.bseq ?_
  refine AC.rq (fun σ3 => RegOK.m1 [0, 1, 5, 7, 8] ⟨[(0, .slice ((l).map Cable.av) none), (1, .func f [] caps), (5, I (k : Int)), (7, I (l.length : Int)), (8, I (k : Int))], mem⟩ (.cons (s_move (.tmp 8 (I (k : Int)))) (.cons (s_assign (.tmp 10 (I (k : Int)))) .nil)) ?_)
  refine AC.rq (fun σ4 => RegOK.mkN [0, 1, 5, 7, 8, 16] ⟨[(0, .slice ((l).map Cable.av) none), (1, .func f [] caps), (5, I (k : Int)), (7, I (l.length : Int)), (8, I (k : Int)), (16, .bool ((p (l.getD k default))))], mem⟩ (.cons (s_move (.tmp 1 (.func f [] caps))) (.cons (s_move (.tmp 0 (.slice ((l).map Cable.av) none))) (.cons (s_move (.tmp 5 (I (k : Int)))) (.cons (s_ixM (l := l) (f := Cable.av) (default) slc22 (.tmp 12 (.slice ((l).map Cable.av) none)) (.tmp 13 (I (k : Int))) (by omega) rfl) (.cons (s_loadAe (l := (Cable.av (l.getD k default)).cells) tyA71 (.tmp 14 (.eptr (Cable.av (l.getD k default)) 0)) rfl rfl) (.cons (s_callR (r := .bool ((p (l.getD k default)))) (es := (es)) (.tmp 11 (.func f [] caps)) (.cons (.tmp 15 (Cable.av (l.getD k default))) .nil) hcall (hf (l.getD k default) (getD_mem (by omega)))) .nil)))))) (by kernel_rfl) (by kernel_rfl) (by kernel_rfl) ⟨trivial, trivial, trivial, trivial, trivial, (fun lq => (Has.left (Has.right (pre := []) hes))), trivial⟩ (by kernel_rfl) (by kernel_rfl) (by kernel_rfl) ?_)
  refine AC.cend ((p (l.getD k default))) rfl rfl (fun hc => ?_) (fun hc => ?_)
  ·have q2 := iB.1 hc
   refine AC.rq (fun σ5 => RegOK.m1 [4] ⟨[(4, I (k : Int))], mem⟩ (.cons (s_move (.tmp 5 (I (k : Int)))) (.cons (s_assign (.tmp 17 (I (k : Int)))) .nil)) ?_)
   refine AC.ret ?_
   refine blockQ_r ?_
   refine thenQ_r ?_
   refine thenQ_r ?_
   refine blockQ_r ?_
   refine thenQ_r ?_
   exact FinQ.ret (result1 rfl (res_tmp (v := I (k : Int)) rfl rfl)) ⟨by first | exact congrArg I (idx_found default (by omega) hn hc) | exact congrArg I (idx_none default (by intro j hj; exact hn j (by omega))), rfl⟩
  ·have q3 := iF iB hc
   refine AC.skip ?_
   refine blockQ_n ?_
   refine thenQ_n ?_
   refine AC.re (fun σ6 => RegOK.m1 [0, 1, 7, 8] ⟨[(0, .slice ((l).map Cable.av) none), (1, .func f [] caps), (7, I (l.length : Int)), (8, I ((k : Int) + 1))], mem⟩ (.cons (s_add (.tmp 8 (I (k : Int))) (.int .i64 (1)) (inK_i64 (by omega))) (.cons (s_move (.tmp 18 (I ((k : Int) + 1)))) .nil)) ?_)
   refine thenQ_n ⟨_, ?_, _, ⟨(k + 1), rfl, ⟨(by omega), (by intro j hj; rcases Decidable.em (j = k) with h | h; (subst h; exact hc); exact hn j (by omega))⟩, rfl⟩, Weak.of [] (by kernel_rfl) (by kernel_rfl)⟩
   omega
 ·have q4 := iF iD hc
  refine AC.exit ?_
  refine thenQ_x ?_
  refine thenQ_x ?_
  refine blockQ_x ?_
  refine thenQ_n ?_
  refine AC.rq (fun σ7 => RegOK.m1 [4] ⟨[(4, I (-1))], mem⟩ (.cons (s_assign (.int .i64 (-1))) .nil) ?_)
  refine AC.ret ?_
  exact FinQ.ret (result1 rfl (res_tmp (v := I (-1)) rfl rfl)) ⟨by first | exact congrArg I (idx_found default (by omega) hn hc) | exact congrArg I (idx_none default (by intro j hj; exact hn j (by omega))), rfl⟩
theorem F105 (l : List Cable) (f : FuncId) (caps : List AV) (es : List Ent) (p : Cable → Bool) (hcall : Callable Try.prog f) (hf : ∀ x : Cable, x ∈ l → EffR Try.prog f ([] ++ [Cable.av x] ++ caps) es (.bool (p x))) (hl : (l.length : Int) ≤ 9223372036854775807) : EffR Try.prog 105 [.slice ((l).map Cable.av) none, .func f [] caps] es (.bool (l.any p)) := by
 intro mem hes
 refine Meets.body 0 Try.func105 rfl rfl ?_
 refine AC.rq (fun σ0 => RegOK.m1 [0, 1] ⟨[(0, .slice ((l).map Cable.av) none), (1, .func f [] caps)], mem⟩ (.cons (s_assign (.bool false)) .nil) ?_)
 refine AC.rq (fun σ1 => RegOK.mkN [4] ⟨[(4, .bool (decide (0 ≤ (idxI p l))))], mem⟩ (.cons (s_move (.tmp 0 (.slice ((l).map Cable.av) none))) (.cons (s_move (.tmp 1 (.func f [] caps))) (.cons (s_callR (r := I (idxI p l)) (es := (es)) (.func 126) (.cons (.tmp 5 (.slice ((l).map Cable.av) none)) (.cons (.tmp 6 (.func f [] caps)) .nil)) call126 (F126 l f caps es p hcall hf hl)) (.cons (s_geq (.tmp 7 (I (idxI p l))) (.int .i64 (0))) (.cons (s_assign (.tmp 8 (.bool (decide (0 ≤ (idxI p l)))))) .nil))))) (by kernel_rfl) (by kernel_rfl) (by kernel_rfl) ⟨trivial, trivial, (fun lq => (Has.left (Has.right (pre := []) hes))), trivial, trivial, trivial⟩ (by kernel_rfl) (by kernel_rfl) (by kernel_rfl) ?_)
 refine AC.ret ?_
 exact FinQ.ret (result1 rfl (res_tmp (v := .bool (decide (0 ≤ (idxI p l)))) rfl rfl)) ⟨by exact congrArg AV.bool (idx_any p l), rfl⟩
theorem F127 (l : List Fuse) (f : FuncId) (caps : List AV) (es : List Ent) (p : Fuse → Bool) (hcall : Callable Try.prog f) (hf : ∀ x : Fuse, x ∈ l → EffR Try.prog f ([] ++ [Fuse.av x] ++ caps) es (.bool (p x))) (hl : (l.length : Int) ≤ 9223372036854775807) : EffR Try.prog 127 [.slice ((l).map Fuse.av) none, .func f [] caps] es (.int .i64 (idxI p l)) := by
 intro mem hes
 refine Meets.body 0 Try.func127 rfl rfl ?_
 refine AC.rq (fun σ0 => RegOK.m1 [0, 1] ⟨[(0, .slice ((l).map Fuse.av) none), (1, .func f [] caps)], mem⟩ (.cons (s_assign (.int .i64 (0))) .nil) ?_)
 refine AC.seq ?_
 refine AC.rq (fun σ1 => RegOK.m1 [0, 1, 7, 8] ⟨[(0, .slice ((l).map Fuse.av) none), (1, .func f [] caps), (7, I (l.length : Int)), (8, I 0)], mem⟩ (.cons (s_move (.tmp 0 (.slice ((l).map Fuse.av) none))) (.cons (s_lenM (l := l) slc23 (.tmp 6 (.slice ((l).map Fuse.av) none))) (.cons (s_move (.int .i64 (0))) .nil))) ?_)
 refine AC.block ?_
 refine AC.loopW (fun mz T => ∃ (k : Nat), mz = l.length - k ∧ ((k ≤ l.length) ∧ (∀ j : Nat, j < k → p (l.getD j default) = false)) ∧ T = ⟨[(0, .slice ((l).map Fuse.av) none), (1, .func f [] caps), (7, I (l.length : Int)), (8, I (k : Int))], mem⟩) _ ⟨[(0, .slice ((l).map Fuse.av) none), (1, .func f [] caps), (7, I (l.length : Int)), (8, I ((0) : Int))], mem⟩ ⟨0, rfl, ⟨(by omega), (by intro j hj; omega)⟩, rfl⟩ (Weak.of [] (by kernel_rfl) (by kernel_rfl)) ?_ Fr.plain
 rintro _ _ ⟨k, rfl, ⟨hk, hn⟩, rfl⟩
 refine AC.rq (fun σ2 => RegOK.m1 [0, 1, 7, 8, 9] ⟨[(0, .slice ((l).map Fuse.av) none), (1, .func f [] caps), (7, I (l.length : Int)), (8, I (k : Int)), (9, .bool (decide ((k : Int) < (l.length : Int))))], mem⟩ (.cons (s_lss (.tmp 8 (I (k : Int))) (.tmp 7 (I (l.length : Int)))) .nil) ?_)
 refine AC.cseq (decide ((k : Int) < (l.length : Int))) rfl rfl (fun hc => ?_) (fun hc => ?_)
 ·have q1 := iD.1 hc
  refine AC.skip ?_
  refine thenQ_n ?_
  refine AC.bseq ?_
  refine AC.rq (fun σ3 => RegOK.m1 [0, 1, 5, 7, 8] ⟨[(0, .slice ((l).map Fuse.av) none), (1, .func f [] caps), (5, I (k : Int)), (7, I (l.length : Int)), (8, I (k : Int))], mem⟩ (.cons (s_move (.tmp 8 (I (k : Int)))) (.cons (s_assign (.tmp 10 (I (k : Int)))) .nil)) ?_)
  refine AC.rq (fun σ4 => RegOK.mkN [0, 1, 5, 7, 8, 16] ⟨[(0, .slice ((l).map Fuse.av) none), (1, .func f [] caps), (5, I (k : Int)), (7, I (l.length : Int)), (8, I (k : Int)), (16, .bool ((p (l.getD k default))))], mem⟩ (.cons (s_move (.tmp 1 (.func f [] caps))) (.cons (s_move (.tmp 0 (.slice ((l).map Fuse.av) none))) (.cons (s_move (.tmp 5 (I (k : Int)))) (.cons (s_ixM (l := l) (f := Fuse.av) (default) slc23 (.tmp 12 (.slice ((l).map Fuse.av) none)) (.tmp 13 (I (k : Int))) (by omega) rfl) (.cons (s_loadAe (l := (Fuse.av (l.getD k default)).cells) tyA94 (.tmp 14 (.eptr (Fuse.av (l.getD k default)) 0)) rfl rfl) (.cons (s_callR (r := .bool ((p (l.getD k default)))) (es := (es)) (.tmp 11 (.func f [] caps)) (.cons (.tmp 15 (Fuse.av (l.getD k default))) .nil) hcall (hf (l.getD k default) (getD_mem (by omega)))) .nil)))))) (by kernel_rfl) (by kernel_rfl) (by kernel_rfl) ⟨trivial, trivial, trivial, trivial, trivial, (fun lq => (Has.left (Has.right (pre := []) hes))), trivial⟩ (by kernel_rfl) (by kernel_rfl) (by kernel_rfl) ?_)
  refine AC.cend ((p (l.getD k default))) rfl rfl (fun hc => ?_) (fun hc => ?_)
  ·have q2 := iB.1 hc
   refine AC.rq (fun σ5 => RegOK.m1 [4] ⟨[(4, I (k : Int))], mem⟩ (.cons (s_move (.tmp 5 (I (k : Int)))) (.cons (s_assign (.tmp 17 (I (k : Int)))) .nil)) ?_)
   refine AC.ret ?_
   refine blockQ_r ?_
   refine thenQ_r ?_
   refine thenQ_r ?_
   refine blockQ_r ?_
   refine thenQ_r ?_
   exact FinQ.ret (result1 rfl (res_tmp (v := I (k : Int)) rfl rfl)) ⟨by first | exact congrArg I (idx_found default (by omega) hn hc) | exact congrArg I (idx_none default (by intro j hj; exact hn j (by omega))), rfl⟩
  ·have q3 := iF iB hc
   refine AC.skip ?_
   refine blockQ_n ?_
   refine thenQ_n ?_
   refine AC.re (fun σ6 => RegOK.m1 [0, 1, 7, 8] ⟨[(0, .slice ((l).map Fuse.av) none), (1, .func f [] caps), (7, I (l.length : Int)), (8, I ((k : Int) + 1))], mem⟩ (.cons (s_add (.tmp 8 (I (k : Int))) (.int .i64 (1)) (inK_i64 (by omega))) (.cons (s_move (.tmp 18 (I ((k : Int) + 1)))) .nil)) ?_)
   refine thenQ_n ⟨_, ?_, _, ⟨(k + 1), rfl, ⟨(by omega), (by intro j hj; rcases Decidable.em (j = k) with h | h; (subst h; exact hc); exact hn j (by omega))⟩, rfl⟩, Weak.of [] (by kernel_rfl) (by kernel_rfl)⟩
   omega
 ·have q4 := iF iD hc
  refine AC.exit ?_
  refine thenQ_x ?_
  refine thenQ_x ?_
  refine blockQ_x ?_
  refine thenQ_n ?_
  refine AC.rq (fun σ7 => RegOK.m1 [4] ⟨[(4, I (-1))], mem⟩ (.cons (s_assign (.int .i64 (-1))) .nil) ?_)
  refine AC.ret ?_
  exact FinQ.ret (result1 rfl (res_tmp (v := I (-1)) rfl rfl)) ⟨by first | exact congrArg I (idx_found default (by omega) hn hc) | exact congrArg I (idx_none default (by intro j hj; exact hn j (by omega))), rfl⟩
theorem F107 (l : List Fuse) (f : FuncId) (caps : List AV) (es : List Ent) (p : Fuse → Bool) (hcall : Callable Try.prog f) (hf : ∀ x : Fuse, x ∈ l → EffR Try.prog f ([] ++ [Fuse.av x] ++ caps) es (.bool (p x))) (hl : (l.length : Int) ≤ 9223372036854775807) : EffR Try.prog 107 [.slice ((l).map Fuse.av) none, .func f [] caps] es (.bool (l.any p)) := by
 intro mem hes
 refine Meets.body 0 Try.func107 rfl rfl ?_
 refine AC.rq (fun σ0 => RegOK.m1 [0, 1] ⟨[(0, .slice ((l).map Fuse.av) none), (1, .func f [] caps)], mem⟩ (.cons (s_assign (.bool false)) .nil) ?_)
 refine AC.rq (fun σ1 => RegOK.mkN [4] ⟨[(4, .bool (decide (0 ≤ (idxI p l))))], mem⟩ (.cons (s_move (.tmp 0 (.slice ((l).map Fuse.av) none))) (.cons (s_move (.tmp 1 (.func f [] caps))) (.cons (s_callR (r := I (idxI p l)) (es := (es)) (.func 127) (.cons (.tmp 5 (.slice ((l).map Fuse.av) none)) (.cons (.tmp 6 (.func f [] caps)) .nil)) call127 (F127 l f caps es p hcall hf hl)) (.cons (s_geq (.tmp 7 (I (idxI p l))) (.int .i64 (0))) (.cons (s_assign (.tmp 8 (.bool (decide (0 ≤ (idxI p l)))))) .nil))))) (by kernel_rfl) (by kernel_rfl) (by kernel_rfl) ⟨trivial, trivial, (fun lq => (Has.left (Has.right (pre := []) hes))), trivial, trivial, trivial⟩ (by kernel_rfl) (by kernel_rfl) (by kernel_rfl) ?_)
 refine AC.ret ?_
 exact FinQ.ret (result1 rfl (res_tmp (v := .bool (decide (0 ≤ (idxI p l)))) rfl rfl)) ⟨by exact congrArg AV.bool (idx_any p l), rfl⟩
theorem F128 (l : List Point) (f : FuncId) (caps : List AV) (es : List Ent) (p : Point → Bool) (hcall : Callable Try.prog f) (hf : ∀ x : Point, x ∈ l → EffR Try.prog f ([] ++ [Point.av x] ++ caps) es (.bool (p x))) (hl : (l.length : Int) ≤ 9223372036854775807) : EffR Try.prog 128 [.slice ((l).map Point.av) none, .func f [] caps] es (.int .i64 (idxI p l)) := by
 intro mem hes
 refine Meets.body 0 Try.func128 rfl rfl ?_
 refine AC.rq (fun σ0 => RegOK.m1 [0, 1] ⟨[(0, .slice ((l).map Point.av) none), (1, .func f [] caps)], mem⟩ (.cons (s_assign (.int .i64 (0))) .nil) ?_)
 refine AC.seq ?_
 refine AC.rq (fun σ1 => RegOK.m1 [0, 1, 7, 8] ⟨[(0, .slice ((l).map Point.av) none), (1, .func f [] caps), (7, I (l.length : Int)), (8, I 0)], mem⟩ (.cons (s_move (.tmp 0 (.slice ((l).map Point.av) none))) (.cons (s_lenM (l := l) slc92 (.tmp 6 (.slice ((l).map Point.av) none))) (.cons (s_move (.int .i64 (0))) .nil))) ?_)
 refine AC.block ?_
 refine AC.loopW (fun mz T => ∃ (k : Nat), mz = l.length - k ∧ ((k ≤ l.length) ∧ (∀ j : Nat, j < k → p (l.getD j default) = false)) ∧ T = ⟨[(0, .slice ((l).map Point.av) none), (1, .func f [] caps), (7, I (l.length : Int)), (8, I (k : Int))], mem⟩) _ ⟨[(0, .slice ((l).map Point.av) none), (1, .func f [] caps), (7, I (l.length : Int)), (8, I ((0) : Int))], mem⟩ ⟨0, rfl, ⟨(by omega), (by intro j hj; omega)⟩, rfl⟩ (Weak.of [] (by kernel_rfl) (by kernel_rfl)) ?_ Fr.plain
 rintro _ _ ⟨k, rfl, ⟨hk, hn⟩, rfl⟩
 refine AC.rq (fun σ2 => RegOK.m1 [0, 1, 7, 8, 9] ⟨[(0, .slice ((l).map Point.av) none), (1, .func f [] caps), (7, I (l.length : Int)), (8, I (k : Int)), (9, .bool (decide ((k : Int) < (l.length : Int))))], mem⟩ (.cons (s_lss (.tmp 8 (I (k : Int))) (.tmp 7 (I (l.length : Int)))) .nil) ?_)
 refine AC.cseq (decide ((k : Int) < (l.length : Int))) rfl rfl (fun hc => ?_) (fun hc => ?_)
 ·have q1 := iD.1 hc
  refine AC.skip ?_
  refine thenQ_n ?_
  refine AC.bseq ?_
  refine AC.rq (fun σ3 => RegOK.m1 [0, 1, 5, 7, 8] ⟨[(0, .slice ((l).map Point.av) none), (1, .func f [] caps), (5, I (k : Int)), (7, I (l.length : Int)), (8, I (k : Int))], mem⟩ (.cons (s_move (.tmp 8 (I (k : Int)))) (.cons (s_assign (.tmp 10 (I (k : Int)))) .nil)) ?_)
  refine AC.rq (fun σ4 => RegOK.mkN [0, 1, 5, 7, 8, 16] ⟨[(0, .slice ((l).map Point.av) none), (1, .func f [] caps), (5, I (k : Int)), (7, I (l.length : Int)), (8, I (k : Int)), (16, .bool ((p (l.getD k default))))], mem⟩ (.cons (s_move (.tmp 1 (.func f [] caps))) (.cons (s_move (.tmp 0 (.slice ((l).map Point.av) none))) (.cons (s_move (.tmp 5 (I (k : Int)))) (.cons (s_ixM (l := l) (f := Point.av) (default) slc92 (.tmp 12 (.slice ((l).map Point.av) none)) (.tmp 13 (I (k : Int))) (by omega) rfl) (.cons (s_loadAe (l := (Point.av (l.getD k default)).cells) tyA141 (.tmp 14 (.eptr (Point.av (l.getD k default)) 0)) rfl rfl) (.cons (s_callR (r := .bool ((p (l.getD k default)))) (es := (es)) (.tmp 11 (.func f [] caps)) (.cons (.tmp 15 (Point.av (l.getD k default))) .nil) hcall (hf (l.getD k default) (getD_mem (by omega)))) .nil)))))) (by kernel_rfl) (by kernel_rfl) (by kernel_rfl) ⟨trivial, trivial, trivial, trivial, trivial, (fun lq => (Has.left (Has.right (pre := []) hes))), trivial⟩ (by kernel_rfl) (by kernel_rfl) (by kernel_rfl) ?_)
  refine AC.cend ((p (l.getD k default))) rfl rfl (fun hc => ?_) (fun hc => ?_)
  ·have q2 := iB.1 hc
   refine AC.rq (fun σ5 => RegOK.m1 [4] ⟨[(4, I (k : Int))], mem⟩ (.cons (s_move (.tmp 5 (I (k : Int)))) (.cons (s_assign (.tmp 17 (I (k : Int)))) .nil)) ?_)
   refine AC.ret ?_
   refine blockQ_r ?_
   refine thenQ_r ?_
   refine thenQ_r ?_
   refine blockQ_r ?_
   refine thenQ_r ?_
   exact FinQ.ret (result1 rfl (res_tmp (v := I (k : Int)) rfl rfl)) ⟨by first | exact congrArg I (idx_found default (by omega) hn hc) | exact congrArg I (idx_none default (by intro j hj; exact hn j (by omega))), rfl⟩
  ·have q3 := iF iB hc
   refine AC.skip ?_
   refine blockQ_n ?_
   refine thenQ_n ?_
   refine AC.re (fun σ6 => RegOK.m1 [0, 1, 7, 8] ⟨[(0, .slice ((l).map Point.av) none), (1, .func f [] caps), (7, I (l.length : Int)), (8, I ((k : Int) + 1))], mem⟩ (.cons (s_add (.tmp 8 (I (k : Int))) (.int .i64 (1)) (inK_i64 (by omega))) (.cons (s_move (.tmp 18 (I ((k : Int) + 1)))) .nil)) ?_)
   refine thenQ_n ⟨_, ?_, _, ⟨(k + 1), rfl, ⟨(by omega), (by intro j hj; rcases Decidable.em (j = k) with h | h; (subst h; exact hc); exact hn j (by omega))⟩, rfl⟩, Weak.of [] (by kernel_rfl) (by kernel_rfl)⟩
   omega
 ·have q4 := iF iD hc
  refine AC.exit ?_
  refine thenQ_x ?_
  refine thenQ_x ?_
  refine blockQ_x ?_
  refine thenQ_n ?_
  refine AC.rq (fun σ7 => RegOK.m1 [4] ⟨[(4, I (-1))], mem⟩ (.cons (s_assign (.int .i64 (-1))) .nil) ?_)
  refine AC.ret ?_
  exact FinQ.ret (result1 rfl (res_tmp (v := I (-1)) rfl rfl)) ⟨by first | exact congrArg I (idx_found default (by omega) hn hc) | exact congrArg I (idx_none default (by intro j hj; exact hn j (by omega))), rfl⟩
theorem F109 (l : List Point) (f : FuncId) (caps : List AV) (es : List Ent) (p : Point → Bool) (hcall : Callable Try.prog f) (hf : ∀ x : Point, x ∈ l → EffR Try.prog f ([] ++ [Point.av x] ++ caps) es (.bool (p x))) (hl : (l.length : Int) ≤ 9223372036854775807) : EffR Try.prog 109 [.slice ((l).map Point.av) none, .func f [] caps] es (.bool (l.any p)) := by
 intro mem hes
 refine Meets.body 0 Try.func109 rfl rfl ?_
 refine AC.rq (fun σ0 => RegOK.m1 [0, 1] ⟨[(0, .slice ((l).map Point.av) none), (1, .func f [] caps)], mem⟩ (.cons (s_assign (.bool false)) .nil) ?_)
 refine AC.rq (fun σ1 => RegOK.mkN [4] ⟨[(4, .bool (decide (0 ≤ (idxI p l))))], mem⟩ (.cons (s_move (.tmp 0 (.slice ((l).map Point.av) none))) (.cons (s_move (.tmp 1 (.func f [] caps))) (.cons (s_callR (r := I (idxI p l)) (es := (es)) (.func 128) (.cons (.tmp 5 (.slice ((l).map Point.av) none)) (.cons (.tmp 6 (.func f [] caps)) .nil)) call128 (F128 l f caps es p hcall hf hl)) (.cons (s_geq (.tmp 7 (I (idxI p l))) (.int .i64 (0))) (.cons (s_assign (.tmp 8 (.bool (decide (0 ≤ (idxI p l)))))) .nil))))) (by kernel_rfl) (by kernel_rfl) (by kernel_rfl) ⟨trivial, trivial, (fun lq => (Has.left (Has.right (pre := []) hes))), trivial, trivial, trivial⟩ (by kernel_rfl) (by kernel_rfl) (by kernel_rfl) ?_)
 refine AC.ret ?_
 exact FinQ.ret (result1 rfl (res_tmp (v := .bool (decide (0 ≤ (idxI p l)))) rfl rfl)) ⟨by exact congrArg AV.bool (idx_any p l), rfl⟩
theorem F129 (l : List Node) (f : FuncId) (caps : List AV) (es : List Ent) (p : Node → Bool) (hcall : Callable Try.prog f) (hf : ∀ x : Node, x ∈ l → EffR Try.prog f ([] ++ [Node.av x] ++ caps) es (.bool (p x))) (hl : (l.length : Int) ≤ 9223372036854775807) : EffR Try.prog 129 [.slice ((l).map Node.av) none, .func f [] caps] es (.int .i64 (idxI p l)) := by
 intro mem hes
 refine Meets.body 0 Try.func129 rfl rfl ?_
 refine AC.rq (fun σ0 => RegOK.m1 [0, 1] ⟨[(0, .slice ((l).map Node.av) none), (1, .func f [] caps)], mem⟩ (.cons (s_assign (.int .i64 (0))) .nil) ?_)
 refine AC.seq ?_
 refine AC.rq (fun σ1 => RegOK.m1 [0, 1, 7, 8] ⟨[(0, .slice ((l).map Node.av) none), (1, .func f [] caps), (7, I (l.length : Int)), (8, I 0)], mem⟩ (.cons (s_move (.tmp 0 (.slice ((l).map Node.av) none))) (.cons (s_lenM (l := l) slc24 (.tmp 6 (.slice ((l).map Node.av) none))) (.cons (s_move (.int .i64 (0))) .nil))) ?_)
 refine AC.block ?_
 refine AC.loopW (fun mz T => ∃ (k : Nat), mz = l.length - k ∧ ((k ≤ l.length) ∧ (∀ j : Nat, j < k → p (l.getD j default) = false)) ∧ T = ⟨[(0, .slice ((l).map Node.av) none), (1, .func f [] caps), (7, I (l.length : Int)), (8, I (k : Int))], mem⟩) _ ⟨[(0, .slice ((l).map Node.av) none), (1, .func f [] caps), (7, I (l.length : Int)), (8, I ((0) : Int))], mem⟩ ⟨0, rfl, ⟨(by omega), (by intro j hj; omega)⟩, rfl⟩ (Weak.of [] (by kernel_rfl) (by kernel_rfl)) ?_ Fr.plain
 rintro _ _ ⟨k, rfl, ⟨hk, hn⟩, rfl⟩
 refine AC.rq (fun σ2 => RegOK.m1 [0, 1, 7, 8, 9] ⟨[(0, .slice ((l).map Node.av) none), (1, .func f [] caps), (7, I (l.length : Int)), (8, I (k : Int)), (9, .bool (decide ((k : Int) < (l.length : Int))))], mem⟩ (.cons (s_lss (.tmp 8 (I (k : Int))) (.tmp 7 (I (l.length : Int)))) .nil) ?_)
 refine AC.cseq (decide ((k : Int) < (l.length : Int))) rfl rfl (fun hc => ?_) (fun hc => ?_)
 ·have q1 := iD.1 hc
  refine AC.skip ?_
  refine thenQ_n ?_
  refine AC.bseq ?_
  refine AC.rq (fun σ3 => RegOK.m1 [0, 1, 5, 7, 8] ⟨[(0, .slice ((l).map Node.av) none), (1, .func f [] caps), (5, I (k : Int)), (7, I (l.length : Int)), (8, I (k : Int))], mem⟩ (.cons (s_move (.tmp 8 (I (k : Int)))) (.cons (s_assign (.tmp 10 (I (k : Int)))) .nil)) ?_)
  refine AC.rq (fun σ4 => RegOK.mkN [0, 1, 5, 7, 8, 16] ⟨[(0, .slice ((l).map Node.av) none), (1, .func f [] caps), (5, I (k : Int)), (7, I (l.length : Int)), (8, I (k : Int)), (16, .bool ((p (l.getD k default))))], mem⟩ (.cons (s_move (.tmp 1 (.func f [] caps))) (.cons (s_move (.tmp 0 (.slice ((l).map Node.av) none))) (.cons (s_move (.tmp 5 (I (k : Int)))) (.cons (s_ixM (l := l) (f := Node.av) (default) slc24 (.tmp 12 (.slice ((l).map Node.av) none)) (.tmp 13 (I (k : Int))) (by omega) rfl) (.cons (s_loadAe (l := (Node.av (l.getD k default)).cells) tyA47 (.tmp 14 (.eptr (Node.av (l.getD k default)) 0)) rfl rfl) (.cons (s_callR (r := .bool ((p (l.getD k default)))) (es := (es)) (.tmp 11 (.func f [] caps)) (.cons (.tmp 15 (Node.av (l.getD k default))) .nil) hcall (hf (l.getD k default) (getD_mem (by omega)))) .nil)))))) (by kernel_rfl) (by kernel_rfl) (by kernel_rfl) ⟨trivial, trivial, trivial, trivial, trivial, (fun lq => (Has.left (Has.right (pre := []) hes))), trivial⟩ (by kernel_rfl) (by kernel_rfl) (by kernel_rfl) ?_)
  refine AC.cend ((p (l.getD k default))) rfl rfl (fun hc => ?_) (fun hc => ?_)
  ·have q2 := iB.1 hc
   refine AC.rq (fun σ5 => RegOK.m1 [4] ⟨[(4, I (k : Int))], mem⟩ (.cons (s_move (.tmp 5 (I (k : Int)))) (.cons (s_assign (.tmp 17 (I (k : Int)))) .nil)) ?_)
   refine AC.ret ?_
   refine blockQ_r ?_
   refine thenQ_r ?_
   refine thenQ_r ?_
   refine blockQ_r ?_
   refine thenQ_r ?_
   exact FinQ.ret (result1 rfl (res_tmp (v := I (k : Int)) rfl rfl)) ⟨by first | exact congrArg I (idx_found default (by omega) hn hc) | exact congrArg I (idx_none default (by intro j hj; exact hn j (by omega))), rfl⟩
  ·have q3 := iF iB hc
   refine AC.skip ?_
   refine blockQ_n ?_
   refine thenQ_n ?_
   refine AC.re (fun σ6 => RegOK.m1 [0, 1, 7, 8] ⟨[(0, .slice ((l).map Node.av) none), (1, .func f [] caps), (7, I (l.length : Int)), (8, I ((k : Int) + 1))], mem⟩ (.cons (s_add (.tmp 8 (I (k : Int))) (.int .i64 (1)) (inK_i64 (by omega))) (.cons (s_move (.tmp 18 (I ((k : Int) + 1)))) .nil)) ?_)
   refine thenQ_n ⟨_, ?_, _, ⟨(k + 1), rfl, ⟨(by omega), (by intro j hj; rcases Decidable.em (j = k) with h | h; (subst h; exact hc); exact hn j (by omega))⟩, rfl⟩, Weak.of [] (by kernel_rfl) (by kernel_rfl)⟩
   omega
 ·have q4 := iF iD hc
  refine AC.exit ?_
  refine thenQ_x ?_
  refine thenQ_x ?_
  refine blockQ_x ?_
  refine thenQ_n ?_
  refine AC.rq (fun σ7 => RegOK.m1 [4] ⟨[(4, I (-1))], mem⟩ (.cons (s_assign (.int .i64 (-1))) .nil) ?_)
  refine AC.ret ?_
  exact FinQ.ret (result1 rfl (res_tmp (v := I (-1)) rfl rfl)) ⟨by first | exact congrArg I (idx_found default (by omega) hn hc) | exact congrArg I (idx_none default (by intro j hj; exact hn j (by omega))), rfl⟩
theorem F111 (l : List Node) (f : FuncId) (caps : List AV) (es : List Ent) (p : Node → Bool) (hcall : Callable Try.prog f) (hf : ∀ x : Node, x ∈ l → EffR Try.prog f ([] ++ [Node.av x] ++ caps) es (.bool (p x))) (hl : (l.length : Int) ≤ 9223372036854775807) : EffR Try.prog 111 [.slice ((l).map Node.av) none, .func f [] caps] es (.bool (l.any p)) := by
 intro mem hes
 refine Meets.body 0 Try.func111 rfl rfl ?_
 refine AC.rq (fun σ0 => RegOK.m1 [0, 1] ⟨[(0, .slice ((l).map Node.av) none), (1, .func f [] caps)], mem⟩ (.cons (s_assign (.bool false)) .nil) ?_)
 refine AC.rq (fun σ1 => RegOK.mkN [4] ⟨[(4, .bool (decide (0 ≤ (idxI p l))))], mem⟩ (.cons (s_move (.tmp 0 (.slice ((l).map Node.av) none))) (.cons (s_move (.tmp 1 (.func f [] caps))) (.cons (s_callR (r := I (idxI p l)) (es := (es)) (.func 129) (.cons (.tmp 5 (.slice ((l).map Node.av) none)) (.cons (.tmp 6 (.func f [] caps)) .nil)) call129 (F129 l f caps es p hcall hf hl)) (.cons (s_geq (.tmp 7 (I (idxI p l))) (.int .i64 (0))) (.cons (s_assign (.tmp 8 (.bool (decide (0 ≤ (idxI p l)))))) .nil))))) (by kernel_rfl) (by kernel_rfl) (by kernel_rfl) ⟨trivial, trivial, (fun lq => (Has.left (Has.right (pre := []) hes))), trivial, trivial, trivial⟩ (by kernel_rfl) (by kernel_rfl) (by kernel_rfl) ?_)
 refine AC.ret ?_
 exact FinQ.ret (result1 rfl (res_tmp (v := .bool (decide (0 ≤ (idxI p l)))) rfl rfl)) ⟨by exact congrArg AV.bool (idx_any p l), rfl⟩
theorem F130 (l : List (Int × Int)) (f : FuncId) (caps : List AV) (es : List Ent) (p : (Int × Int) → Bool) (hcall : Callable Try.prog f) (hf : ∀ x : (Int × Int), x ∈ l → EffR Try.prog f ([] ++ [encA x] ++ caps) es (.bool (p x))) (hl : (l.length : Int) ≤ 9223372036854775807) : EffR Try.prog 130 [.slice ((l).map encA) none, .func f [] caps] es (.int .i64 (idxI p l)) := by
 intro mem hes
 refine Meets.body 0 Try.func130 rfl rfl ?_
 refine AC.rq (fun σ0 => RegOK.m1 [0, 1] ⟨[(0, .slice ((l).map encA) none), (1, .func f [] caps)], mem⟩ (.cons (s_assign (.int .i64 (0))) .nil) ?_)
 refine AC.seq ?_
 refine AC.rq (fun σ1 => RegOK.m1 [0, 1, 7, 8] ⟨[(0, .slice ((l).map encA) none), (1, .func f [] caps), (7, I (l.length : Int)), (8, I 0)], mem⟩ (.cons (s_move (.tmp 0 (.slice ((l).map encA) none))) (.cons (s_lenM (l := l) slc160 (.tmp 6 (.slice ((l).map encA) none))) (.cons (s_move (.int .i64 (0))) .nil))) ?_)
 refine AC.block ?_
 refine AC.loopW (fun mz T => ∃ (k : Nat), mz = l.length - k ∧ ((k ≤ l.length) ∧ (∀ j : Nat, j < k → p (l.getD j (0, 0)) = false)) ∧ T = ⟨[(0, .slice ((l).map encA) none), (1, .func f [] caps), (7, I (l.length : Int)), (8, I (k : Int))], mem⟩) _ ⟨[(0, .slice ((l).map encA) none), (1, .func f [] caps), (7, I (l.length : Int)), (8, I ((0) : Int))], mem⟩ ⟨0, rfl, ⟨(by omega), (by intro j hj; omega)⟩, rfl⟩ (Weak.of [] (by kernel_rfl) (by kernel_rfl)) ?_ Fr.plain
 rintro _ _ ⟨k, rfl, ⟨hk, hn⟩, rfl⟩
 refine AC.rq (fun σ2 => RegOK.m1 [0, 1, 7, 8, 9] ⟨[(0, .slice ((l).map encA) none), (1, .func f [] caps), (7, I (l.length : Int)), (8, I (k : Int)), (9, .bool (decide ((k : Int) < (l.length : Int))))], mem⟩ (.cons (s_lss (.tmp 8 (I (k : Int))) (.tmp 7 (I (l.length : Int)))) .nil) ?_)
 refine AC.cseq (decide ((k : Int) < (l.length : Int))) rfl rfl (fun hc => ?_) (fun hc => ?_)
 ·have q1 := iD.1 hc
  refine AC.skip ?_
  refine thenQ_n ?_
  refine AC.bseq ?_
  refine AC.rq (fun σ3 => RegOK.m1 [0, 1, 5, 7, 8] ⟨[(0, .slice ((l).map encA) none), (1, .func f [] caps), (5, I (k : Int)), (7, I (l.length : Int)), (8, I (k : Int))], mem⟩ (.cons (s_move (.tmp 8 (I (k : Int)))) (.cons (s_assign (.tmp 10 (I (k : Int)))) .nil)) ?_)
  refine AC.rq (fun σ4 => RegOK.mkN [0, 1, 5, 7, 8, 16] ⟨[(0, .slice ((l).map encA) none), (1, .func f [] caps), (5, I (k : Int)), (7, I (l.length : Int)), (8, I (k : Int)), (16, .bool ((p (l.getD k (0, 0)))))], mem⟩ (.cons (s_move (.tmp 1 (.func f [] caps))) (.cons (s_move (.tmp 0 (.slice ((l).map encA) none))) (.cons (s_move (.tmp 5 (I (k : Int)))) (.cons (s_ixM (l := l) (f := encA) ((0, 0)) slc160 (.tmp 12 (.slice ((l).map encA) none)) (.tmp 13 (I (k : Int))) (by omega) rfl) (.cons (s_loadAe (l := [I ((l.getD k (0, 0)).1), I ((l.getD k (0, 0)).2)]) tyA26 (.tmp 14 (.eptr (.agg [I ((l.getD k (0, 0)).1), I ((l.getD k (0, 0)).2)]) 0)) rfl rfl) (.cons (s_callR (r := .bool ((p (l.getD k (0, 0))))) (es := (es)) (.tmp 11 (.func f [] caps)) (.cons (.tmp 15 (.agg [I ((l.getD k (0, 0)).1), I ((l.getD k (0, 0)).2)])) .nil) hcall (hf (l.getD k (0, 0)) (getD_mem (by omega)))) .nil)))))) (by kernel_rfl) (by kernel_rfl) (by kernel_rfl) ⟨trivial, trivial, trivial, trivial, trivial, (fun lq => (Has.left (Has.right (pre := []) hes))), trivial⟩ (by kernel_rfl) (by kernel_rfl) (by kernel_rfl) ?_)
  refine AC.cend ((p (l.getD k (0, 0)))) rfl rfl (fun hc => ?_) (fun hc => ?_)
  ·have q2 := iB.1 hc
   refine AC.rq (fun σ5 => RegOK.m1 [4] ⟨[(4, I (k : Int))], mem⟩ (.cons (s_move (.tmp 5 (I (k : Int)))) (.cons (s_assign (.tmp 17 (I (k : Int)))) .nil)) ?_)
   refine AC.ret ?_
   refine blockQ_r ?_
   refine thenQ_r ?_
   refine thenQ_r ?_
   refine blockQ_r ?_
   refine thenQ_r ?_
   exact FinQ.ret (result1 rfl (res_tmp (v := I (k : Int)) rfl rfl)) ⟨by first | exact congrArg I (idx_found (0, 0) (by omega) hn hc) | exact congrArg I (idx_none (0, 0) (by intro j hj; exact hn j (by omega))), rfl⟩
  ·have q3 := iF iB hc
   refine AC.skip ?_
   refine blockQ_n ?_
   refine thenQ_n ?_
   refine AC.re (fun σ6 => RegOK.m1 [0, 1, 7, 8] ⟨[(0, .slice ((l).map encA) none), (1, .func f [] caps), (7, I (l.length : Int)), (8, I ((k : Int) + 1))], mem⟩ (.cons (s_add (.tmp 8 (I (k : Int))) (.int .i64 (1)) (inK_i64 (by omega))) (.cons (s_move (.tmp 18 (I ((k : Int) + 1)))) .nil)) ?_)
   refine thenQ_n ⟨_, ?_, _, ⟨(k + 1), rfl, ⟨(by omega), (by intro j hj; rcases Decidable.em (j = k) with h | h; (subst h; exact hc); exact hn j (by omega))⟩, rfl⟩, Weak.of [] (by kernel_rfl) (by kernel_rfl)⟩
   omega
 ·have q4 := iF iD hc
  refine AC.exit ?_
  refine thenQ_x ?_
  refine thenQ_x ?_
  refine blockQ_x ?_
  refine thenQ_n ?_
  refine AC.rq (fun σ7 => RegOK.m1 [4] ⟨[(4, I (-1))], mem⟩ (.cons (s_assign (.int .i64 (-1))) .nil) ?_)
  refine AC.ret ?_
  exact FinQ.ret (result1 rfl (res_tmp (v := I (-1)) rfl rfl)) ⟨by first | exact congrArg I (idx_found (0, 0) (by omega) hn hc) | exact congrArg I (idx_none (0, 0) (by intro j hj; exact hn j (by omega))), rfl⟩
theorem F113 (l : List (Int × Int)) (f : FuncId) (caps : List AV) (es : List Ent) (p : (Int × Int) → Bool) (hcall : Callable Try.prog f) (hf : ∀ x : (Int × Int), x ∈ l → EffR Try.prog f ([] ++ [encA x] ++ caps) es (.bool (p x))) (hl : (l.length : Int) ≤ 9223372036854775807) : EffR Try.prog 113 [.slice ((l).map encA) none, .func f [] caps] es (.bool (l.any p)) := by
 intro mem hes
 refine Meets.body 0 Try.func113 rfl rfl ?_
 refine AC.rq (fun σ0 => RegOK.m1 [0, 1] ⟨[(0, .slice ((l).map encA) none), (1, .func f [] caps)], mem⟩ (.cons (s_assign (.bool false)) .nil) ?_)
 refine AC.rq (fun σ1 => RegOK.mkN [4] ⟨[(4, .bool (decide (0 ≤ (idxI p l))))], mem⟩ (.cons (s_move (.tmp 0 (.slice ((l).map encA) none))) (.cons (s_move (.tmp 1 (.func f [] caps))) (.cons (s_callR (r := I (idxI p l)) (es := (es)) (.func 130) (.cons (.tmp 5 (.slice ((l).map encA) none)) (.cons (.tmp 6 (.func f [] caps)) .nil)) call130 (F130 l f caps es p hcall hf hl)) (.cons (s_geq (.tmp 7 (I (idxI p l))) (.int .i64 (0))) (.cons (s_assign (.tmp 8 (.bool (decide (0 ≤ (idxI p l)))))) .nil))))) (by kernel_rfl) (by kernel_rfl) (by kernel_rfl) ⟨trivial, trivial, (fun lq => (Has.left (Has.right (pre := []) hes))), trivial, trivial, trivial⟩ (by kernel_rfl) (by kernel_rfl) (by kernel_rfl) ?_)
 refine AC.ret ?_
 exact FinQ.ret (result1 rfl (res_tmp (v := .bool (decide (0 ≤ (idxI p l)))) rfl rfl)) ⟨by exact congrArg AV.bool (idx_any p l), rfl⟩
theorem F131 (l : List Int) (f : FuncId) (caps : List AV) (es : List Ent) (p : Int → Bool) (hcall : Callable Try.prog f) (hf : ∀ x : Int, x ∈ l → EffR Try.prog f ([] ++ [I x] ++ caps) es (.bool (p x))) (hl : (l.length : Int) ≤ 9223372036854775807) : EffR Try.prog 131 [.slice ((l).map I) none, .func f [] caps] es (.int .i64 (idxI p l)) := by
 intro mem hes
 refine Meets.body 0 Try.func131 rfl rfl ?_
 refine AC.rq (fun σ0 => RegOK.m1 [0, 1] ⟨[(0, .slice ((l).map I) none), (1, .func f [] caps)], mem⟩ (.cons (s_assign (.int .i64 (0))) .nil) ?_)
 refine AC.seq ?_
 refine AC.rq (fun σ1 => RegOK.m1 [0, 1, 7, 8] ⟨[(0, .slice ((l).map I) none), (1, .func f [] caps), (7, I (l.length : Int)), (8, I 0)], mem⟩ (.cons (s_move (.tmp 0 (.slice ((l).map I) none))) (.cons (s_lenM (l := l) slc48 (.tmp 6 (.slice ((l).map I) none))) (.cons (s_move (.int .i64 (0))) .nil))) ?_)
 refine AC.block ?_
 refine AC.loopW (fun mz T => ∃ (k : Nat), mz = l.length - k ∧ ((k ≤ l.length) ∧ (∀ j : Nat, j < k → p (l.getD j 0) = false)) ∧ T = ⟨[(0, .slice ((l).map I) none), (1, .func f [] caps), (7, I (l.length : Int)), (8, I (k : Int))], mem⟩) _ ⟨[(0, .slice ((l).map I) none), (1, .func f [] caps), (7, I (l.length : Int)), (8, I ((0) : Int))], mem⟩ ⟨0, rfl, ⟨(by omega), (by intro j hj; omega)⟩, rfl⟩ (Weak.of [] (by kernel_rfl) (by kernel_rfl)) ?_ Fr.plain
 rintro _ _ ⟨k, rfl, ⟨hk, hn⟩, rfl⟩
 refine AC.rq (fun σ2 => RegOK.m1 [0, 1, 7, 8, 9] ⟨[(0, .slice ((l).map I) none), (1, .func f [] caps), (7, I (l.length : Int)), (8, I (k : Int)), (9, .bool (decide ((k : Int) < (l.length : Int))))], mem⟩ (.cons (s_lss (.tmp 8 (I (k : Int))) (.tmp 7 (I (l.length : Int)))) .nil) ?_)
 refine AC.cseq (decide ((k : Int) < (l.length : Int))) rfl rfl (fun hc => ?_) (fun hc => ?_)
 ·have q1 := iD.1 hc
  refine AC.skip ?_
  refine thenQ_n ?_
  refine AC.bseq ?_
  refine AC.rq (fun σ3 => RegOK.m1 [0, 1, 5, 7, 8] ⟨[(0, .slice ((l).map I) none), (1, .func f [] caps), (5, I (k : Int)), (7, I (l.length : Int)), (8, I (k : Int))], mem⟩ (.cons (s_move (.tmp 8 (I (k : Int)))) (.cons (s_assign (.tmp 10 (I (k : Int)))) .nil)) ?_)
  refine AC.rq (fun σ4 => RegOK.mkN [0, 1, 5, 7, 8, 16] ⟨[(0, .slice ((l).map I) none), (1, .func f [] caps), (5, I (k : Int)), (7, I (l.length : Int)), (8, I (k : Int)), (16, .bool ((p (l.getD k 0))))], mem⟩ (.cons (s_move (.tmp 1 (.func f [] caps))) (.cons (s_move (.tmp 0 (.slice ((l).map I) none))) (.cons (s_move (.tmp 5 (I (k : Int)))) (.cons (s_ixM (l := l) (f := I) (0) slc48 (.tmp 12 (.slice ((l).map I) none)) (.tmp 13 (I (k : Int))) (by omega) rfl) (.cons (s_load1e (c := I (l.getD k 0)) tyS3 (.tmp 14 (.eptr (I (l.getD k 0)) 0)) rfl) (.cons (s_callR (r := .bool ((p (l.getD k 0)))) (es := (es)) (.tmp 11 (.func f [] caps)) (.cons (.tmp 15 (I (l.getD k 0))) .nil) hcall (hf (l.getD k 0) (getD_mem (by omega)))) .nil)))))) (by kernel_rfl) (by kernel_rfl) (by kernel_rfl) ⟨trivial, trivial, trivial, trivial, trivial, (fun lq => (Has.left (Has.right (pre := []) hes))), trivial⟩ (by kernel_rfl) (by kernel_rfl) (by kernel_rfl) ?_)
  refine AC.cend ((p (l.getD k 0))) rfl rfl (fun hc => ?_) (fun hc => ?_)
  ·have q2 := iB.1 hc
   refine AC.rq (fun σ5 => RegOK.m1 [4] ⟨[(4, I (k : Int))], mem⟩ (.cons (s_move (.tmp 5 (I (k : Int)))) (.cons (s_assign (.tmp 17 (I (k : Int)))) .nil)) ?_)
   refine AC.ret ?_
   refine blockQ_r ?_
   refine thenQ_r ?_
   refine thenQ_r ?_
   refine blockQ_r ?_
   refine thenQ_r ?_
   exact FinQ.ret (result1 rfl (res_tmp (v := I (k : Int)) rfl rfl)) ⟨by first | exact congrArg I (idx_found 0 (by omega) hn hc) | exact congrArg I (idx_none 0 (by intro j hj; exact hn j (by omega))), rfl⟩
  ·have q3 := iF iB hc
   refine AC.skip ?_
   refine blockQ_n ?_
   refine thenQ_n ?_
   refine AC.re (fun σ6 => RegOK.m1 [0, 1, 7, 8] ⟨[(0, .slice ((l).map I) none), (1, .func f [] caps), (7, I (l.length : Int)), (8, I ((k : Int) + 1))], mem⟩ (.cons (s_add (.tmp 8 (I (k : Int))) (.int .i64 (1)) (inK_i64 (by omega))) (.cons (s_move (.tmp 18 (I ((k : Int) + 1)))) .nil)) ?_)
   refine thenQ_n ⟨_, ?_, _, ⟨(k + 1), rfl, ⟨(by omega), (by intro j hj; rcases Decidable.em (j = k) with h | h; (subst h; exact hc); exact hn j (by omega))⟩, rfl⟩, Weak.of [] (by kernel_rfl) (by kernel_rfl)⟩
   omega
 ·have q4 := iF iD hc
  refine AC.exit ?_
  refine thenQ_x ?_
  refine thenQ_x ?_
  refine blockQ_x ?_
  refine thenQ_n ?_
  refine AC.rq (fun σ7 => RegOK.m1 [4] ⟨[(4, I (-1))], mem⟩ (.cons (s_assign (.int .i64 (-1))) .nil) ?_)
  refine AC.ret ?_
  exact FinQ.ret (result1 rfl (res_tmp (v := I (-1)) rfl rfl)) ⟨by first | exact congrArg I (idx_found 0 (by omega) hn hc) | exact congrArg I (idx_none 0 (by intro j hj; exact hn j (by omega))), rfl⟩
theorem F121 (l : List Int) (f : FuncId) (caps : List AV) (es : List Ent) (p : Int → Bool) (hcall : Callable Try.prog f) (hf : ∀ x : Int, x ∈ l → EffR Try.prog f ([] ++ [I x] ++ caps) es (.bool (p x))) (hl : (l.length : Int) ≤ 9223372036854775807) : EffR Try.prog 121 [.slice ((l).map I) none, .func f [] caps] es (.bool (l.any p)) := by
 intro mem hes
 refine Meets.body 0 Try.func121 rfl rfl ?_
 refine AC.rq (fun σ0 => RegOK.m1 [0, 1] ⟨[(0, .slice ((l).map I) none), (1, .func f [] caps)], mem⟩ (.cons (s_assign (.bool false)) .nil) ?_)
 refine AC.rq (fun σ1 => RegOK.mkN [4] ⟨[(4, .bool (decide (0 ≤ (idxI p l))))], mem⟩ (.cons (s_move (.tmp 0 (.slice ((l).map I) none))) (.cons (s_move (.tmp 1 (.func f [] caps))) (.cons (s_callR (r := I (idxI p l)) (es := (es)) (.func 131) (.cons (.tmp 5 (.slice ((l).map I) none)) (.cons (.tmp 6 (.func f [] caps)) .nil)) call131 (F131 l f caps es p hcall hf hl)) (.cons (s_geq (.tmp 7 (I (idxI p l))) (.int .i64 (0))) (.cons (s_assign (.tmp 8 (.bool (decide (0 ≤ (idxI p l)))))) .nil))))) (by kernel_rfl) (by kernel_rfl) (by kernel_rfl) ⟨trivial, trivial, (fun lq => (Has.left (Has.right (pre := []) hes))), trivial, trivial, trivial⟩ (by kernel_rfl) (by kernel_rfl) (by kernel_rfl) ?_)
 refine AC.ret ?_
 exact FinQ.ret (result1 rfl (res_tmp (v := .bool (decide (0 ≤ (idxI p l)))) rfl rfl)) ⟨by exact congrArg AV.bool (idx_any p l), rfl⟩
end Go.Proofs.Yteomgedahkpnlaa
end
