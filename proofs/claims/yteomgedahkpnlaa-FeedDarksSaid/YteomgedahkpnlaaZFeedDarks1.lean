import Derived.WalkKit
import Derived.OrdersIn
import Derived.RangeFuncLeaves
import Derived.KernelRfl
import Derived.Maps.AppendAt
import Derived.RangeFuncIn
import Derived.OpenShut
import Derived.ChangeOld
import Derived.DataReads
import Derived.WideShapes
import Derived.Test.YteomgedahkpnlaaProg
set_option linter.unusedVariables false
set_option linter.unusedSimpArgs false
section

namespace Go.Proofs.Yteomgedahkpnlaa
open Go.RowKit
inductive AV where
  | top
  | int (k : IntKind) (n : Int)
  | bool (b : Bool)
  | str (s : ByteArray)
  | ptr (s : Nat) (off : Nat)
  | eptr (e : AV) (off : Nat)
  | nils
  | slice (es : List AV) (own : Option Nat)
  | func (f : FuncId) (first caps : List AV)
  | yieldf (y : Nat)
  | mp (s : Nat)
  | agg (cs : List AV)
  | tuple (vs : List AV)
  | cond (b : Bool) (v : AV)
def AV.cells : AV → List AV
  | .agg cs => cs
  | v => [v]
def AV.one : AV → Bool
  | .top | .agg _ | .tuple _ | .cond _ _ => false
  | _ => true
def AV.solid : AV → Bool
  | .top | .tuple _ | .cond _ _ => false
  | _ => true
inductive Sym where
  | free
  | held
  | blk (b : Nat)
  | val (v : Value)
structure Gh where
  base : Nat
  imm : Nat → Nat → Prop
  sy : Nat → Sym
inductive Rep (g : Gh) (w : World) : Value → AV → Prop
  | top (v : Value) : Rep g w v .top
  | int (k : IntKind) (n : Int) : Rep g w (.int k n) (.int k n)
  | bool (b : Bool) : Rep g w (.bool b) (.bool b)
  | str (s : ByteArray) : Rep g w (.string s) (.str s)
  | ptr {s b off : Nat} (h : g.sy s = .blk b) : Rep g w (.pointer (some ⟨b, off, none⟩)) (.ptr s off)
  | eptr {b o off : Nat} {e : AV} (vals : Nat → Value)
      (hc : ∀ j c, e.cells[j]? = some c → w.cell? ⟨b, o + j, none⟩ = some (vals j) ∧ g.imm b (o + j))
      (hr : ∀ j c, e.cells[j]? = some c → Rep g w (vals j) c) : Rep g w (.pointer (some ⟨b, o + off, none⟩)) (.eptr e off)
  | nils : Rep g w (.slice none 0 0) .nils
  | slice {A : Option Addr} {len cap sz : Nat} {es : List AV} {own : Option Nat} (b o : Nat) (vals : Nat → Nat → Value)
      (hl : es.length = len) (hA : es ≠ [] → A = some ⟨b, o, none⟩) (hsz : ∀ e ∈ es, e.cells.length = sz)
      (hc : ∀ i e j c, es[i]? = some e → e.cells[j]? = some c → w.cell? ⟨b, o + (i * sz + j), none⟩ = some (vals i j) ∧ g.imm b (o + (i * sz + j)))
      (hr : ∀ i e j c, es[i]? = some e → e.cells[j]? = some c → Rep g w (vals i j) c)
      (hle : len ≤ cap)
      (how : ∀ s, own = some s → g.sy s = .val (.slice A len cap)) : Rep g w (.slice A len cap) (.slice es own)
  | func {f : FuncId} {first caps : Array Value} {fa ca : List AV} (h1 : first.size = fa.length) (h2 : caps.size = ca.length)
      (r1 : ∀ (i : Nat) v a, first[i]? = some v → fa[i]? = some a → Rep g w v a)
      (r2 : ∀ (i : Nat) v a, caps[i]? = some v → ca[i]? = some a → Rep g w v a) : Rep g w (.func (.func f) first caps) (.func f fa ca)
  | yieldf (l : Nat) : Rep g w (.func (.yield l) #[] #[]) (.yieldf l)
  | mp {s b : Nat} (h : g.sy s = .blk b) : Rep g w (.map (some b)) (.mp s)
  | agg {cs : Array Value} {l : List AV} (h : cs.size = l.length) (hr : ∀ (i : Nat) v a, cs[i]? = some v → l[i]? = some a → Rep g w v a) : Rep g w (.agg cs) (.agg l)
  | tuple {cs : Array Value} {l : List AV} (h : cs.size = l.length) (hr : ∀ (i : Nat) v a, cs[i]? = some v → l[i]? = some a → Rep g w v a) : Rep g w (.tuple cs) (.tuple l)
  | condT {v : Value} {b : Bool} {a : AV} (hb : b = true) (h : Rep g w v a) : Rep g w v (.cond b a)
  | condF {b : Bool} {a : AV} (hb : b = false) : Rep g w undef (.cond b a)
structure Stab (o : Option Nat) (g : Gh) (w : World) (g' : Gh) (w' : World) : Prop where
  base : g'.base = g.base
  below : Below g.base w w'
  imm : ∀ b o, g.imm b o → g'.imm b o ∧ w'.cell? ⟨b, o, none⟩ = w.cell? ⟨b, o, none⟩
  sy : ∀ s, some s ≠ o → g.sy s ≠ .free → g'.sy s = g.sy s
  held : ∀ s, o = some s → g.sy s = .held
abbrev Ext (g : Gh) (w : World) (g' : Gh) (w' : World) : Prop := Stab none g w g' w'
theorem Stab.keeps {o : Option Nat} {g g' : Gh} {w w' : World} (h : Stab o g w g' w') {s : Nat} {x : Sym} (hx : g.sy s = x) (h1 : x ≠ .free) (h2 : x ≠ .held) : g'.sy s = x := by
  rw [h.sy s ?_ (by rw [hx]; exact h1), hx]
  intro e
  exact h2 (by rw [← hx]; exact h.held s e.symm)
theorem Rep.stab {o : Option Nat} {g g' : Gh} {w w' : World} (h : Stab o g w g' w') {v : Value} {a : AV} (hr : Rep g w v a) : Rep g' w' v a := by
  induction hr with
  | top v => exact .top v
  | int k n => exact .int k n
  | bool b => exact .bool b
  | str s => exact .str s
  | ptr hs => exact .ptr (h.keeps hs (by simp) (by simp))
  | eptr vals hc hr ih => exact .eptr vals (fun j c hj => ⟨((h.imm _ _ (hc j c hj).2).2).trans (hc j c hj).1, (h.imm _ _ (hc j c hj).2).1⟩) ih
  | nils => exact .nils
  | slice b o vals hl hA hsz hc hr hle how ih =>
    exact .slice b o vals hl hA hsz (fun i e j c h1 h2 => ⟨((h.imm _ _ (hc i e j c h1 h2).2).2).trans (hc i e j c h1 h2).1, (h.imm _ _ (hc i e j c h1 h2).2).1⟩) ih hle
      (fun s hs => h.keeps (how s hs) (by simp) (by simp))
  | func h1 h2 r1 r2 i1 i2 => exact .func h1 h2 i1 i2
  | yieldf l => exact .yieldf l
  | mp hs => exact .mp (h.keeps hs (by simp) (by simp))
  | agg h hr ih => exact .agg h ih
  | tuple h hr ih => exact .tuple h ih
  | condT hb _ ih => exact .condT hb ih
  | condF hb => exact .condF hb
theorem Stab.refl (g : Gh) (w : World) : Ext g w g w := ⟨rfl, Below.refl _ _, fun _ _ h => ⟨h, rfl⟩, fun _ _ _ => rfl, fun _ h => by cases h⟩
theorem Stab.step {o : Option Nat} {g0 g g' : Gh} {w0 w w' : World} (h : Ext g0 w0 g w) (k : Stab o g w g' w') (hf : ∀ s, o = some s → g0.sy s = .free) : Ext g0 w0 g' w' where
  base := k.base.trans h.base
  below := h.below.trans (by rw [← h.base]; exact k.below)
  imm b o hi := ⟨(k.imm b o (h.imm b o hi).1).1, ((k.imm b o (h.imm b o hi).1).2).trans (h.imm b o hi).2⟩
  sy s hs h0 := by
    have h1 := h.sy s hs h0
    rw [k.sy s ?_ (by rw [h1]; exact h0), h1]
    intro e
    exact h0 (hf s e.symm)
  held s hs := by cases hs
theorem Stab.trans {g0 g g' : Gh} {w0 w w' : World} (h : Ext g0 w0 g w) (k : Ext g w g' w') : Ext g0 w0 g' w' := h.step k (fun s hs => by cases hs)
def getT : List (Nat × AV) → Nat → AV
  | [], _ => .top
  | (k, v) :: r, x => if x = k then v else getT r x
def EnvOK (g : Gh) (w : World) (env : List (Nat × AV)) (tmps : Array Value) : Prop := ∀ x u, tmps[x]? = some u → Rep g w u (getT env x)
theorem EnvOK.stab {o : Option Nat} {g g' : Gh} {w w' : World} (h : Stab o g w g' w') {env : List (Nat × AV)} {t : Array Value} (he : EnvOK g w env t) : EnvOK g' w' env t :=
  fun x u hx => (he x u hx).stab h
inductive Ent where
  | hole
  | box (s : Nat) (cs : List AV)
  | row (s : Nat) (n : Nat) (e : TypeId) (sz : Nat)
  | obj (s : Nat) (φ : Obj → Prop)
  | mark (r : Nat)
  | loop (l : Nat) (st : LoopState) (pend : Option Code) (ps : Array Tmp) (as_ bo : Code) (env : List (Nat × AV)) (nt : Nat)
def symBlock : Sym → Option Nat
  | .blk b => some b
  | .val v => v.ownBlock
  | _ => none
def Ent.block (g : Gh) : Ent → Option Nat
  | .hole => none
  | .box s _ | .row s _ _ _ | .obj s _ => symBlock (g.sy s)
  | .mark r => some r
  | .loop l _ _ _ _ _ _ _ => some l
def Ent.sym : Ent → Option Nat
  | .box s _ | .row s _ _ _ | .obj s _ => some s
  | _ => none
def EntOK (g : Gh) (w : World) : Ent → Prop
  | .hole => True
  | .box s cs => ∃ b arr t, g.sy s = .blk b ∧ g.base ≤ b ∧ w.heap[b]? = some (.cells arr t (0, 0)) ∧ arr.size = cs.length ∧
      (∀ (i : Nat) v a, arr[i]? = some v → cs[i]? = some a → Rep g w v a) ∧ ∀ o, ¬ g.imm b o
  | .row s n e sz => ∃ v xs, g.sy s = .val v ∧ w.ownsRow g.base e sz v n xs ∧ ∀ b o, v.ownBlock = some b → n * sz ≤ o → ¬ g.imm b o
  | .obj s φ => ∃ b o, g.sy s = .blk b ∧ g.base ≤ b ∧ w.heap[b]? = some o ∧ φ o ∧ ∀ o, ¬ g.imm b o
  | .mark r => g.base ≤ r ∧ w.heap[r]? = some (.deferred (some [])) ∧ ∀ o, ¬ g.imm r o
  | .loop l st pend ps as_ bo env nt => g.base ≤ l ∧ (∃ fn tmps d, w.heap[l]? = some (.loop { state := st, pending := pend, fn := fn, tmps := tmps, params := ps, assign := as_, body := bo, defers := d }) ∧ tmps.size = nt ∧ EnvOK g w env tmps) ∧ ∀ o, ¬ g.imm l o
structure Inv (g : Gh) (w : World) (mem : List Ent) : Prop where
  ok : ∀ e ∈ mem, EntOK g w e
  apart : ∀ (i j : Nat) ei ej b, mem[i]? = some ei → mem[j]? = some ej → ei.block g = some b → ej.block g = some b → i = j
  base : g.base ≤ w.heap.size
  lt : ∀ b o, g.imm b o → b < w.heap.size
  room : ∃ N, ∀ s, N ≤ s → g.sy s = .free
theorem EntOK.block_lt {g : Gh} {w : World} {e : Ent} (h : EntOK g w e) {b : Nat} (hb : e.block g = some b) : g.base ≤ b ∧ b < w.heap.size := by
  cases e with
  | hole => simp [Ent.block] at hb
  | box s cs =>
    obtain ⟨b', arr, t, h1, h2, h3, _⟩ := h
    simp only [Ent.block, h1, symBlock, Option.some.injEq] at hb
    subst hb
    exact ⟨h2, (Array.getElem?_eq_some_iff.1 h3).1⟩
  | row s n e sz =>
    obtain ⟨v, xs, h1, h2, _⟩ := h
    simp only [Ent.block, h1, symBlock] at hb
    exact h2.lt _ hb
  | obj s φ =>
    obtain ⟨b', o, h1, h2, h3, _⟩ := h
    simp only [Ent.block, h1, symBlock, Option.some.injEq] at hb
    subst hb
    exact ⟨h2, (Array.getElem?_eq_some_iff.1 h3).1⟩
  | mark r =>
    obtain ⟨h1, h2, _⟩ := h
    simp only [Ent.block, Option.some.injEq] at hb
    subst hb
    exact ⟨h1, (Array.getElem?_eq_some_iff.1 h2).1⟩
  | loop l st pend ps as_ bo env nt =>
    obtain ⟨h1, ⟨fn, tmps, d, h2, _⟩, _⟩ := h
    simp only [Ent.block, Option.some.injEq] at hb
    subst hb
    exact ⟨h1, (Array.getElem?_eq_some_iff.1 h2).1⟩
theorem EntOK.kept {o : Option Nat} {g g' : Gh} {w w' : World} (h : Stab o g w g' w') {e : Ent} (he : EntOK g w e)
    (hb : ∀ b, e.block g = some b → w'.heap[b]? = w.heap[b]?) (hi : ∀ b o, e.block g = some b → g'.imm b o → g.imm b o) : EntOK g' w' e ∧ e.block g' = e.block g := by
  cases e with
  | hole => exact ⟨trivial, rfl⟩
  | box s cs =>
    obtain ⟨b, arr, t, h1, h2, h3, h4, h5, h6⟩ := he
    have hs := h.keeps h1 (by simp) (by simp)
    have hblk : (Ent.box s cs).block g = some b := by simp [Ent.block, h1, symBlock]
    refine ⟨⟨b, arr, t, hs, by rw [h.base]; exact h2, (hb b hblk).trans h3, h4, fun i v a x y => (h5 i v a x y).stab h, fun o ho => h6 o (hi b o hblk ho)⟩, ?_⟩
    simp [Ent.block, h1, hs, symBlock]
  | row s n e sz =>
    obtain ⟨v, xs, h1, h2, h3⟩ := he
    have hs := h.keeps h1 (by simp) (by simp)
    have hblk : (Ent.row s n e sz).block g = v.ownBlock := by simp [Ent.block, h1, symBlock]
    refine ⟨⟨v, xs, hs, ?_, fun b o hv ho hc => h3 b o hv ho (hi b o (hblk.trans hv) hc)⟩, ?_⟩
    · rw [h.base]
      refine ⟨h2.1, ?_⟩
      rcases h2.2 with hn | ⟨gg, cap, cur, rfl, hbb, hgg, rest⟩
      · exact .inl hn
      · exact .inr ⟨gg, cap, cur, rfl, hbb, by rw [hb gg (by rw [hblk]; rfl)]; exact hgg, rest⟩
    · simp [Ent.block, h1, hs, symBlock]
  | obj s φ =>
    obtain ⟨b, o, h1, h2, h3, h4, h5⟩ := he
    have hs := h.keeps h1 (by simp) (by simp)
    have hblk : (Ent.obj s φ).block g = some b := by simp [Ent.block, h1, symBlock]
    refine ⟨⟨b, o, hs, by rw [h.base]; exact h2, (hb b hblk).trans h3, h4, fun o ho => h5 o (hi b o hblk ho)⟩, ?_⟩
    simp [Ent.block, h1, hs, symBlock]
  | mark r =>
    obtain ⟨h1, h2, h3⟩ := he
    exact ⟨⟨by rw [h.base]; exact h1, (hb r rfl).trans h2, fun o ho => h3 o (hi r o rfl ho)⟩, rfl⟩
  | loop l st pend ps as_ bo env nt =>
    obtain ⟨h1, ⟨fn, tmps, d, h2, h3, h4⟩, h5⟩ := he
    exact ⟨⟨by rw [h.base]; exact h1, ⟨fn, tmps, d, (hb l rfl).trans h2, h3, h4.stab h⟩, fun o ho => h5 o (hi l o rfl ho)⟩, rfl⟩
structure St where
  env : List (Nat × AV)
  mem : List Ent
def markDefer (r : Nat) : Deferred := { target := .collected r, args := #[] }
structure Rel (nt : Nat) (g : Gh) (w : World) (a : Act) (S : St) (hid : List Nat) : Prop where
  size : a.tmps.size = nt
  defers : a.defers = hid.map markDefer
  env : EnvOK g w S.env a.tmps
  inv : Inv g w (S.mem ++ hid.map Ent.mark)
end Go.Proofs.Yteomgedahkpnlaa
end
section

namespace Go.Proofs.Yteomgedahkpnlaa
open Go.RowKit
theorem Inv.keep {o : Option Nat} {g g' : Gh} {w w' : World} {mem : List Ent} (h : Inv g w mem) (k : Stab o g w g' w')
    (hb : ∀ e b, e ∈ mem → e.block g = some b → w'.heap[b]? = w.heap[b]?) (hi : ∀ e b o, e ∈ mem → e.block g = some b → g'.imm b o → g.imm b o)
    (hl : ∀ b o, g'.imm b o → b < w'.heap.size) (hr : ∃ N, ∀ s, N ≤ s → g'.sy s = .free) : Inv g' w' mem where
  ok e he := ((h.ok e he).kept k (fun b => hb e b he) (fun b o => hi e b o he)).1
  apart i j ei ej b h1 h2 h3 h4 := by
    have m1 := List.mem_of_getElem? h1
    have m2 := List.mem_of_getElem? h2
    rw [((h.ok ei m1).kept k (fun b => hb ei b m1) (fun b o => hi ei b o m1)).2] at h3
    rw [((h.ok ej m2).kept k (fun b => hb ej b m2) (fun b o => hi ej b o m2)).2] at h4
    exact h.apart i j ei ej b h1 h2 h3 h4
  base := by rw [k.base]; exact Nat.le_trans h.base k.below.size
  lt := hl
  room := hr
theorem Inv.set {o : Option Nat} {g g' : Gh} {w w' : World} {mem : List Ent} (h : Inv g w mem) (k : Stab o g w g' w') (p : Nat) (e' : Ent)
    (ho : ∀ (i : Nat) e b, mem[i]? = some e → i ≠ p → e.block g = some b → w'.heap[b]? = w.heap[b]? ∧ (∀ o, g'.imm b o → g.imm b o) ∧ e'.block g' ≠ some b)
    (hk : EntOK g' w' e') (hl : ∀ b o, g'.imm b o → b < w'.heap.size) (hr : ∃ N, ∀ s, N ≤ s → g'.sy s = .free) : Inv g' w' (mem.set p e') := by
  have one : ∀ (i : Nat) e, (mem.set p e')[i]? = some e → i ≠ p → mem[i]? = some e ∧ EntOK g' w' e ∧ e.block g' = e.block g := by
    intro i e hi hne
    rw [List.getElem?_set_ne (Ne.symm hne)] at hi
    have := (h.ok e (List.mem_of_getElem? hi)).kept k (fun b hb => (ho i e b hi hne hb).1) (fun b o hb => (ho i e b hi hne hb).2.1 o)
    exact ⟨hi, this.1, this.2⟩
  have at_p : ∀ (i : Nat) e, (mem.set p e')[i]? = some e → i = p → e = e' := by
    intro i e hi heq
    subst heq
    by_cases hlt : i < mem.length
    · rw [List.getElem?_set_self hlt] at hi
      exact (Option.some.inj hi).symm
    · rw [List.getElem?_eq_none (by simp; omega)] at hi
      cases hi
  refine ⟨?_, ?_, by rw [k.base]; exact Nat.le_trans h.base k.below.size, hl, hr⟩
  · intro e he
    obtain ⟨i, hi⟩ := List.getElem?_of_mem he
    by_cases hne : i = p
    · rw [at_p i e hi hne]; exact hk
    · exact (one i e hi hne).2.1
  · intro i j ei ej b hi hj bi bj
    by_cases h1 : i = p <;> by_cases h2 : j = p
    · omega
    · exfalso
      obtain ⟨hj', _, hjb⟩ := one j ej hj h2
      rw [hjb] at bj
      rw [at_p i ei hi h1] at bi
      exact (ho j ej b hj' h2 bj).2.2 bi
    · exfalso
      obtain ⟨hi', _, hib⟩ := one i ei hi h1
      rw [hib] at bi
      rw [at_p j ej hj h2] at bj
      exact (ho i ei b hi' h1 bi).2.2 bj
    · obtain ⟨hi', _, hib⟩ := one i ei hi h1
      obtain ⟨hj', _, hjb⟩ := one j ej hj h2
      rw [hib] at bi
      rw [hjb] at bj
      exact h.apart i j ei ej b hi' hj' bi bj
structure Fr (F : Fence) : Prop where
  fn : ∀ f, F.fn f
  depth : F.depth = none
  wide : ∀ P, Machine.fenced P F = Machine.fenced P Fence.wide
structure Spec where
  rT : List (Nat × AV) := []
  rM : List (Nat × Ent) := []
  wT : Option (Nat × AV) := none
  wM : Option (Nat × Ent) := none
  sym : Option Nat := none
  need : Option (List Ent → Prop) := none
def setM (mem : List Ent) : Option (Nat × Ent) → List Ent
  | none => mem
  | some (p, e) => mem.set p e
theorem setM_length (mem : List Ent) (x : Option (Nat × Ent)) : (setM mem x).length = mem.length := by cases x <;> simp [setM]
theorem setM_append (mem r : List Ent) (x : Option (Nat × Ent)) (h : ∀ p e, x = some (p, e) → p < mem.length) : setM (mem ++ r) x = setM mem x ++ r := by
  cases x with
  | none => rfl
  | some pe =>
    obtain ⟨p, e⟩ := pe
    simp only [setM]
    rw [List.set_append_left _ _ (h p e rfl)]
structure Step (P : Program) (ops : Array Oper) (o : Oper) (sp : Spec) : Prop where
  dst : o.dst = sp.wT.map (·.1)
  go : ∀ (F : Fence), Fr F → ∀ (g : Gh) (w : World) (a : Act) (mem : List Ent), Inv g w mem →
    (∀ x v, (x, v) ∈ sp.rT → ∃ u, a.tmps[x]? = some u ∧ Rep g w u v) →
    (∀ p e, (p, e) ∈ sp.rM → mem[p]? = some e) →
    (∀ s, sp.sym = some s → g.sy s = .held) →
    (∀ p e, sp.wM = some (p, e) → p < mem.length) →
    (∀ X, sp.need = some X → X mem) →
    ∀ (K : Act → World → Prop) (Q : Exit → Act → World → Prop),
      (∀ g' w' u, Stab sp.sym g w g' w' → Inv g' w' (setM mem sp.wM) → (∀ d v, sp.wT = some (d, v) → Rep g' w' u v) → K (a.put o.dst u) w') →
      if Region.wanted o (yielded ops a.tmps) then o.wpIn F 0 P a w K Q else (∀ f, o.about P w a.eval = some f → F.fn f) ∧ K (a.put o.dst undef) w
def runSt (sp : Spec) (S : St) : St := { env := match sp.wT with | none => S.env | some kv => kv :: S.env, mem := setM S.mem sp.wM }
structure Req (sp : Spec) (S : St) : Prop where
  t : ∀ x v, (x, v) ∈ sp.rT → getT S.env x = v
  m : ∀ p e, (p, e) ∈ sp.rM → S.mem[p]? = some e
  w : ∀ p e, sp.wM = some (p, e) → p < S.mem.length
  n : ∀ X, sp.need = some X → ∀ l, X (S.mem ++ l)
structure SEq (S S' : St) : Prop where
  t : ∀ x, getT S.env x = getT S'.env x
  m : S.mem = S'.mem
theorem SEq.refl (S : St) : SEq S S := ⟨fun _ => rfl, rfl⟩
theorem SEq.symm {S S' : St} (h : SEq S S') : SEq S' S := ⟨fun x => (h.t x).symm, h.m.symm⟩
theorem SEq.trans {S S' S'' : St} (h : SEq S S') (k : SEq S' S'') : SEq S S'' := ⟨fun x => (h.t x).trans (k.t x), h.m.trans k.m⟩
theorem Req.seq {sp : Spec} {S S' : St} (h : Req sp S) (k : SEq S S') : Req sp S' := ⟨fun x v hx => (k.t x).symm.trans (h.t x v hx), fun p e hp => by rw [← k.m]; exact h.m p e hp, fun p e hp => by rw [← k.m]; exact h.w p e hp, fun X hX l => by rw [← k.m]; exact h.n X hX l⟩
theorem getT_runSt (sp : Spec) (S : St) (x : Nat) : getT (runSt sp S).env x = match sp.wT with | none => getT S.env x | some (d, v) => if x = d then v else getT S.env x := by
  unfold runSt
  cases h : sp.wT with
  | none => rfl
  | some kv => obtain ⟨k, v⟩ := kv; rfl
theorem runSt_seq {sp : Spec} {S S' : St} (k : SEq S S') : SEq (runSt sp S) (runSt sp S') := by
  refine ⟨fun x => ?_, by simp only [runSt, k.m]⟩
  rw [getT_runSt, getT_runSt]
  cases sp.wT with
  | none => exact k.t x
  | some kv => simp only [k.t x]
def valid : List Spec → St → St → Prop
  | [], S, F => SEq S F
  | sp :: r, S, F => Req sp S ∧ valid r (runSt sp S) F
theorem valid_seq : ∀ (l : List Spec) {S S' F : St}, SEq S S' → valid l S F → valid l S' F
  | [], _, _, _, k, h => k.symm.trans h
  | _ :: r, _, _, _, k, h => ⟨h.1.seq k, valid_seq r (runSt_seq k) h.2⟩
def indep (k i : Spec) : Bool :=
  (match k.wT with
   | none => true
   | some (d, _) => i.rT.all (fun x => x.1 != d) && (match i.wT with | none => true | some (d', _) => d' != d)) &&
  (match i.wT with
   | none => true
   | some (d, _) => k.rT.all (fun x => x.1 != d)) &&
  (match k.wM with
   | none => true
   | some (p, _) => i.rM.all (fun x => x.1 != p) && (match i.wM with | none => true | some (p', _) => p' != p)) &&
  (match i.wM with
   | none => true
   | some (p, _) => k.rM.all (fun x => x.1 != p)) &&
  (match i.need with
   | none => true
   | some _ => k.wM.isNone) &&
  (match k.need with
   | none => true
   | some _ => i.wM.isNone)
structure Indep (k i : Spec) : Prop where
  kt : ∀ d v, k.wT = some (d, v) → (∀ x u, (x, u) ∈ i.rT → x ≠ d) ∧ ∀ d' v', i.wT = some (d', v') → d' ≠ d
  it : ∀ d v, i.wT = some (d, v) → ∀ x u, (x, u) ∈ k.rT → x ≠ d
  km : ∀ p e, k.wM = some (p, e) → (∀ x u, (x, u) ∈ i.rM → x ≠ p) ∧ ∀ p' e', i.wM = some (p', e') → p' ≠ p
  im : ∀ p e, i.wM = some (p, e) → ∀ x u, (x, u) ∈ k.rM → x ≠ p
  ni : ∀ X, i.need = some X → k.wM = none
  nk : ∀ X, k.need = some X → i.wM = none
theorem indep_spec {k i : Spec} (h : indep k i = true) : Indep k i := by
  unfold indep at h
  simp only [Bool.and_eq_true] at h
  obtain ⟨⟨⟨⟨⟨h1, h2⟩, h3⟩, h4⟩, h5⟩, h6⟩ := h
  refine ⟨?_, ?_, ?_, ?_, fun X hX => by rw [hX] at h5; simpa using h5, fun X hX => by rw [hX] at h6; simpa using h6⟩
  · intro d v hk
    rw [hk] at h1
    simp only [Bool.and_eq_true, List.all_eq_true, bne_iff_ne] at h1
    refine ⟨fun x u hx => h1.1 _ hx, fun d' v' hi => ?_⟩
    rw [hi] at h1
    simpa using h1.2
  · intro d v hi x u hx
    rw [hi] at h2
    simp only [List.all_eq_true, bne_iff_ne] at h2
    exact h2 _ hx
  · intro d v hk
    rw [hk] at h3
    simp only [Bool.and_eq_true, List.all_eq_true, bne_iff_ne] at h3
    refine ⟨fun x u hx => h3.1 _ hx, fun d' v' hi => ?_⟩
    rw [hi] at h3
    simpa using h3.2
  · intro d v hi x u hx
    rw [hi] at h4
    simp only [List.all_eq_true, bne_iff_ne] at h4
    exact h4 _ hx
theorem Req.back {k i : Spec} {S : St} (h : Indep k i) (r : Req i (runSt k S)) : Req i S := by
  refine ⟨fun x v hx => ?_, fun p e hp => ?_, fun p e hp => ?_, fun X hX l => by simpa [runSt, setM, h.ni X hX] using r.n X hX l⟩
  · have := r.t x v hx
    rw [getT_runSt] at this
    cases hk : k.wT with
    | none => rw [hk] at this; exact this
    | some kv =>
      obtain ⟨d, u⟩ := kv
      rw [hk] at this
      simp only [if_neg ((h.kt d u hk).1 x v hx)] at this
      exact this
  · have := r.m p e hp
    cases hk : k.wM with
    | none => simpa [runSt, setM, hk] using this
    | some kv =>
      obtain ⟨q, u⟩ := kv
      have hne := (h.km q u hk).1 p e hp
      simp only [runSt, setM, hk, List.getElem?_set_ne (Ne.symm hne)] at this
      exact this
  · have := r.w p e hp
    simpa [runSt, setM_length] using this
theorem Req.forth {k i : Spec} {S : St} (h : Indep k i) (r : Req k S) : Req k (runSt i S) := by
  refine ⟨fun x v hx => ?_, fun p e hp => ?_, fun p e hp => ?_, fun X hX l => by simpa [runSt, setM, h.nk X hX] using r.n X hX l⟩
  · rw [getT_runSt]
    cases hi : i.wT with
    | none => exact r.t x v hx
    | some kv =>
      obtain ⟨d, u⟩ := kv
      simp only [if_neg (h.it d u hi x v hx)]
      exact r.t x v hx
  · cases hi : i.wM with
    | none => simpa [runSt, setM, hi] using r.m p e hp
    | some kv =>
      obtain ⟨q, u⟩ := kv
      simp only [runSt, setM, hi, List.getElem?_set_ne (Ne.symm (h.im q u hi p e hp))]
      exact r.m p e hp
  · simpa [runSt, setM_length] using r.w p e hp
theorem run_comm {k i : Spec} {S : St} (h : Indep k i) : SEq (runSt i (runSt k S)) (runSt k (runSt i S)) := by
  refine ⟨fun x => ?_, ?_⟩
  · simp only [getT_runSt]
    cases hk : k.wT with
    | none => rfl
    | some kv =>
      obtain ⟨d, u⟩ := kv
      cases hi : i.wT with
      | none => rfl
      | some kv' =>
        obtain ⟨d', u'⟩ := kv'
        have := (h.kt d u hk).2 d' u' hi
        dsimp only
        by_cases h1 : x = d <;> by_cases h2 : x = d' <;> simp_all
  · simp only [runSt]
    cases hk : k.wM with
    | none => simp [setM]
    | some kv =>
      obtain ⟨p, u⟩ := kv
      cases hi : i.wM with
      | none => simp [setM]
      | some kv' =>
        obtain ⟨p', u'⟩ := kv'
        simp only [setM]
        exact List.set_comm _ _ (Ne.symm ((h.km p u hk).2 p' u' hi))
theorem valid_move : ∀ (A B : List Spec) (i : Spec) {S F : St}, valid (A ++ i :: B) S F → (∀ k ∈ A, Indep k i) → Req i S ∧ valid (A ++ B) (runSt i S) F
  | [], _, _, _, _, h, _ => h
  | k :: A, B, i, S, F, h, hi => by
    obtain ⟨hk, hr⟩ := h
    obtain ⟨h1, h2⟩ := valid_move A B i hr (fun k hk => hi k (List.mem_cons_of_mem _ hk))
    have hki := hi k List.mem_cons_self
    exact ⟨h1.back hki, hk.forth hki, valid_seq _ (run_comm hki) h2⟩
end Go.Proofs.Yteomgedahkpnlaa
end
section

namespace Go.Proofs.Yteomgedahkpnlaa
open Go.RowKit
structure Way (nt : Nat) (g0 : Gh) (w0 : World) (g : Gh) (w : World) (a : Act) (S : St) (hid : List Nat) (rest : List Spec) : Prop where
  ext : Ext g0 w0 g w
  rel : Rel nt g w a S hid
  held : ∀ sp s, sp ∈ rest → sp.sym = some s → g.sy s = .held ∧ g0.sy s = .free
theorem mem_set_hid {mem : List Ent} {hid : List Nat} {x : Option (Nat × Ent)} (h : ∀ p e, x = some (p, e) → p < mem.length) : setM (mem ++ hid.map Ent.mark) x = setM mem x ++ hid.map Ent.mark := setM_append _ _ _ h
theorem Way.step {P : Program} {ops : Array Oper} {F : Fence} (hF : Fr F) {nt : Nat} {g0 g : Gh} {w0 w : World} {a : Act} {S : St} {hid : List Nat} {sp : Spec} {rest : List Spec} {o : Oper}
    (h : Way nt g0 w0 g w a S hid (sp :: rest)) (hstep : Step P ops o sp) (hreq : Req sp S) (hnt : ∀ x v, (x, v) ∈ sp.rT → x < nt)
    (hsym : ∀ sp' s, sp' ∈ rest → sp.sym = some s → sp'.sym ≠ some s)
    (K : Act → World → Prop) (Q : Exit → Act → World → Prop) (hK : ∀ g' w' a', Way nt g0 w0 g' w' a' (runSt sp S) hid rest → K a' w') :
    if Region.wanted o (yielded ops a.tmps) then o.wpIn F 0 P a w K Q else (∀ f, o.about P w a.eval = some f → F.fn f) ∧ K (a.put o.dst undef) w := by
  refine hstep.go F hF g w a (S.mem ++ hid.map Ent.mark) h.rel.inv ?_ ?_ ?_ ?_ (fun X hX => hreq.n X hX _) K Q ?_
  · intro x v hx
    have hlt : x < a.tmps.size := by rw [h.rel.size]; exact hnt x v hx
    exact ⟨a.tmps[x], Array.getElem?_eq_getElem hlt, by rw [← hreq.t x v hx]; exact h.rel.env x _ (Array.getElem?_eq_getElem hlt)⟩
  · intro p e hp
    have := hreq.m p e hp
    rw [List.getElem?_append_left (List.getElem?_eq_some_iff.1 this).1]
    exact this
  · intro s hs
    exact (h.held sp s List.mem_cons_self hs).1
  · intro p e hp
    have := hreq.w p e hp
    simp only [List.length_append]
    omega
  · intro g' w' u hst hinv hrep
    refine hK g' w' _ ⟨?_, ⟨?_, ?_, ?_, ?_⟩, ?_⟩
    · exact h.ext.step hst fun s hs => (h.held sp s List.mem_cons_self hs).2
    · cases hd : o.dst <;> simp [Act.put, h.rel.size]
    · cases hd : o.dst <;> simp [Act.put, h.rel.defers]
    · intro x u' hx
      rw [getT_runSt]
      have hdst := hstep.dst
      cases hw : sp.wT with
      | none =>
        rw [hw] at hdst
        simp only [hdst, Option.map_none, Act.put] at hx
        exact (h.rel.env x u' hx).stab hst
      | some kv =>
        obtain ⟨d, v⟩ := kv
        rw [hw] at hdst
        simp only [Option.map_some] at hdst
        simp only [hdst, Act.put, Array.getElem?_setIfInBounds] at hx
        dsimp only
        by_cases hxd : x = d
        · subst hxd
          rw [if_pos rfl] at hx
          split at hx
          · injection hx with hx
            subst hx
            rw [if_pos rfl]
            exact hrep x v hw
          · cases hx
        · rw [if_neg (fun e => hxd e.symm)] at hx
          rw [if_neg hxd]
          exact (h.rel.env x u' hx).stab hst
    · rw [mem_set_hid hreq.w] at hinv
      exact hinv
    · intro sp' s hm hs
      have h0 := h.held sp' s (List.mem_cons_of_mem _ hm) hs
      refine ⟨?_, h0.2⟩
      rw [hst.sy s ?_ (by rw [h0.1]; simp), h0.1]
      intro e
      exact hsym sp' s hm e.symm hs
theorem way_list {P : Program} {ops : Array Oper} {F : Fence} (hF : Fr F) {nt : Nat} {g0 : Gh} {w0 : World} {hid : List Nat} {Fin : St} {Q : Exit → Act → World → Prop}
    (hQ : ∀ g w a S, Way nt g0 w0 g w a S hid [] → SEq S Fin → Q .normal a w) :
    ∀ (l : List Oper) (sps : List Spec), l.length = sps.length → (∀ (i : Nat) o sp, l[i]? = some o → sps[i]? = some sp → Step P ops o sp) →
      (∀ sp ∈ sps, ∀ x v, (x, v) ∈ sp.rT → x < nt) → sps.Pairwise (fun x y => ∀ s, x.sym = some s → y.sym ≠ some s) →
      ∀ g w a S, Way nt g0 w0 g w a S hid sps → valid sps S Fin → wpListIn F 0 P ops Q l a w
  | [], [], _, _, _, _, g, w, a, S, h, hv => hQ g w a S h hv
  | o :: l, sp :: sps, hl, hst, hnt, hsy, g, w, a, S, h, hv => by
    unfold wpListIn
    refine h.step hF (hst 0 o sp rfl rfl) hv.1 (hnt sp List.mem_cons_self) (fun sp' s hm hs => (List.pairwise_cons.1 hsy).1 sp' hm s hs) _ Q ?_
    intro g' w' a' h'
    exact way_list hF hQ l sps (by simpa using hl) (fun i o sp h1 h2 => hst (i + 1) o sp (by simpa using h1) (by simpa using h2))
      (fun sp' hm => hnt sp' (List.mem_cons_of_mem _ hm)) (List.pairwise_cons.1 hsy).2 g' w' a' _ h' hv.2
def boundEdge (o : Oper) (k : Nat) : Bool := o.after.any fun e => Region.binds .any e && e.on == k
def drawOk (ops : List Oper) (sps : List Spec) : Bool :=
  (ops.zip sps).zipIdx.all fun x =>
    x.1.1.after.all (fun e => !Region.binds .any e || decide (e.on < x.2)) &&
    (sps.take x.2).zipIdx.all fun y => boundEdge x.1.1 y.2 || indep y.1 x.1.2
theorem drawOk_spec {ops : List Oper} {sps : List Spec} (h : drawOk ops sps = true) {i : Nat} {o : Oper} {sp : Spec} (ho : ops[i]? = some o) (hs : sps[i]? = some sp) :
    (∀ e ∈ o.after, Region.binds .any e = true → e.on < i) ∧ ∀ k sk, k < i → sps[k]? = some sk → boundEdge o k = true ∨ Indep sk sp := by
  unfold drawOk at h
  rw [List.all_eq_true] at h
  have hz : ((ops.zip sps).zipIdx)[i]? = some ((o, sp), i) := by
    rw [List.getElem?_zipIdx, (List.getElem?_zip_eq_some (z := (o, sp))).2 ⟨ho, hs⟩]
    simp
  have := h _ (List.mem_of_getElem? hz)
  simp only [Bool.and_eq_true, Array.all_eq_true, List.all_eq_true, Bool.or_eq_true, Bool.not_eq_true', decide_eq_true_eq] at this
  refine ⟨fun e he hb => ?_, fun k sk hk hsk => ?_⟩
  · obtain ⟨j, hj, hje⟩ := Array.mem_iff_getElem.1 he
    rcases this.1 j hj with hx | hx
    · rw [hje, hb] at hx; cases hx
    · rw [hje] at hx; exact hx
  · have hy : ((sps.take i).zipIdx)[k]? = some (sk, k) := by
      rw [List.getElem?_zipIdx, List.getElem?_take, if_pos hk, hsk]
      simp
    rcases this.2 _ (List.mem_of_getElem? hy) with hx | hx
    · exact .inl hx
    · exact .inr (indep_spec hx)
def unlisted (n : Nat) (listed : Array Bool) : List Nat := (List.range n).filter fun i => !listed.getD i true
theorem unlisted_split (n : Nat) (listed : Array Bool) (i : Nat) (hi : i ∈ unlisted n listed) (hsz : listed.size = n) :
    ∃ A B, unlisted n listed = A ++ i :: B ∧ unlisted n (listed.setIfInBounds i true) = A ++ B ∧ ∀ k ∈ A, k < i ∧ listed.getD k true = false := by
  unfold unlisted at *
  simp only [List.mem_filter, List.mem_range] at hi
  obtain ⟨hin, hil⟩ := hi
  have hr : List.range n = List.range' 0 i ++ i :: List.range' (i + 1) (n - (i + 1)) := by
    have h1 : List.range' i (n - i) = i :: List.range' (i + 1) (n - (i + 1)) := by
      rw [show n - i = (n - (i + 1)) + 1 from by omega, List.range'_succ]
    have h2 := List.range'_append (s := 0) (m := i) (n := n - i) (step := 1)
    simp only [Nat.one_mul, Nat.zero_add] at h2
    have h3 : i + (n - i) = n := by omega
    rw [h3] at h2
    rw [List.range_eq_range', ← h2, h1]
  have same : ∀ l : List Nat, (∀ x ∈ l, x ≠ i) → l.filter (fun j => !(listed.setIfInBounds i true).getD j true) = l.filter (fun j => !listed.getD j true) := by
    intro l hl
    refine List.filter_congr fun j hj => ?_
    have hne := hl j hj
    simp only [Array.getD_eq_getD_getElem?, Array.getElem?_setIfInBounds_ne (Ne.symm hne)]
  refine ⟨(List.range' 0 i).filter (fun j => !listed.getD j true), (List.range' (i + 1) (n - (i + 1))).filter (fun j => !listed.getD j true), ?_, ?_, ?_⟩
  · rw [hr, List.filter_append, List.filter_cons, if_pos (by simpa using hil)]
  · rw [hr, List.filter_append, List.filter_cons, if_neg (by simp [Array.getD_eq_getD_getElem?, hsz, hin]), same _ (fun x hx => by simp only [List.mem_range'_1] at hx; omega), same _ (fun x hx => by simp only [List.mem_range'_1] at hx; omega)]
  · intro k hk
    simp only [List.mem_filter, List.mem_range'_1] at hk
    exact ⟨by omega, by simpa using hk.2⟩
theorem way_any {P : Program} {ops : Array Oper} {F : Fence} (hF : Fr F) {nt : Nat} {g0 : Gh} {w0 : World} {hid : List Nat} {Fin : St} {Q : Exit → Act → World → Prop}
    (sps : List Spec) (hlen : ops.size = sps.length) (hst : ∀ (i : Nat) o sp, ops[i]? = some o → sps[i]? = some sp → Step P ops o sp)
    (hnt : ∀ sp ∈ sps, ∀ x v, (x, v) ∈ sp.rT → x < nt) (hsy : ∀ (i j : Nat) x y s, sps[i]? = some x → sps[j]? = some y → x.sym = some s → y.sym = some s → i = j)
    (hok : drawOk ops.toList sps = true)
    (hQ : ∀ g w a S, Way nt g0 w0 g w a S hid [] → SEq S Fin → Q .normal a w) :
    ∀ (fuel : Nat) (listed : Array Bool), listed.size = ops.size → fuel = (unlisted ops.size listed).length →
      ∀ g w a S, Way nt g0 w0 g w a S hid ((unlisted ops.size listed).map (fun i => sps.getD i {})) → valid ((unlisted ops.size listed).map (fun i => sps.getD i {})) S Fin →
        wpAnyIn F 0 P .any ops Q fuel listed a w := by
  have ready_iff : ∀ (listed : Array Bool) i, i ∈ Region.ready .any ops listed ↔ i ∈ unlisted ops.size listed ∧ ∀ o, ops[i]? = some o → ∀ e ∈ o.after, Region.binds .any e = true → listed.getD e.on false = true := by
    intro listed i
    unfold Region.ready unlisted
    simp only [List.mem_filter, List.mem_range, Bool.and_eq_true]
    constructor
    · rintro ⟨h1, h2, h3⟩
      refine ⟨⟨h1, h2⟩, fun o ho e he hb => ?_⟩
      rw [ho] at h3
      simp only [Option.map_some, Option.getD_some, Array.all_eq_true] at h3
      obtain ⟨j, hj, hje⟩ := Array.mem_iff_getElem.1 he
      have := h3 j hj
      rw [hje, hb] at this
      simpa using this
    · rintro ⟨⟨h1, h2⟩, h3⟩
      refine ⟨h1, h2, ?_⟩
      rw [Array.getElem?_eq_getElem h1]
      simp only [Option.map_some, Option.getD_some, Array.all_eq_true]
      intro j hj
      by_cases hb : Region.binds .any (ops[i].after[j]) = true
      · simp [h3 _ (Array.getElem?_eq_getElem h1) _ (Array.getElem_mem hj) hb]
      · simp [hb]
  intro fuel
  induction fuel with
  | zero =>
    intro listed hsz hf g w a S h hv
    have hnil : unlisted ops.size listed = [] := List.eq_nil_of_length_eq_zero hf.symm
    refine ⟨?_, ?_⟩
    · rw [List.eq_nil_iff_forall_not_mem]
      intro i hi
      have := ((ready_iff listed i).1 hi).1
      rw [hnil] at this
      cases this
    · rw [hnil] at h hv
      exact hQ g w a S h hv
  | succ fuel ih =>
    intro listed hsz hf g w a S h hv
    refine ⟨fun hnil => ?_, fun i hi => ?_⟩
    · exfalso
      obtain ⟨i0, r, hr⟩ : ∃ i0 r, unlisted ops.size listed = i0 :: r := by
        cases hu : unlisted ops.size listed with
        | nil => rw [hu] at hf; cases hf
        | cons x y => exact ⟨x, y, rfl⟩
      have hm : i0 ∈ unlisted ops.size listed := by rw [hr]; exact List.mem_cons_self
      have hlt : i0 < ops.size := by unfold unlisted at hm; simp only [List.mem_filter, List.mem_range] at hm; exact hm.1
      have hs : sps[i0]? = some (sps[i0]'(by omega)) := List.getElem?_eq_getElem _
      have : i0 ∈ Region.ready .any ops listed := by
        refine (ready_iff listed i0).2 ⟨hm, fun o ho e he hb => ?_⟩
        have hbefore := (drawOk_spec hok (o := o) (by rw [Array.getElem?_toList]; exact ho) hs).1 e he hb
        cases hl : listed.getD e.on false with
        | true => rfl
        | false =>
          exfalso
          obtain ⟨A, B, h1, _, h3⟩ := unlisted_split ops.size listed e.on (by
            unfold unlisted
            simp only [List.mem_filter, List.mem_range]
            refine ⟨by omega, ?_⟩
            have hlt' : e.on < listed.size := by omega
            simp only [Array.getD_eq_getD_getElem?, Array.getElem?_eq_getElem hlt', Option.getD_some] at hl ⊢
            simp [hl]) hsz
          rw [hr] at h1
          cases A with
          | nil => injection h1 with h1 _; omega
          | cons x A =>
            injection h1 with h1 _
            have := (h3 x List.mem_cons_self).1
            omega
      rw [hnil] at this
      cases this
    · obtain ⟨hm, hedges⟩ := (ready_iff listed i).1 hi
      obtain ⟨A, B, h1, h2, h3⟩ := unlisted_split ops.size listed i hm hsz
      have hlt : i < ops.size := by unfold unlisted at hm; simp only [List.mem_filter, List.mem_range] at hm; exact hm.1
      have ho : ops[i]? = some ops[i] := Array.getElem?_eq_getElem hlt
      have hs : sps[i]? = some (sps[i]'(by omega)) := List.getElem?_eq_getElem _
      have hgi : sps.getD i {} = sps[i]'(by omega) := by simp [List.getD_eq_getElem?_getD, hs]
      have hind : ∀ k ∈ A, Indep (sps.getD k {}) (sps.getD i {}) := by
        intro k hk
        obtain ⟨hki, hkl⟩ := h3 k hk
        have hsk : sps[k]? = some (sps[k]'(by omega)) := List.getElem?_eq_getElem _
        have hgk : sps.getD k {} = sps[k]'(by omega) := by simp [List.getD_eq_getElem?_getD, hsk]
        rw [hgk, hgi]
        rcases (drawOk_spec hok (o := ops[i]) (by rw [Array.getElem?_toList]; exact ho) hs).2 k _ hki hsk with hb | hb
        · exfalso
          unfold boundEdge at hb
          simp only [Array.any_eq_true, Bool.and_eq_true, beq_iff_eq] at hb
          obtain ⟨j, hj, hb1, hb2⟩ := hb
          have := hedges _ ho _ (Array.getElem_mem hj) hb1
          rw [hb2] at this
          have hk' : k < listed.size := by omega
          simp only [Array.getD_eq_getD_getElem?, Array.getElem?_eq_getElem hk', Option.getD_some] at this hkl
          rw [hkl] at this
          cases this
        · exact hb
      rw [h1, List.map_append, List.map_cons] at h hv
      obtain ⟨hreq, hv'⟩ := valid_move _ _ _ hv (by
        intro k hk
        obtain ⟨k', hk', rfl⟩ := List.mem_map.1 hk
        exact hind k' hk')
      have hway : Way nt g0 w0 g w a S hid (sps.getD i {} :: ((A ++ B).map fun i => sps.getD i {})) :=
        ⟨h.ext, h.rel, fun sp s hsp hss => h.held sp s (by
          rw [List.map_append] at hsp
          simp only [List.mem_cons, List.mem_append] at hsp ⊢
          rcases hsp with rfl | hsp | hsp
          · exact .inr (.inl rfl)
          · exact .inl hsp
          · exact .inr (.inr hsp)) hss⟩
      unfold wpOpIn
      rw [ho]
      dsimp only
      have hne : ∀ x ∈ A ++ B, x < ops.size ∧ x ≠ i := by
        intro x hx
        rw [← h2] at hx
        unfold unlisted at hx
        simp only [List.mem_filter, List.mem_range] at hx
        refine ⟨hx.1, fun e => ?_⟩
        subst e
        simp [Array.getD_eq_getD_getElem?, hsz, hlt] at hx
      refine hway.step hF (by rw [hgi]; exact hst i _ _ ho hs) hreq (by rw [hgi]; exact hnt _ (List.getElem_mem _)) ?_ _ Q ?_
      · intro sp' s hm' hss hss'
        obtain ⟨x, hx, rfl⟩ := List.mem_map.1 hm'
        have hx' := hne x hx
        have hsx : sps[x]? = some (sps[x]'(by omega)) := List.getElem?_eq_getElem _
        have hgx : sps.getD x {} = sps[x]'(by omega) := by simp [List.getD_eq_getElem?_getD, hsx]
        rw [hgx] at hss'
        rw [hgi] at hss
        exact hx'.2 (hsy x i _ _ s hsx hs hss' hss)
      · intro g' w' a' h'
        refine ih (listed.setIfInBounds i true) (by simpa using hsz) ?_ g' w' a' _ (by rw [h2]; exact h') (by rw [h2, List.map_append]; exact hv')
        rw [h1] at hf
        rw [h2]
        simp only [List.length_append, List.length_cons] at hf ⊢
        omega
end Go.Proofs.Yteomgedahkpnlaa
end
section

namespace Go.Proofs.Yteomgedahkpnlaa
open Go.RowKit
def AC (F : Fence) (P : Program) (nt : Nat) (c : Code) (S : St) (Q : Exit → St → Prop) : Prop :=
  ∀ g w a hid, Rel nt g w a S hid → c.wpIn F 0 P (fun ex a' w' => ∃ g' S' hid', Rel nt g' w' a' S' hid' ∧ Ext g w g' w' ∧ Q ex S') a w
inductive Steps (P : Program) (ops : Array Oper) : List Oper → List Spec → Prop
  | nil : Steps P ops [] []
  | cons {o : Oper} {sp : Spec} {l : List Oper} {sps : List Spec} (h : Step P ops o sp) (r : Steps P ops l sps) : Steps P ops (o :: l) (sp :: sps)
theorem Steps.length {P : Program} {ops : Array Oper} {l : List Oper} {sps : List Spec} (h : Steps P ops l sps) : l.length = sps.length := by
  induction h with
  | nil => rfl
  | cons _ _ ih => simp [ih]
theorem Steps.at_ {P : Program} {ops : Array Oper} {l : List Oper} {sps : List Spec} (h : Steps P ops l sps) : ∀ (i : Nat) o sp, l[i]? = some o → sps[i]? = some sp → Step P ops o sp := by
  induction h with
  | nil => intro i o sp h; simp at h
  | cons h _ ih =>
    intro i o sp h1 h2
    cases i with
    | zero => simp at h1 h2; subst h1; subst h2; exact h
    | succ i => exact ih i o sp (by simpa using h1) (by simpa using h2)
def getsT : List Spec → St → List AV
  | [], _ => []
  | sp :: r, S => sp.rT.map (fun x => getT S.env x.1) ++ getsT r (runSt sp S)
def wantsT : List Spec → List AV
  | [] => []
  | sp :: r => sp.rT.map (·.2) ++ wantsT r
def getsM : List Spec → St → List (Option Ent)
  | [], _ => []
  | sp :: r, S => sp.rM.map (fun x => S.mem[x.1]?) ++ getsM r (runSt sp S)
def wantsM : List Spec → List (Option Ent)
  | [] => []
  | sp :: r => sp.rM.map (fun x => some x.2) ++ wantsM r
def placesM : List Spec → List Ent → Bool
  | [], _ => true
  | sp :: r, m => (match sp.wM with | none => true | some (p, _) => (m[p]?).isSome) && placesM r m
def needsM : List Spec → St → Prop
  | [], _ => True
  | sp :: r, S => (match sp.need with | none => True | some X => ∀ l, X (S.mem ++ l)) ∧ needsM r (runSt sp S)
def noNeeds : List Spec → Bool
  | [] => true
  | sp :: r => sp.need.isNone && noNeeds r
theorem noNeeds_of : ∀ (sps : List Spec) (S : St), noNeeds sps = true → needsM sps S
  | [], _, _ => trivial
  | sp :: r, S, h => by
    simp only [noNeeds, Bool.and_eq_true, Option.isNone_iff_eq_none] at h
    exact ⟨by rw [h.1]; trivial, noNeeds_of r _ h.2⟩
def finSt : List Spec → St → St
  | [], S => S
  | sp :: r, S => finSt r (runSt sp S)
def keepSt (ks : List Nat) (S : St) : St := { env := ks.map (fun k => (k, getT S.env k)), mem := S.mem }
def symL : List Bool → (Nat → Nat) → Nat → List (Option Nat)
  | [], _, _ => []
  | b :: r, σ, i => (if b then some (σ i) else none) :: symL r σ (i + 1)
def chk (nt : Nat) (draw : Bool) (ops : List Oper) (sps : List Spec) : Bool :=
  sps.all (fun sp => sp.rT.all fun x => Nat.blt x.1 nt) && (!draw || drawOk ops sps)
theorem append_split {α : Type} {a b c d : List α} (h : a ++ b = c ++ d) (hl : a.length = c.length) : a = c ∧ b = d := List.append_inj h hl
theorem placesM_set (p : Nat) (e : Ent) : ∀ (sps : List Spec) (m : List Ent), placesM sps (m.set p e) = placesM sps m
  | [], _ => rfl
  | sp :: r, m => by
    simp only [placesM, placesM_set p e r m]
    cases sp.wM with
    | none => rfl
    | some x =>
      have : ((m.set p e)[x.1]?).isSome = (m[x.1]?).isSome := by
        rw [Bool.eq_iff_iff]
        simp
      simp only [this]
theorem valid_of : ∀ (sps : List Spec) (S : St), getsT sps S = wantsT sps → getsM sps S = wantsM sps → placesM sps S.mem = true → needsM sps S → valid sps S (finSt sps S)
  | [], S, _, _, _, _ => SEq.refl S
  | sp :: r, S, h1, h2, h3, h4 => by
    simp only [getsT, wantsT] at h1
    simp only [getsM, wantsM] at h2
    obtain ⟨h1a, h1b⟩ := append_split h1 (by simp)
    obtain ⟨h2a, h2b⟩ := append_split h2 (by simp)
    simp only [placesM, Bool.and_eq_true] at h3
    refine ⟨⟨fun x v hx => ?_, fun p e hp => ?_, fun p e hp => ?_, fun X hX => by have := h4.1; rw [hX] at this; exact this⟩, valid_of r _ h1b h2b ?_ h4.2⟩
    · have := List.map_inj_left.1 h1a _ hx
      exact this
    · have := List.map_inj_left.1 h2a _ hp
      exact this
    · rw [hp] at h3
      have := h3.1
      rw [Option.isSome_iff_exists] at this
      obtain ⟨y, hy⟩ := this
      exact (List.getElem?_eq_some_iff.1 hy).1
    · show placesM r (setM S.mem sp.wM) = true
      cases hw : sp.wM with
      | none => exact h3.2
      | some x =>
        simp only [setM]
        rw [placesM_set]
        exact h3.2
theorem getT_keep (ks : List Nat) (f : Nat → AV) (x : Nat) : getT (ks.map fun k => (k, f k)) x = .top ∨ getT (ks.map fun k => (k, f k)) x = f x := by
  induction ks with
  | nil => exact .inl rfl
  | cons k r ih =>
    simp only [List.map_cons, getT]
    by_cases h : x = k
    · rw [if_pos h, h]; exact .inr rfl
    · rw [if_neg h]; exact ih
structure Weak (S S' : St) : Prop where
  t : ∀ x, getT S'.env x = .top ∨ getT S'.env x = getT S.env x
  len : S'.mem.length = S.mem.length
  m : ∀ (i : Nat) e, S'.mem[i]? = some e → e = .hole ∨ S.mem[i]? = some e
theorem Rel.weak {nt : Nat} {g : Gh} {w : World} {a : Act} {S S' : St} {hid : List Nat} (h : Rel nt g w a S hid) (k : Weak S S') : Rel nt g w a S' hid := by
  refine ⟨h.size, h.defers, fun x u hx => ?_, ⟨?_, ?_, h.inv.base, h.inv.lt, h.inv.room⟩⟩
  · rcases k.t x with h1 | h1 <;> rw [h1]
    · exact .top u
    · exact h.env x u hx
  · intro e he
    rw [List.mem_append] at he
    rcases he with he | he
    · obtain ⟨i, hi⟩ := List.getElem?_of_mem he
      rcases k.m i e hi with rfl | hm
      · trivial
      · exact h.inv.ok e (List.mem_append_left _ (List.mem_of_getElem? hm))
    · exact h.inv.ok e (List.mem_append_right _ he)
  · have one : ∀ (i : Nat) e b, (S'.mem ++ hid.map Ent.mark)[i]? = some e → e.block g = some b → (S.mem ++ hid.map Ent.mark)[i]? = some e := by
      intro i e b hi hb
      by_cases hlt : i < S'.mem.length
      · rw [List.getElem?_append_left hlt] at hi
        rcases k.m i e hi with rfl | hm
        · simp [Ent.block] at hb
        · rw [List.getElem?_append_left (by rw [← k.len]; exact hlt)]; exact hm
      · rw [List.getElem?_append_right (by omega)] at hi
        rw [List.getElem?_append_right (by rw [← k.len]; omega), ← k.len]; exact hi
    intro i j ei ej b hi hj bi bj
    exact h.inv.apart i j ei ej b (one i ei b hi bi) (one j ej b hj bj) bi bj
theorem AC.weaken {F : Fence} {P : Program} {nt : Nat} {c : Code} {S S' : St} {Q : Exit → St → Prop} (k : Weak S S') (h : AC F P nt c S' Q) : AC F P nt c S Q :=
  fun g w a hid hr => h g w a hid (hr.weak k)
theorem AC.mono {F : Fence} {P : Program} {nt : Nat} {c : Code} {S : St} {Q Q' : Exit → St → Prop} (h : AC F P nt c S Q) (k : ∀ ex S, Q ex S → Q' ex S) : AC F P nt c S Q' :=
  fun g w a hid hr => wpIn_mono (h g w a hid hr) fun ex a' w' ⟨g', S', hid', h1, h2, h3⟩ => ⟨g', S', hid', h1, h2, k _ _ h3⟩
def RegOK (P : Program) (nt : Nat) (ops : Array Oper) (draw : Bool) (S : St) (σ : Nat → Nat) (next : St → Prop) : Prop :=
  ∃ sps ks Fin, Steps P ops ops.toList sps ∧ getsT sps S = wantsT sps ∧ getsM sps S = wantsM sps ∧ placesM sps S.mem = true ∧ needsM sps S ∧ chk nt draw ops.toList sps = true ∧
    sps.map Spec.sym = symL (sps.map fun sp => sp.sym.isSome) σ 0 ∧ keepSt ks (finSt sps S) = Fin ∧ next Fin
theorem symL_at : ∀ (l : List Bool) (σ : Nat → Nat) (k i : Nat) s, (symL l σ k)[i]? = some (some s) → s = σ (k + i)
  | [], _, _, i, s, h => by simp [symL] at h
  | b :: r, σ, k, i, s, h => by
    cases i with
    | zero =>
      simp only [symL, List.getElem?_cons_zero, Option.some.injEq] at h
      split at h
      · simpa using h.symm
      · cases h
    | succ i =>
      simp only [symL, List.getElem?_cons_succ] at h
      rw [symL_at r σ (k + 1) i s h, Nat.add_assoc, Nat.add_comm 1 i]
def Gh.hold (g : Gh) (N n : Nat) : Gh := { g with sy := fun s => if N ≤ s ∧ s < N + n then .held else g.sy s }
theorem AC.region {F : Fence} (hF : Fr F) {P : Program} (hm : P.follows .mixedOrders = true) {nt id : Nat} {ops : Array Oper} {draw : Bool} {S : St} {Q : Exit → St → Prop}
    (h : ∀ σ, RegOK P nt ops draw S σ (Q .normal)) : AC F P nt (.region id ops draw) S Q := by
  intro g w a hid hr
  obtain ⟨N, hN⟩ := hr.inv.room
  obtain ⟨sps, ks, Fin, hst, ht, hmm, hp, hnd, hc, hsy, hk, hq⟩ := h (fun i => N + i)
  have hlen : ops.size = sps.length := by rw [← Array.length_toList]; exact hst.length
  simp only [chk, Bool.and_eq_true, List.all_eq_true, Bool.or_eq_true, Bool.not_eq_true'] at hc
  have hnt : ∀ sp ∈ sps, ∀ x v, (x, v) ∈ sp.rT → x < nt := fun sp hsp x v hx => by
    have := hc.1 sp hsp (x, v) hx
    simpa [Nat.blt_eq] using this
  have hsym : ∀ (i : Nat) sp s, sps[i]? = some sp → sp.sym = some s → s = N + i ∧ i < ops.size := by
    intro i sp s hi hs
    have h1 : (sps.map Spec.sym)[i]? = some (some s) := by rw [List.getElem?_map, hi, ← hs]; rfl
    rw [hsy] at h1
    have := symL_at _ _ 0 i s h1
    refine ⟨by simpa using this, ?_⟩
    rw [hlen]
    exact (List.getElem?_eq_some_iff.1 hi).1
  let g1 := g.hold N ops.size
  have hext : ∀ w1 : World, Below g.base w w1 → (∀ x, w1.cell? x = w.cell? x) → Ext g w g1 w1 := fun w1 hb hcell =>
    ⟨rfl, hb, fun b o hi => ⟨hi, hcell _⟩, fun s _ hs => by
      show (if N ≤ s ∧ s < N + ops.size then Sym.held else g.sy s) = g.sy s
      rw [if_neg]
      intro hlt
      exact hs (hN s hlt.1), fun s hs => by cases hs⟩
  have hinv : ∀ w1 : World, Below g.base w w1 → (∀ x, w1.cell? x = w.cell? x) → w1.heap = w.heap → Inv g1 w1 (S.mem ++ hid.map Ent.mark) := fun w1 hb hcell hh =>
    hr.inv.keep (hext w1 hb hcell) (fun e b _ _ => by rw [hh]) (fun e b o _ _ hi => hi) (fun b o hi => by rw [hh]; exact hr.inv.lt b o hi)
      ⟨N + ops.size, fun s hs => by
        show (if N ≤ s ∧ s < N + ops.size then Sym.held else g.sy s) = Sym.free
        rw [if_neg (by omega)]
        exact hN s (by omega)⟩
  have hway : ∀ w1 : World, Below g.base w w1 → (∀ x, w1.cell? x = w.cell? x) → w1.heap = w.heap → ∀ l : List Spec, (∀ sp ∈ l, sp ∈ sps) → Way nt g w g1 w1 a S hid l := fun w1 hb hcell hh l hl =>
    ⟨hext w1 hb hcell, ⟨hr.size, hr.defers, EnvOK.stab (hext w1 hb hcell) hr.env, hinv w1 hb hcell hh⟩, fun sp s hsp hs => by
      obtain ⟨i, hi⟩ := List.getElem?_of_mem (hl sp hsp)
      obtain ⟨h1, h2⟩ := hsym i sp s hi hs
      subst h1
      refine ⟨?_, hN _ (by omega)⟩
      show (if N ≤ N + i ∧ N + i < N + ops.size then Sym.held else g.sy (N + i)) = Sym.held
      rw [if_pos (by omega)]⟩
  have hQ : ∀ g' w' a' S', Way nt g w g' w' a' S' hid [] → SEq S' (finSt sps S) → ∃ g'' S'' hid', Rel nt g'' w' a' S'' hid' ∧ Ext g w g'' w' ∧ Q .normal S'' := by
    intro g' w' a' S' hw hs
    refine ⟨g', Fin, hid, hw.rel.weak ⟨fun x => ?_, ?_, fun i e he => ?_⟩, hw.ext, hq⟩
    · rw [← hk, hs.t x]
      exact getT_keep ks (getT (finSt sps S).env) x
    · rw [← hk, hs.m]; rfl
    · rw [← hk] at he
      rw [hs.m]
      exact .inr he
  have hval := valid_of sps S ht hmm hp hnd
  cases draw with
  | false =>
    refine wpIn_region_list ?_
    refine way_list hF (hid := hid) (Fin := finSt sps S) (Q := fun ex a' w' => ∃ g' S' hid', Rel nt g' w' a' S' hid' ∧ Ext g w g' w' ∧ Q ex S') (g0 := g) (w0 := w) (nt := nt) hQ ops.toList sps
      hst.length hst.at_ hnt ?_ g1 w a S (hway w (Below.refl _ _) (fun _ => rfl) rfl sps (fun _ h => h)) hval
    rw [List.pairwise_iff_getElem]
    intro i j hi hj hij s h1 h2
    have e1 := (hsym i _ s (List.getElem?_eq_getElem hi) h1).1
    have e2 := (hsym j _ s (List.getElem?_eq_getElem hj) h2).1
    omega
  | true =>
    refine wpIn_region_any hm ?_
    have hz : unlisted ops.size (Array.replicate ops.size false) = List.range ops.size := by
      unfold unlisted
      rw [List.filter_eq_self]
      intro i hi
      simp only [List.mem_range] at hi
      simp [Array.getD_eq_getD_getElem?, hi]
    have hmap : (List.range ops.size).map (fun i => sps.getD i {}) = sps := by
      apply List.ext_getElem?
      intro i
      rw [List.getElem?_map]
      by_cases hi : i < sps.length
      · rw [List.getElem?_range (by omega)]
        simp [List.getD_eq_getElem?_getD, List.getElem?_eq_getElem hi]
      · rw [List.getElem?_eq_none (by simpa using Nat.le_of_not_lt (by rw [hlen]; exact hi)), List.getElem?_eq_none (by omega)]
        rfl
    have hdrew : Below g.base w { w with drawn := w.drawn + 1 } := (Below.refl _ _).drew
    refine way_any hF sps hlen (fun i o sp h1 h2 => hst.at_ i o sp (by rw [Array.getElem?_toList]; exact h1) h2) hnt ?_ ?_
      (hid := hid) (Fin := finSt sps S) (Q := fun ex a' w' => ∃ g' S' hid', Rel nt g' w' a' S' hid' ∧ Ext g w g' w' ∧ Q ex S') (g0 := g) (w0 := w) (nt := nt) hQ ops.size (Array.replicate ops.size false) (by simp) (by rw [hz]; simp)
      g1 { w with drawn := w.drawn + 1 } a S ?_ ?_
    · intro i j x y s hi hj h1 h2
      have e1 := (hsym i _ s hi h1).1
      have e2 := (hsym j _ s hj h2).1
      omega
    · simpa using hc.2
    · rw [hz, hmap]; exact hway _ hdrew (fun _ => rfl) rfl sps (fun _ h => h)
    · rw [hz, hmap]; exact hval
def thenQ (next : St → Prop) (Q : Exit → St → Prop) : Exit → St → Prop
  | .normal, S => next S
  | e, S => Q e S
def blockQ (id : Nat) (Q : Exit → St → Prop) : Exit → St → Prop
  | .exit id', S => if id' = id then Q .normal S else Q (.exit id') S
  | e, S => Q e S
section
variable {F : Fence} {P : Program} {nt : Nat} {S : St} {Q : Exit → St → Prop}
theorem AC.seq {x y : Code} (h : AC F P nt x S (thenQ (fun S' => AC F P nt y S' Q) Q)) : AC F P nt (.seq x y) S Q := by
  intro g w a hid hr
  refine wpIn_seq (wpIn_mono (h g w a hid hr) ?_)
  rintro ex a' w' ⟨g', S', hid', h1, h2, h3⟩
  cases ex with
  | normal => exact wpIn_mono (h3 g' w' a' hid' h1) fun ex a'' w'' ⟨g'', S'', hid'', k1, k2, k3⟩ => ⟨g'', S'', hid'', k1, h2.trans k2, k3⟩
  | exit id => exact ⟨g', S', hid', h1, h2, h3⟩
  | goto l => exact ⟨g', S', hid', h1, h2, h3⟩
  | ret => exact ⟨g', S', hid', h1, h2, h3⟩
  | panic c => exact ⟨g', S', hid', h1, h2, h3⟩
  | outgrown => exact ⟨g', S', hid', h1, h2, h3⟩
theorem AC.skip (h : Q .normal S) : AC F P nt .skip S Q := fun g w a hid hr => wpIn_skip ⟨g, S, hid, hr, Stab.refl g w, h⟩
theorem AC.ret (h : Q .ret S) : AC F P nt .ret S Q := fun g w a hid hr => wpIn_ret ⟨g, S, hid, hr, Stab.refl g w, h⟩
theorem AC.exit {id : Nat} (h : Q (.exit id) S) : AC F P nt (.exit id) S Q := fun g w a hid hr => wpIn_exit ⟨g, S, hid, hr, Stab.refl g w, h⟩
theorem AC.block {id : Nat} {c : Code} (h : AC F P nt c S (blockQ id Q)) : AC F P nt (.block id c) S Q := by
  intro g w a hid hr
  refine wpIn_block (wpIn_mono (h g w a hid hr) ?_)
  rintro ex a' w' ⟨g', S', hid', h1, h2, h3⟩
  cases ex with
  | exit id' =>
    simp only [blockQ] at h3
    simp only [Exit.inBlock]
    split
    · rename_i hid; rw [if_pos hid] at h3; exact ⟨g', S', hid', h1, h2, h3⟩
    · rename_i hid; rw [if_neg hid] at h3; exact ⟨g', S', hid', h1, h2, h3⟩
  | normal => exact ⟨g', S', hid', h1, h2, h3⟩
  | goto l => exact ⟨g', S', hid', h1, h2, h3⟩
  | ret => exact ⟨g', S', hid', h1, h2, h3⟩
  | panic c => exact ⟨g', S', hid', h1, h2, h3⟩
  | outgrown => exact ⟨g', S', hid', h1, h2, h3⟩
theorem Rel.eval {g : Gh} {w : World} {a : Act} {hid : List Nat} (hr : Rel nt g w a S hid) {c : Nat} (hc : c < nt) : Rep g w (a.eval (.tmp c)) (getT S.env c) := by
  have hlt : c < a.tmps.size := by rw [hr.size]; exact hc
  have := hr.env c _ (Array.getElem?_eq_getElem hlt)
  simpa [Act.eval, Array.getD_eq_getD_getElem?, hlt] using this
theorem AC.cond {c : Nat} {b : Bool} {x y : Code} (hb : getT S.env c = .bool b) (ht : b = true → AC F P nt x S Q) (hf : b = false → AC F P nt y S Q) (hc : Nat.blt c nt = true) :
    AC F P nt (.cond (.tmp c) x y) S Q := by
  intro g w a hid hr
  have h := hr.eval (c := c) (by simpa [Nat.blt_eq] using hc)
  rw [hb] at h
  have he : a.eval (.tmp c) = .bool b := by
    generalize a.eval (.tmp c) = u at h
    cases h
    rfl
  cases b with
  | true => exact wpIn_cond_true he (ht rfl g w a hid hr)
  | false => exact wpIn_cond_false he (hf rfl g w a hid hr)
theorem AC.loop {c : Code} (I : Nat → St → Prop) (n0 : Nat) (h0 : I n0 S) (round : ∀ n S, I n S → AC F P nt c S (thenQ (fun S' => ∃ m, m < n ∧ I m S') Q)) (hF : Fr F) : AC F P nt (.loop c) S Q := by
  intro g0 w0 a0 hid0 hr0 b k cs hro hb hroom
  have key : ∀ n S g w a hid, I n S → Rel nt g w a S hid →
      ∃ e a' w', (∃ g' S' hid', Rel nt g' w' a' S' hid' ∧ Ext g w g' w' ∧ Q e S') ∧ ArrivesIn (Machine.fenced P F) P (lone (b.atR a (.code c :: .inLoop c :: k)) cs w) b k cs e a' w' := by
    intro n
    induction n using Nat.strongRecOn with
    | _ n ih =>
      intro S g w a hid hI hr
      obtain ⟨e, a₁, w₁, ⟨g₁, S₁, hid₁, hr₁, he₁, hq⟩, harr⟩ := round n S hI g w a hid hr b (.inLoop c :: k) cs hro hb hroom
      cases e with
      | normal =>
        obtain ⟨m, hlt, hI₁⟩ := hq
        obtain ⟨e₂, a₂, w₂, ⟨g₂, S₂, hid₂, hr₂, he₂, hq₂⟩, harr₂⟩ := ih m hlt S₁ g₁ w₁ a₁ hid₁ hI₁ hr₁
        exact ⟨e₂, a₂, w₂, ⟨g₂, S₂, hid₂, hr₂, he₁.trans he₂, hq₂⟩, .of_steps (StepsIn.trans harr (.one (fenced_calm hb hroom rfl) stepR_inLoop)) harr₂⟩
      | exit id => exact ⟨_, a₁, w₁, ⟨g₁, S₁, hid₁, hr₁, he₁, hq⟩, .pass (x := .inLoop c) rfl (fun _ _ => .inl (by simp)) harr⟩
      | goto l => exact ⟨_, a₁, w₁, ⟨g₁, S₁, hid₁, hr₁, he₁, hq⟩, .pass (x := .inLoop c) rfl (fun _ _ => .inl (by simp)) harr⟩
      | ret => exact ⟨_, a₁, w₁, ⟨g₁, S₁, hid₁, hr₁, he₁, hq⟩, .pass (x := .inLoop c) rfl (fun _ _ => .inl (by simp)) harr⟩
      | panic ch => exact ⟨_, a₁, w₁, ⟨g₁, S₁, hid₁, hr₁, he₁, hq⟩, .pass (x := .inLoop c) rfl (fun _ _ => .inl (by simp)) harr⟩
      | outgrown => exact ⟨_, a₁, w₁, ⟨g₁, S₁, hid₁, hr₁, he₁, hq⟩, .pass (x := .inLoop c) rfl (fun _ _ => .inl (by simp)) harr⟩
  obtain ⟨e, a', w', hq, harr⟩ := key n0 S g0 w0 a0 hid0 h0 hr0
  exact ⟨e, a', w', hq, .of_steps (.one (fenced_calm hb hroom rfl) stepR_loop) harr⟩
end
def RepAll (g : Gh) (w : World) (vs : Array Value) (as_ : List AV) : Prop := vs.size = as_.length ∧ ∀ (i : Nat) v a, vs[i]? = some v → as_[i]? = some a → Rep g w v a
def Meets (P : Program) (f : FuncId) (args : List AV) (mem : List Ent) (R : AV → List Ent → Prop) : Prop :=
  ∀ g w vs, Inv g w mem → RepAll g w vs args → Calls P f vs w fun e w' => ∃ v r mem' g', e = .returned v ∧ R r mem' ∧ Rep g' w' v r ∧ Inv g' w' mem' ∧ Ext g w g' w'
def Pure (P : Program) (f : FuncId) (args : List AV) (r : AV) : Prop := ∀ mem, Meets P f args mem fun r' mem' => r' = r ∧ mem' = mem
def argEnv : Nat → List AV → List (Nat × AV)
  | _, [] => []
  | i, a :: r => (i, a) :: argEnv (i + 1) r
theorem getT_argEnv : ∀ (as_ : List AV) (k x : Nat), getT (argEnv k as_) x = .top ∨ (k ≤ x ∧ as_[x - k]? = some (getT (argEnv k as_) x))
  | [], _, _ => .inl rfl
  | a :: r, k, x => by
    simp only [argEnv, getT]
    by_cases h : x = k
    · subst h
      rw [if_pos rfl]
      exact .inr ⟨Nat.le_refl _, by simp⟩
    · rw [if_neg h]
      rcases getT_argEnv r (k + 1) x with h1 | ⟨h1, h2⟩
      · exact .inl h1
      · refine .inr ⟨by omega, ?_⟩
        rw [show x - k = (x - (k + 1)) + 1 from by omega, List.getElem?_cons_succ]
        exact h2
def Result (P : Program) (fn : Func) (nt : Nat) (S : St) (r : AV) : Prop := ∀ g w a hid, Rel nt g w a S hid → ∃ v, (results fn a.tmps).run P w = .ok v w ∧ Rep g w v r
theorem Inv.drop {g : Gh} {w : World} {mem : List Ent} (h : Inv g w mem) (n : Nat) : Inv g w (mem.drop n) :=
  ⟨fun e he => h.ok e (List.mem_of_mem_drop he), fun i j ei ej b hi hj bi bj => by
    rw [List.getElem?_drop] at hi hj
    have := h.apart _ _ ei ej b hi hj bi bj
    omega, h.base, h.lt, h.room⟩
theorem Inv.take {g : Gh} {w : World} {mem : List Ent} (h : Inv g w mem) (n : Nat) : Inv g w (mem.take n) := by
  refine ⟨fun e he => h.ok e (List.mem_of_mem_take he), ?_, h.base, h.lt, h.room⟩
  · intro i j ei ej b hi hj bi bj
    rw [List.getElem?_take] at hi hj
    split at hi <;> split at hj
    · exact h.apart _ _ ei ej b hi hj bi bj
    · cases hj
    · cases hi
    · cases hi
theorem Inv.holes {g : Gh} {w : World} {mem : List Ent} (h : Inv g w mem) (n : Nat) : Inv g w (List.replicate n .hole ++ mem) := by
  refine ⟨fun e he => ?_, fun i j ei ej b hi hj bi bj => ?_, h.base, h.lt, h.room⟩
  · rw [List.mem_append] at he
    rcases he with he | he
    · rw [List.eq_of_mem_replicate he]; trivial
    · exact h.ok e he
  · have one : ∀ (i : Nat) e, (List.replicate n Ent.hole ++ mem)[i]? = some e → e.block g = some b → n ≤ i ∧ mem[i - n]? = some e := by
      intro i e hi hb
      by_cases hlt : i < n
      · rw [List.getElem?_append_left (by simpa using hlt), List.getElem?_replicate, if_pos hlt] at hi
        injection hi with hi
        subst hi
        simp [Ent.block] at hb
      · rw [List.getElem?_append_right (by simp; omega)] at hi
        exact ⟨by omega, by simpa using hi⟩
    obtain ⟨a1, a2⟩ := one i ei hi bi
    obtain ⟨b1, b2⟩ := one j ej hj bj
    have := h.apart _ _ ei ej b a2 b2 bi bj
    omega
theorem leaves_marks {F : Fence} {P : Program} {fn : Func} {nt : Nat} {r : AV} {R : Ending → World → Prop} {mem : List Ent} {a : Act} {env : List (Nat × AV)} :
    ∀ (hid : List Nat) g w, Rel nt g w { a with defers := hid.map markDefer } ⟨env, mem⟩ hid → Result P fn nt ⟨env, mem⟩ r →
      (∀ g' w' v, Rep g' w' v r → Inv g' w' mem → Ext g w g' w' → R (.returned v) w') → LeavesInM F 0 P fn a.tmps R (hid.map markDefer) .returning w
  | [], g, w, hr, hres, hR => by
    obtain ⟨v, h1, h2⟩ := hres g w _ [] hr
    exact ⟨v, h1, hR g w v h2 (by simpa using hr.inv) (Stab.refl g w)⟩
  | x :: hid, g, w, hr, hres, hR => by
    have hmark : (mem ++ (x :: hid).map Ent.mark)[mem.length]? = some (.mark x) := by
      rw [List.getElem?_append_right (Nat.le_refl _)]; simp
    obtain ⟨hb, hx, him⟩ := hr.inv.ok (.mark x) (List.mem_of_getElem? hmark)
    have hlt : x < w.heap.size := (Array.getElem?_eq_some_iff.1 hx).1
    let w1 : World := { w with heap := w.heap.setIfInBounds x (.deferred none) }
    have hrun : (Instr.takeDeferred x).run P w = .ok [] w1 := by
      unfold Instr.takeDeferred
      simp [getObj, setObj, Sem.run, hx, w1, Result.andThen]
    refine ⟨by simp, .inl ⟨x, w1, rfl, hrun, ?_⟩⟩
    have hheap : ∀ b, b ≠ x → w1.heap[b]? = w.heap[b]? := fun b hne => by
      show (w.heap.setIfInBounds x _)[b]? = _
      rw [Array.getElem?_setIfInBounds_ne (Ne.symm hne)]
    have hst : Ext g w g w1 := ⟨rfl, ⟨rfl, rfl, rfl, by simp [w1], fun k hk => hheap k (by omega)⟩, fun b o hi => ⟨hi, by
      have hne : b ≠ x := fun e => by subst e; exact him o hi
      simp only [World.cell?, hheap b hne]⟩, fun _ _ _ => rfl, fun s hs => by cases hs⟩
    have hinv : Inv g w1 ((mem ++ (x :: hid).map Ent.mark).set mem.length .hole) := by
      refine hr.inv.set hst mem.length .hole ?_ trivial (fun b o hi => by simpa [w1] using hr.inv.lt b o hi) hr.inv.room
      intro i e b hi hne hbk
      refine ⟨hheap b ?_, fun _ h => h, by simp [Ent.block]⟩
      intro e'
      subst e'
      exact hne (hr.inv.apart i mem.length e (.mark b) b hi hmark hbk rfl)
    have hinv' : Inv g w1 (mem ++ hid.map Ent.mark) := by
      rw [List.set_append_right _ _ (Nat.le_refl _)] at hinv
      simp only [Nat.sub_self, List.map_cons, List.set_cons_zero] at hinv
      refine ⟨fun e he => hinv.ok e ?_, ?_, hinv.base, hinv.lt, hinv.room⟩
      · simp only [List.mem_append, List.mem_cons] at he ⊢
        rcases he with he | he
        · exact .inl he
        · exact .inr (.inr he)
      · have one : ∀ (i : Nat) e, (mem ++ hid.map Ent.mark)[i]? = some e → (mem ++ Ent.hole :: hid.map Ent.mark)[if i < mem.length then i else i + 1]? = some e := by
          intro i e hi
          by_cases hlt : i < mem.length
          · rw [if_pos hlt, List.getElem?_append_left hlt]
            rw [List.getElem?_append_left hlt] at hi
            exact hi
          · rw [if_neg hlt, List.getElem?_append_right (by omega), show i + 1 - mem.length = (i - mem.length) + 1 from by omega, List.getElem?_cons_succ]
            rw [List.getElem?_append_right (by omega)] at hi
            exact hi
        intro i j ei ej b hi hj bi bj
        have := hinv.apart _ _ ei ej b (one i ei hi) (one j ej hj) bi bj
        split at this <;> split at this <;> omega
    refine leaves_marks (a := a) hid g w1 ⟨hr.size, rfl, EnvOK.stab hst hr.env, hinv'⟩ hres ?_
    intro g' w' v h1 h2 h3
    exact hR g' w' v h1 h2 (hst.trans h3)
theorem Fr.plain : Fr Fence.wide := ⟨fun _ => trivial, rfl, fun _ => rfl⟩
theorem Fr.round (l : Nat) : Fr (Fence.wide.inRound l) := ⟨fun _ => trivial, rfl, fun _ => rfl⟩
theorem Meets.of_body {P : Program} {f : FuncId} {fn : Func} {c : Code} {args : List AV} {mem : List Ent} {R : AV → List Ent → Prop} (nh : Nat) (hf : P.funcs[f]? = some fn) (hb : fn.body = some c)
    (hn : Nat.ble args.length fn.ntmps = true)
    (h : AC Fence.wide P fn.ntmps c ⟨argEnv 0 args, List.replicate nh .hole ++ mem⟩ fun ex S => (ex = .ret ∨ ex = .normal) ∧ ∃ r, Result P fn fn.ntmps S r ∧ R r (S.mem.drop nh)) : Meets P f args mem R := by
  intro g w vs hinv hargs
  refine callsIn_wide (n := 0).1 ?_
  refine callsIn_of_wp_marks hf hb trivial ?_ rfl
  have hle := Nat.le_of_ble_eq_true hn
  have hrel : Rel fn.ntmps g w { tmps := vs ++ Array.replicate (fn.ntmps - vs.size) undef, defers := [] } ⟨argEnv 0 args, List.replicate nh .hole ++ mem⟩ [] := by
    refine ⟨?_, rfl, ?_, ?_⟩
    · have := hargs.1
      simp only [Array.size_append, Array.size_replicate]
      omega
    · intro x u hx
      rcases getT_argEnv args 0 x with h1 | ⟨_, h1⟩
      · rw [h1]; exact .top u
      · simp only [Nat.sub_zero] at h1
        have hlt : x < vs.size := by rw [hargs.1]; exact (List.getElem?_eq_some_iff.1 h1).1
        rw [Array.getElem?_append_left hlt] at hx
        exact hargs.2 x u _ hx h1
    · simpa using hinv.holes nh
  refine wpIn_mono (h g w _ [] hrel) ?_
  rintro ex a' w' ⟨g', S', hid', h1, h2, h3, r, h4, h5⟩
  obtain ⟨env', mem'⟩ := S'
  have hleave : LeavesInM Fence.wide 0 P fn a'.tmps (fun e w' => ∃ v r mem' g', e = .returned v ∧ R r mem' ∧ Rep g' w' v r ∧ Inv g' w' mem' ∧ Ext g w g' w') a'.defers .returning w' := by
    rw [h1.defers]
    refine leaves_marks (a := a') (env := env') (mem := mem') (r := r) hid' g' w' ?_ h4 ?_
    · exact ⟨h1.size, rfl, h1.env, h1.inv⟩
    · intro g'' w'' v k1 k2 k3
      exact ⟨v, r, mem'.drop nh, g'', rfl, h5, k1, k2.drop nh, h2.trans k3⟩
  rcases h3 with rfl | rfl
  · exact hleave
  · exact hleave
end Go.Proofs.Yteomgedahkpnlaa
end
section

namespace Go.Proofs.Yteomgedahkpnlaa
open Go.RowKit
def HasT (g : Gh) (w : World) (a : Act) (l : List (Nat × AV)) : Prop := ∀ x v, (x, v) ∈ l → ∃ u, a.tmps[x]? = some u ∧ Rep g w u v
theorem HasT.left {g : Gh} {w : World} {a : Act} {l r : List (Nat × AV)} (h : HasT g w a (l ++ r)) : HasT g w a l := fun x v hx => h x v (List.mem_append_left _ hx)
theorem HasT.right {g : Gh} {w : World} {a : Act} {l r : List (Nat × AV)} (h : HasT g w a (l ++ r)) : HasT g w a r := fun x v hx => h x v (List.mem_append_right _ hx)
def Opd (o : Operand) (v : AV) (l : List (Nat × AV)) : Prop := ∀ g w (a : Act), HasT g w a l → Rep g w (a.eval o) v
theorem Opd.tmp (x : Nat) (v : AV) : Opd (.tmp x) v [(x, v)] := by
  intro g w a h
  obtain ⟨u, h1, h2⟩ := h x v (by simp)
  have : a.eval (.tmp x) = u := by simp [Act.eval, Array.getD_eq_getD_getElem?, h1]
  rw [this]; exact h2
theorem Opd.tmpC {b : Bool} (hb : b = true) (x : Nat) (v : AV) : Opd (.tmp x) v [(x, .cond b v)] := by
  intro g w a h
  have := Opd.tmp x (.cond b v) g w a h
  generalize a.eval (.tmp x) = u at this
  cases this with
  | condT _ h => exact h
  | condF h => rw [hb] at h; cases h
theorem Opd.int (k : IntKind) (n : Int) : Opd (.const (.int k n)) (.int k n) [] := fun _ _ _ _ => .int k n
theorem Opd.bool (b : Bool) : Opd (.const (.bool b)) (.bool b) [] := fun _ _ _ _ => .bool b
theorem Opd.str (s : ByteArray) : Opd (.const (.string s)) (.str s) [] := fun _ _ _ _ => .str s
theorem Opd.nils : Opd (.const (.slice none 0 0)) .nils [] := fun _ _ _ _ => .nils
theorem Opd.func (f : FuncId) : Opd (.func f) (.func f [] []) [] := fun _ _ _ _ => .func rfl rfl (fun i v a h => by simp at h) (fun i v a h => by simp at h)
theorem Step.value {P : Program} {ops : Array Oper} {o : Oper} {sp : Spec} (hd : o.dst = sp.wT.map (·.1)) (hg : o.guard = none) (hnd : ∀ c, o.op ≠ .defer c)
    (h : ∀ (g : Gh) (w : World) (a : Act) (mem : List Ent), Inv g w mem → HasT g w a sp.rT → (∀ p e, (p, e) ∈ sp.rM → mem[p]? = some e) → (∀ s, sp.sym = some s → g.sy s = .held) → (∀ p e, sp.wM = some (p, e) → p < mem.length) →
      ∃ u w' g', (execOp a.eval o).run P w = .ok (.value u) w' ∧ Stab sp.sym g w g' w' ∧ Inv g' w' (setM mem sp.wM) ∧ (∀ d v, sp.wT = some (d, v) → Rep g' w' u v)) : Step P ops o sp := by
  refine ⟨hd, fun F hF g w a mem hi hT hM hs hp hN K Q hK => ?_⟩
  simp only [Region.wanted, hg, if_true]
  obtain ⟨u, w', g', hrun, h1, h2, h3⟩ := h g w a mem hi hT hM hs hp
  refine ⟨fun f _ => hF.fn f, ?_⟩
  rw [Oper.semAt_eq _ _ _ hnd, hrun]
  exact hK g' w' u h1 h2 h3
theorem Step.skip {P : Program} {ops : Array Oper} {o : Oper} {sp : Spec} (hd : o.dst = none) (hw : sp.wT = none) (hg : o.guard = none) (hnd : ∀ c, o.op ≠ .defer c)
    (h : ∀ (g : Gh) (w : World) (a : Act) (mem : List Ent), Inv g w mem → HasT g w a sp.rT → (∀ p e, (p, e) ∈ sp.rM → mem[p]? = some e) → (∀ s, sp.sym = some s → g.sy s = .held) → (∀ p e, sp.wM = some (p, e) → p < mem.length) →
      ∃ w' g', (execOp a.eval o).run P w = .ok .skip w' ∧ Stab sp.sym g w g' w' ∧ Inv g' w' (setM mem sp.wM)) : Step P ops o sp := by
  refine ⟨by rw [hd, hw]; rfl, fun F hF g w a mem hi hT hM hs hp hN K Q hK => ?_⟩
  simp only [Region.wanted, hg, if_true]
  obtain ⟨w', g', hrun, h1, h2⟩ := h g w a mem hi hT hM hs hp
  refine ⟨fun f _ => hF.fn f, ?_⟩
  rw [Oper.semAt_eq _ _ _ hnd, hrun]
  exact hK g' w' undef h1 h2 (fun d v e => by rw [hw] at e; cases e)
theorem Step.calc {P : Program} {ops : Array Oper} {op : Op} {ty : TypeId} {pos : String} {aft : Array Edge} {d : Nat} {v : AV} {rT : List (Nat × AV)} {rM : List (Nat × Ent)} (hnd : ∀ c, op ≠ .defer c)
    (h : ∀ (g : Gh) (w : World) (a : Act) (mem : List Ent), Inv g w mem → HasT g w a rT → (∀ p e, (p, e) ∈ rM → mem[p]? = some e) →
      ∃ u, (execOp a.eval ⟨some d, op, ty, pos, aft, none⟩).run P w = .ok (.value u) w ∧ Rep g w u v) :
    Step P ops ⟨some d, op, ty, pos, aft, none⟩ { rT := rT, rM := rM, wT := some (d, v) } :=
  Step.value rfl rfl hnd fun g w a mem hi hT hM hs hp => by
    obtain ⟨u, h1, h2⟩ := h g w a mem hi hT hM
    exact ⟨u, w, g, h1, Stab.refl g w, hi, fun d' v' e => by injection e with e; injection e with _ e; subst e; exact h2⟩
theorem Step.guard {P : Program} {ops : Array Oper} {op : Op} {ty : TypeId} {pos : String} {aft : Array Edge} {d : Nat} {v : AV} {rT : List (Nat × AV)} {rM : List (Nat × Ent)} {j gt : Nat} {want : Bool} {nd : Option (List Ent → Prop)} (b : Bool)
    (hj : (ops[j]?).bind (·.dst) = some gt) (x : AV) (hx : ∀ g w u, Rep g w u x → (match u with | .bool c => (some c == some want) = b | _ => b = false))
    (h : b = true → Step P ops ⟨some d, op, ty, pos, aft, none⟩ { rT := rT, rM := rM, wT := some (d, v), need := nd }) :
    Step P ops ⟨some d, op, ty, pos, aft, some (j, want)⟩ { rT := (gt, x) :: rT, rM := rM, wT := some (d, .cond b v), need := nd } := by
  refine ⟨rfl, fun F hF g w a mem hi hT hM hs hp hN K Q hK => ?_⟩
  obtain ⟨u, hu, hr⟩ := hT gt x List.mem_cons_self
  have hy : yielded ops a.tmps j = match u with | .bool c => some c | _ => none := by
    unfold yielded
    rw [hj]
    simp only [Option.bind_some, hu]
    cases u <;> rfl
  have hw : Region.wanted ⟨some d, op, ty, pos, aft, some (j, want)⟩ (yielded ops a.tmps) = b := by
    simp only [Region.wanted, hy]
    have := hx g w u hr
    cases u <;> simp_all
  rw [hw]
  cases b with
  | true =>
    have := (h rfl).go F hF g w a mem hi (fun y v' hy => hT y v' (List.mem_cons_of_mem _ hy)) hM (fun s hs => by cases hs) (fun p e hp => by cases hp) hN K Q (fun g' w' u' h1 h2 h3 =>
      hK g' w' u' h1 h2 (fun d' v' e => by injection e with e; injection e with e1 e2; subst e1; subst e2; exact .condT rfl (h3 _ _ rfl)))
    simp only [Region.wanted, if_true] at this ⊢
    exact this
  | false =>
    simp only [Bool.false_eq_true, if_false]
    exact ⟨fun f _ => hF.fn f, hK g w undef (Stab.refl g w) hi (fun d' v' e => by injection e with e; injection e with e1 e2; subst e1; subst e2; exact .condF rfl)⟩
section
variable {P : Program} {ops : Array Oper} {ty : TypeId} {pos : String} {aft : Array Edge} {d : Nat}
theorem s_move {o : Operand} {v : AV} {l : List (Nat × AV)} (h : Opd o v l) : Step P ops ⟨some d, .move o, ty, pos, aft, none⟩ { rT := l, wT := some (d, v) } :=
  Step.calc (rM := []) (by simp) fun g w a mem hi hT hM => ⟨a.eval o, rfl, h g w a hT⟩
theorem s_assign {o : Operand} {v : AV} {l : List (Nat × AV)} (h : Opd o v l) : Step P ops ⟨some d, .assign o, ty, pos, aft, none⟩ { rT := l, wT := some (d, v) } :=
  Step.calc (rM := []) (by simp) fun g w a mem hi hT hM => ⟨a.eval o, rfl, h g w a hT⟩
theorem bool_of {g : Gh} {w : World} {u : Value} {b : Bool} (h : Rep g w u (.bool b)) : u = .bool b := by cases h; rfl
theorem int_of {g : Gh} {w : World} {u : Value} {k : IntKind} {n : Int} (h : Rep g w u (.int k n)) : u = .int k n := by cases h; rfl
theorem str_of {g : Gh} {w : World} {u : Value} {s : ByteArray} (h : Rep g w u (.str s)) : u = .string s := by cases h; rfl
def InK (k : IntKind) (n : Int) : Prop := k.wrap n = n
theorem inK_i64 {n : Int} (h : -9223372036854775808 ≤ n ∧ n ≤ 9223372036854775807) : InK .i64 n := IntWalk.i64_in _ h
theorem s_int2 {op : BinOp} {xt yt : TypeId} {x y : Operand} {k : IntKind} {m n : Int} {v : AV} {lx ly : List (Nat × AV)} (hx : Opd x (.int k m) lx) (hy : Opd y (.int k n) ly)
    (h : ∀ w, ∃ u, (binOp op xt (.int k m) (.int k n)).run P w = .ok u w ∧ ∀ g, Rep g w u v) (hop : op ≠ .shl ∧ op ≠ .shr) :
    Step P ops ⟨some d, .binOp op xt x y yt, ty, pos, aft, none⟩ { rT := lx ++ ly, wT := some (d, v) } :=
  Step.calc (rM := []) (by simp) fun g w a mem hi hT hM => by
    have h1 := int_of (hx g w a hT.left)
    have h2 := int_of (hy g w a hT.right)
    obtain ⟨u, h3, h4⟩ := h w
    refine ⟨u, ?_, h4 g⟩
    have he : (eqGuard op xt x y (.int k m) (.int k n)).run P w = .ok () w := by
      unfold eqGuard
      split <;> rfl
    simp [execOp, h1, h2, he, h3]
theorem s_add {xt yt : TypeId} {x y : Operand} {k : IntKind} {m n : Int} {lx ly : List (Nat × AV)} (hx : Opd x (.int k m) lx) (hy : Opd y (.int k n) ly) (h : InK k (m + n)) :
    Step P ops ⟨some d, .binOp .add xt x y yt, ty, pos, aft, none⟩ { rT := lx ++ ly, wT := some (d, .int k (m + n)) } :=
  s_int2 hx hy (fun w => ⟨.int k (m + n), by simp [binOp, Op.intArith]; exact h, fun g => .int k _⟩) (by simp)
theorem s_sub {xt yt : TypeId} {x y : Operand} {k : IntKind} {m n : Int} {lx ly : List (Nat × AV)} (hx : Opd x (.int k m) lx) (hy : Opd y (.int k n) ly) (h : InK k (m - n)) :
    Step P ops ⟨some d, .binOp .sub xt x y yt, ty, pos, aft, none⟩ { rT := lx ++ ly, wT := some (d, .int k (m - n)) } :=
  s_int2 hx hy (fun w => ⟨.int k (m - n), by simp [binOp, Op.intArith]; exact h, fun g => .int k _⟩) (by simp)
theorem s_mul {xt yt : TypeId} {x y : Operand} {k : IntKind} {m n : Int} {lx ly : List (Nat × AV)} (hx : Opd x (.int k m) lx) (hy : Opd y (.int k n) ly) (h : InK k (m * n)) :
    Step P ops ⟨some d, .binOp .mul xt x y yt, ty, pos, aft, none⟩ { rT := lx ++ ly, wT := some (d, .int k (m * n)) } :=
  s_int2 hx hy (fun w => ⟨.int k (m * n), by simp [binOp, Op.intArith]; exact h, fun g => .int k _⟩) (by simp)
theorem s_quo {xt yt : TypeId} {x y : Operand} {k : IntKind} {m n : Int} {lx ly : List (Nat × AV)} (hx : Opd x (.int k m) lx) (hy : Opd y (.int k n) ly) (h0 : n ≠ 0) (h : InK k (m.tdiv n)) :
    Step P ops ⟨some d, .binOp .quo xt x y yt, ty, pos, aft, none⟩ { rT := lx ++ ly, wT := some (d, .int k (m.tdiv n)) } :=
  s_int2 hx hy (fun w => ⟨.int k (m.tdiv n), by simp [binOp, Op.intDiv, h0]; exact h, fun g => .int k _⟩) (by simp)
theorem s_rem {xt yt : TypeId} {x y : Operand} {k : IntKind} {m n : Int} {lx ly : List (Nat × AV)} (hx : Opd x (.int k m) lx) (hy : Opd y (.int k n) ly) (h0 : n ≠ 0) :
    Step P ops ⟨some d, .binOp .rem xt x y yt, ty, pos, aft, none⟩ { rT := lx ++ ly, wT := some (d, .int k (m.tmod n)) } :=
  s_int2 hx hy (fun w => ⟨.int k (m.tmod n), by simp [binOp, Op.intDiv, h0], fun g => .int k _⟩) (by simp)
theorem s_eql {xt yt : TypeId} {x y : Operand} {k : IntKind} {m n : Int} {lx ly : List (Nat × AV)} (hx : Opd x (.int k m) lx) (hy : Opd y (.int k n) ly) :
    Step P ops ⟨some d, .binOp .eql xt x y yt, ty, pos, aft, none⟩ { rT := lx ++ ly, wT := some (d, .bool (decide (m = n))) } :=
  s_int2 hx hy (fun w => ⟨.bool (decide (m = n)), by simp [binOp, Op.intCmp]; rfl, fun g => .bool _⟩) (by simp)
theorem s_neq {xt yt : TypeId} {x y : Operand} {k : IntKind} {m n : Int} {lx ly : List (Nat × AV)} (hx : Opd x (.int k m) lx) (hy : Opd y (.int k n) ly) :
    Step P ops ⟨some d, .binOp .neq xt x y yt, ty, pos, aft, none⟩ { rT := lx ++ ly, wT := some (d, .bool (decide (m ≠ n))) } :=
  s_int2 hx hy (fun w => ⟨.bool (decide (m ≠ n)), by
    have : (m != n) = decide (m ≠ n) := by by_cases h : m = n <;> simp [h]
    simp [binOp, Op.intCmp, this], fun g => .bool _⟩) (by simp)
theorem s_lss {xt yt : TypeId} {x y : Operand} {k : IntKind} {m n : Int} {lx ly : List (Nat × AV)} (hx : Opd x (.int k m) lx) (hy : Opd y (.int k n) ly) :
    Step P ops ⟨some d, .binOp .lss xt x y yt, ty, pos, aft, none⟩ { rT := lx ++ ly, wT := some (d, .bool (decide (m < n))) } :=
  s_int2 hx hy (fun w => ⟨.bool (decide (m < n)), by simp [binOp, Op.intCmp], fun g => .bool _⟩) (by simp)
theorem s_leq {xt yt : TypeId} {x y : Operand} {k : IntKind} {m n : Int} {lx ly : List (Nat × AV)} (hx : Opd x (.int k m) lx) (hy : Opd y (.int k n) ly) :
    Step P ops ⟨some d, .binOp .leq xt x y yt, ty, pos, aft, none⟩ { rT := lx ++ ly, wT := some (d, .bool (decide (m ≤ n))) } :=
  s_int2 hx hy (fun w => ⟨.bool (decide (m ≤ n)), by simp [binOp, Op.intCmp], fun g => .bool _⟩) (by simp)
theorem s_gtr {xt yt : TypeId} {x y : Operand} {k : IntKind} {m n : Int} {lx ly : List (Nat × AV)} (hx : Opd x (.int k m) lx) (hy : Opd y (.int k n) ly) :
    Step P ops ⟨some d, .binOp .gtr xt x y yt, ty, pos, aft, none⟩ { rT := lx ++ ly, wT := some (d, .bool (decide (n < m))) } :=
  s_int2 hx hy (fun w => ⟨.bool (decide (n < m)), by simp [binOp, Op.intCmp], fun g => .bool _⟩) (by simp)
theorem s_geq {xt yt : TypeId} {x y : Operand} {k : IntKind} {m n : Int} {lx ly : List (Nat × AV)} (hx : Opd x (.int k m) lx) (hy : Opd y (.int k n) ly) :
    Step P ops ⟨some d, .binOp .geq xt x y yt, ty, pos, aft, none⟩ { rT := lx ++ ly, wT := some (d, .bool (decide (n ≤ m))) } :=
  s_int2 hx hy (fun w => ⟨.bool (decide (n ≤ m)), by simp [binOp, Op.intCmp], fun g => .bool _⟩) (by simp)
theorem s_not {t : TypeId} {x : Operand} {b : Bool} {lx : List (Nat × AV)} (hx : Opd x (.bool b) lx) : Step P ops ⟨some d, .unOp .not t x, ty, pos, aft, none⟩ { rT := lx, wT := some (d, .bool (!b)) } :=
  Step.calc (rM := []) (by simp) fun g w a mem hi hT hM => ⟨.bool (!b), by simp [execOp, bool_of (hx g w a hT), Op.unary], .bool _⟩
theorem bytes_beq (m n : ByteArray) : (m.toList == n.toList) = decide (m = n) := by
  rw [Bool.eq_iff_iff, beq_iff_eq, decide_eq_true_iff, ByteArray.toList_eq, ByteArray.toList_eq]
  constructor
  · intro h
    cases m; cases n
    simp only at h
    rw [Array.toList_inj.1 h]
  · rintro rfl; rfl
theorem s_bytes_eql {xt yt : TypeId} {x y : Operand} {m n : ByteArray} {lx ly : List (Nat × AV)} (hx : Opd x (.str m) lx) (hy : Opd y (.str n) ly) :
    Step P ops ⟨some d, .binOp .eql xt x y yt, ty, pos, aft, none⟩ { rT := lx ++ ly, wT := some (d, .bool (decide (m = n))) } :=
  Step.calc (rM := []) (by simp) fun g w a mem hi hT hM => ⟨.bool (decide (m = n)), by
    simp [execOp, str_of (hx g w a hT.left), str_of (hy g w a hT.right), eqGuard, binOp, Op.stringOp, bytes_beq], .bool _⟩
theorem s_bytes_neq {xt yt : TypeId} {x y : Operand} {m n : ByteArray} {lx ly : List (Nat × AV)} (hx : Opd x (.str m) lx) (hy : Opd y (.str n) ly) :
    Step P ops ⟨some d, .binOp .neq xt x y yt, ty, pos, aft, none⟩ { rT := lx ++ ly, wT := some (d, .bool (decide (m ≠ n))) } :=
  Step.calc (rM := []) (by simp) fun g w a mem hi hT hM => ⟨.bool (decide (m ≠ n)), by
    simp [execOp, str_of (hx g w a hT.left), str_of (hy g w a hT.right), eqGuard, binOp, Op.stringOp, bytes_beq], .bool _⟩
def conc : AV → Value
  | .int k n => .int k n
  | .bool b => .bool b
  | .str s => .string s
  | .agg cs => .agg (cs.map conc1).toArray
  | _ => undef
  where conc1 : AV → Value
  | .int k n => .int k n
  | .bool b => .bool b
  | .str s => .string s
  | _ => undef
def plain1 : AV → Bool
  | .int _ _ | .bool _ | .str _ => true
  | _ => false
def plainA : AV → Bool
  | .agg cs => cs.all plain1
  | a => plain1 a
theorem conc1_of {g : Gh} {w : World} {u : Value} {a : AV} (h : Rep g w u a) (hp : plain1 a = true) : u = conc.conc1 a := by
  cases h <;> first | rfl | simp [plain1] at hp
theorem conc_of {g : Gh} {w : World} {u : Value} {a : AV} (h : Rep g w u a) (hp : plainA a = true) : u = conc a := by
  cases h with
  | agg hs hr =>
    rename_i cs l
    simp only [plainA, List.all_eq_true] at hp
    simp only [conc]
    congr 1
    apply Array.ext'
    simp only
    apply List.ext_getElem?
    intro i
    rw [List.getElem?_map, Array.getElem?_toList]
    by_cases hi : i < l.length
    · have h1 : cs[i]? = some (cs[i]'(by omega)) := Array.getElem?_eq_getElem _
      rw [h1, List.getElem?_eq_getElem hi]
      simp only [Option.map_some]
      congr 1
      exact conc1_of (hr i _ _ h1 (List.getElem?_eq_getElem hi)) (hp _ (List.getElem_mem hi))
    · rw [List.getElem?_eq_none (by omega), Array.getElem?_eq_none (by omega)]
      rfl
  | int => rfl
  | bool => rfl
  | str => rfl
  | _ => simp [plainA, plain1] at hp
def EqT (P : Program) (t : TypeId) (x y : AV) (r : Bool) : Prop := ∀ w, (Op.equal t (conc x) (conc y)).run P w = .ok r w ∧ ∀ op o p, (eqGuard op t o p (conc x) (conc y)).run P w = .ok () w
theorem s_data_eql {xt yt : TypeId} {x y : Operand} {m n : AV} {r : Bool} {lx ly : List (Nat × AV)} (hx : Opd x m lx) (hy : Opd y n ly) (h : EqT P xt m n r)
    (hm : plainA m = true) (hn : plainA n = true) (hk : (match m with | .agg _ => true | .bool _ => true | _ => false) = true) :
    Step P ops ⟨some d, .binOp .eql xt x y yt, ty, pos, aft, none⟩ { rT := lx ++ ly, wT := some (d, .bool r) } :=
  Step.calc (rM := []) (by simp) fun g w a mem hi hT hM => ⟨.bool r, by
    have h1 := conc_of (hx g w a hT.left) hm
    have h2 := conc_of (hy g w a hT.right) hn
    obtain ⟨h3, h4⟩ := h w
    have h5 : binOp .eql xt (conc m) (conc n) = (do pure (.bool (← Op.equal xt (conc m) (conc n)))) := by
      cases m <;> simp at hk <;> (simp only [conc]; cases n <;> rfl)
    simp [execOp, h1, h2, h4, h5, h3], .bool _⟩
theorem s_data_neq {xt yt : TypeId} {x y : Operand} {m n : AV} {r : Bool} {lx ly : List (Nat × AV)} (hx : Opd x m lx) (hy : Opd y n ly) (h : EqT P xt m n r)
    (hm : plainA m = true) (hn : plainA n = true) (hk : (match m with | .agg _ => true | .bool _ => true | _ => false) = true) :
    Step P ops ⟨some d, .binOp .neq xt x y yt, ty, pos, aft, none⟩ { rT := lx ++ ly, wT := some (d, .bool (!r)) } :=
  Step.calc (rM := []) (by simp) fun g w a mem hi hT hM => ⟨.bool (!r), by
    have h1 := conc_of (hx g w a hT.left) hm
    have h2 := conc_of (hy g w a hT.right) hn
    obtain ⟨h3, h4⟩ := h w
    have h5 : binOp .neq xt (conc m) (conc n) = (do pure (.bool (!(← Op.equal xt (conc m) (conc n))))) := by
      cases m <;> simp at hk <;> (simp only [conc]; cases n <;> rfl)
    simp [execOp, h1, h2, h4, h5, h3], .bool _⟩
theorem s_extract {x : Operand} {vs : List AV} {i : Nat} {v : AV} {lx : List (Nat × AV)} (hx : Opd x (.tuple vs) lx) (hi : vs[i]? = some v) : Step P ops ⟨some d, .extract x i, ty, pos, aft, none⟩ { rT := lx, wT := some (d, v) } :=
  Step.calc (rM := []) (by simp) fun g w a mem _ hT hM => by
    have h := hx g w a hT
    generalize hu : a.eval x = u at h
    cases h with
    | tuple hs hr =>
      rename_i cs
      have hlt : i < cs.size := by rw [hs]; exact (List.getElem?_eq_some_iff.1 hi).1
      refine ⟨cs[i], by simp [execOp, hu, Instr.extract, hlt], hr i _ _ (Array.getElem?_eq_getElem hlt) hi⟩
inductive Opds : List Operand → List AV → List (Nat × AV) → Prop
  | nil : Opds [] [] []
  | cons {o : Operand} {v : AV} {l : List (Nat × AV)} {os : List Operand} {vs : List AV} {ls : List (Nat × AV)} (h : Opd o v l) (r : Opds os vs ls) : Opds (o :: os) (v :: vs) (l ++ ls)
theorem Opds.rep {g : Gh} {w : World} {a : Act} {os : List Operand} {vs : List AV} {ls : List (Nat × AV)} (h : Opds os vs ls) : HasT g w a ls → RepAll g w (os.map a.eval).toArray vs := by
  induction h with
  | nil => exact fun _ => ⟨rfl, fun i v x hv => by simp at hv⟩
  | cons h _ ih =>
    intro hT
    have := ih hT.right
    refine ⟨by have := this.1; simp at this ⊢; exact this, fun i v x hv hx => ?_⟩
    cases i with
    | zero =>
      simp at hv hx
      subst hv; subst hx
      exact h g w a hT.left
    | succ i => exact this.2 i v x (by simpa using hv) (by simpa using hx)
theorem s_makeFunc {f : FuncId} {fs cs : List Operand} {fv cv : List AV} {l1 l2 : List (Nat × AV)} (h1 : Opds fs fv l1) (h2 : Opds cs cv l2) :
    Step P ops ⟨some d, .makeFunc (.func f) fs.toArray cs.toArray, ty, pos, aft, none⟩ { rT := l1 ++ l2, wT := some (d, .func f fv cv) } :=
  Step.calc (rM := []) (by simp) fun g w a mem hi hT hM => by
    refine ⟨_, by simp [execOp, Instr.makeFunc]; rfl, ?_⟩
    have e1 := h1.rep hT.left
    have e2 := h2.rep hT.right
    exact .func e1.1 e2.1 e1.2 e2.2
end
end Go.Proofs.Yteomgedahkpnlaa
end
section

namespace Go.Proofs.Yteomgedahkpnlaa
open Go.RowKit
def TyS (P : Program) (t : TypeId) : Prop := ∃ d, P.underlying t = some d ∧ (match d with | .struct _ | .array _ _ => false | _ => true) = true
def SzT (P : Program) (t : TypeId) (n : Nat) : Prop := (P.info? t).map (·.size) = some n
def TyA (P : Program) (t : TypeId) (n : Nat) : Prop := ∃ d, P.underlying t = some d ∧ (match d with | .struct _ | .array _ _ => true | _ => false) = true ∧ SzT P t n
def Zero (P : Program) (t : TypeId) (z : Value) : Prop := (P.info? t).bind (·.zero) = some z
def Fld (P : Program) (t : TypeId) (i off : Nat) : Prop := ∃ fields f k, P.underlying t = some (.struct fields) ∧ fields[i]? = some f ∧ f.offset = off ∧ SzT P f.type k ∧ k ≠ 0
def SliceT (P : Program) (t e : TypeId) (n : Nat) : Prop := P.underlying t = some (.slice e) ∧ SzT P e n
def ArrT (P : Program) (t : TypeId) (len : Nat) (e : TypeId) (n : Nat) : Prop := P.underlying t = some (.array len e) ∧ SzT P e n
def Places (P : Program) (t : TypeId) (pl : List (Nat × Nat)) : Prop := ∃ fields, P.underlying t = some (.struct fields) ∧
  ∀ w, (fields.mapM (fun f => do pure (f.offset, ← sizeOf f.type)) : Sem (Array (Nat × Nat))).run P w = .ok pl.toArray w
theorem SzT.mk {P : Program} {t : TypeId} {n : Nat} (h : (P.info? t).map (·.size) = some n) : SzT P t n := h
theorem Zero.mk {P : Program} {t : TypeId} {z : Value} (h : (P.info? t).bind (·.zero) = some z) : Zero P t z := h
theorem run_size {P : Program} {t : TypeId} {n : Nat} (h : SzT P t n) (w : World) : (sizeOf t).run P w = .ok n w := by
  unfold SzT at h
  cases hi : P.info? t with
  | none => simp [hi] at h
  | some i => simp [hi] at h; simp [sizeOf, typeInfo, hi, h]
theorem run_zero {P : Program} {t : TypeId} {z : Value} (h : Zero P t z) (w : World) : (zeroValue t).run P w = .ok z w := by
  unfold Zero at h
  cases hi : P.info? t with
  | none => simp [hi] at h
  | some i => simp [hi] at h; simp [zeroValue, typeInfo, hi, h]
theorem run_single {P : Program} {t : TypeId} (h : TyS P t) (w : World) : (isAgg t).run P w = .ok false w := by
  obtain ⟨d, h1, h2⟩ := h
  cases d <;> simp at h2 <;> simp [isAgg, run_underlying h1]
theorem run_aggr {P : Program} {t : TypeId} {n : Nat} (h : TyA P t n) (w : World) : (isAgg t).run P w = .ok true w := by
  obtain ⟨d, h1, h2, _⟩ := h
  cases d <;> simp at h2 <;> simp [isAgg, run_underlying h1]
def RepCells (g : Gh) (w : World) (arr : Array Value) (l : List AV) : Prop := arr.size = l.length ∧ ∀ (i : Nat) v a, arr[i]? = some v → l[i]? = some a → Rep g w v a
theorem RepCells.stab {o : Option Nat} {g g' : Gh} {w w' : World} (h : Stab o g w g' w') {arr : Array Value} {l : List AV} (k : RepCells g w arr l) : RepCells g' w' arr l := ⟨k.1, fun i v a h1 h2 => (k.2 i v a h1 h2).stab h⟩
theorem rep_cells {g : Gh} {w : World} {u : Value} {a : AV} (h : Rep g w u a) (hs : a.solid = true) : RepCells g w u.cells a.cells := by
  have single : ∀ {v : Value} {x : AV}, v.cells = #[v] → x.cells = [x] → Rep g w v x → RepCells g w v.cells x.cells := by
    intro v x h1 h2 h3
    rw [h1, h2]
    refine ⟨rfl, fun i v' a' h4 h5 => ?_⟩
    cases i with
    | zero => simp at h4 h5; subst h4; subst h5; exact h3
    | succ i => simp at h4
  cases h with
  | agg hl hr => exact ⟨hl, hr⟩
  | top => simp [AV.solid] at hs
  | tuple => simp [AV.solid] at hs
  | condT => simp [AV.solid] at hs
  | condF => simp [AV.solid] at hs
  | int k n => exact single rfl rfl (.int k n)
  | bool b => exact single rfl rfl (.bool b)
  | str s => exact single rfl rfl (.str s)
  | ptr h => exact single rfl rfl (.ptr h)
  | eptr vals hc hr => exact single rfl rfl (.eptr vals hc hr)
  | nils => exact single rfl rfl .nils
  | slice b o vals hl hA hsz hc hr hle how => exact single rfl rfl (.slice b o vals hl hA hsz hc hr hle how)
  | func h1 h2 r1 r2 => exact single rfl rfl (.func h1 h2 r1 r2)
  | yieldf h => exact single rfl rfl (.yieldf h)
  | mp h => exact single rfl rfl (.mp h)
theorem one_of {g : Gh} {w : World} {u : Value} {a : AV} (h : Rep g w u a) (hs : a.one = true) : u.oneCell' = true := by
  cases h <;> first | rfl | simp [AV.one] at hs
def av1 : Value → AV
  | .int k n => .int k n
  | .bool b => .bool b
  | .string s => .str s
  | .slice none 0 0 => .nils
  | _ => .top
theorem rep_av1 (g : Gh) (w : World) (v : Value) : Rep g w v (av1 v) := by
  unfold av1
  split
  · exact .int _ _
  · exact .bool _
  · exact .str _
  · exact .nils
  · exact .top _
def zeroA (z : Value) : List AV := z.cells.toList.map av1
theorem rep_zeroA (g : Gh) (w : World) (z : Value) : RepCells g w z.cells (zeroA z) := by
  refine ⟨by simp [zeroA], fun i v a h1 h2 => ?_⟩
  simp only [zeroA, List.getElem?_map, Array.getElem?_toList, h1, Option.map_some, Option.some.injEq] at h2
  subst h2
  exact rep_av1 g w v
def putA (cs : List AV) (off : Nat) (l : List AV) : List AV := cs.take off ++ l ++ cs.drop (off + l.length)
theorem putA_length {cs : List AV} {off : Nat} {l : List AV} (h : off + l.length ≤ cs.length) : (putA cs off l).length = cs.length := by
  simp only [putA, List.length_append, List.length_take, List.length_drop]; omega
theorem rep_put {g : Gh} {w : World} {arr : Array Value} {cs : List AV} {vs : Array Value} {l : List AV} {off : Nat} (h : RepCells g w arr cs) (k : RepCells g w vs l) (hl : off + l.length ≤ cs.length) :
    RepCells g w (arr.toList.take off ++ vs.toList ++ arr.toList.drop (off + vs.toList.length)).toArray (putA cs off l) := by
  have h1 := h.1
  have k1 := k.1
  refine ⟨?_, fun i v a hv ha => ?_⟩
  · simp only [List.size_toArray, List.length_append, List.length_take, List.length_drop, Array.length_toList, putA_length hl]
    omega
  · simp only [List.getElem?_toArray] at hv
    simp only [putA] at ha
    by_cases c1 : i < off
    · rw [List.append_assoc, List.getElem?_append_left (by simp; omega), List.getElem?_take, if_pos c1] at hv ha
      exact h.2 i v a (by simpa using hv) ha
    · by_cases c2 : i < off + l.length
      · rw [List.getElem?_append_left (by simp; omega), List.getElem?_append_right (by simp; omega)] at hv ha
        have e1 : (arr.toList.take off).length = off := by simp; omega
        have e2 : (cs.take off).length = off := by simp; omega
        rw [e1] at hv
        rw [e2] at ha
        exact k.2 (i - off) v a (by simpa using hv) ha
      · rw [List.getElem?_append_right (by simp; omega), List.getElem?_drop] at hv ha
        have e1 : (arr.toList.take off ++ vs.toList).length = off + l.length := by simp; omega
        have e2 : (cs.take off ++ l).length = off + l.length := by simp; omega
        have e3 : vs.toList.length = l.length := by simp [k1]
        rw [e1, e3] at hv
        rw [e2] at ha
        have e4 : off + l.length + (i - (off + l.length)) = i := by omega
        rw [e4] at hv ha
        exact h.2 i v a (by simpa using hv) ha
def Gh.put (g : Gh) (s : Nat) (x : Sym) : Gh := { g with sy := fun t => if t = s then x else g.sy t }
def Gh.sealed (g : Gh) (b : Nat) : Gh := { g with imm := fun c o => g.imm c o ∨ c = b }
theorem alloc_old (w : World) (o : Obj) {b : Nat} (h : b < w.heap.size) : (w.alloc o).heap[b]? = w.heap[b]? := Below.heap_alloc w o b h
theorem alloc_new (w : World) (o : Obj) : (w.alloc o).heap[w.heap.size]? = some o := heap_alloc_new w o
theorem put_room {g : Gh} {s : Nat} {x : Sym} (h : ∃ N, ∀ t, N ≤ t → g.sy t = .free) : ∃ N, ∀ t, N ≤ t → (g.put s x).sy t = .free := by
  obtain ⟨N, hN⟩ := h
  refine ⟨max N (s + 1), fun t ht => ?_⟩
  show (if t = s then x else g.sy t) = .free
  rw [if_neg (by omega)]
  exact hN t (by omega)
theorem stab_alloc {g : Gh} {w : World} {mem : List Ent} (h : Inv g w mem) {s : Nat} (hs : g.sy s = .held) (x : Sym) (o : Obj) : Stab (some s) g w (g.put s x) (w.alloc o) where
  base := rfl
  below := (Below.refl _ _).alloc h.base o
  imm b oo hi := ⟨hi, by simp only [World.cell?, alloc_old w o (h.lt b oo hi)]⟩
  sy t ht _ := by
    show (if t = s then x else g.sy t) = g.sy t
    rw [if_neg (fun e => ht (by rw [e]))]
  held t ht := by injection ht with ht; subst ht; exact hs
theorem Inv.newBox {g : Gh} {w : World} {mem : List Ent} (h : Inv g w mem) {s p : Nat} (hs : g.sy s = .held) (hp : p < mem.length) {arr : Array Value} {cs : List AV} (T : TypeId) (hc : RepCells g w arr cs) :
    Stab (some s) g w (g.put s (.blk w.heap.size)) (w.alloc (.cells arr T)) ∧ Inv (g.put s (.blk w.heap.size)) (w.alloc (.cells arr T)) (mem.set p (.box s cs)) ∧ (g.put s (.blk w.heap.size)).sy s = .blk w.heap.size := by
  have hst := stab_alloc h hs (.blk w.heap.size) (.cells arr T)
  have hsy : (g.put s (.blk w.heap.size)).sy s = .blk w.heap.size := by show (if s = s then _ else _) = _; rw [if_pos rfl]
  refine ⟨hst, h.set hst p _ ?_ ?_ (fun b o hi => by have := h.lt b o hi; simp; omega) (put_room h.room), hsy⟩
  · intro i e b hi hne hb
    have hlt := (h.ok e (List.mem_of_getElem? hi)).block_lt hb
    refine ⟨alloc_old w _ hlt.2, fun _ hh => hh, ?_⟩
    simp only [Ent.block, hsy, symBlock]
    intro e
    injection e with e
    omega
  · have hc' := hc.stab hst
    exact ⟨w.heap.size, arr, T, hsy, h.base, alloc_new w _, hc'.1, hc'.2, fun o ho => by have := h.lt _ _ ho; omega⟩
theorem Inv.newImm {g : Gh} {w : World} {mem : List Ent} (h : Inv g w mem) (o : Obj) : Ext g w (g.sealed w.heap.size) (w.alloc o) ∧ Inv (g.sealed w.heap.size) (w.alloc o) mem := by
  have hst : Ext g w (g.sealed w.heap.size) (w.alloc o) :=
    ⟨rfl, (Below.refl _ _).alloc h.base o, fun b oo hi => ⟨.inl hi, by simp only [World.cell?, alloc_old w o (h.lt b oo hi)]⟩, fun _ _ _ => rfl, fun s hs => by cases hs⟩
  refine ⟨hst, h.keep hst ?_ ?_ ?_ h.room⟩
  · intro e b he hb
    exact alloc_old w o ((h.ok e he).block_lt hb).2
  · intro e b oo he hb hi
    rcases hi with hi | hi
    · exact hi
    · have := ((h.ok e he).block_lt hb).2; omega
  · intro b oo hi
    rcases hi with hi | hi
    · have := h.lt b oo hi; simp; omega
    · simp; omega
section
variable {P : Program} {ops : Array Oper} {ty : TypeId} {pos : String} {aft : Array Edge} {d : Nat}
theorem s_alloc {T : TypeId} {z : Value} (p s : Nat) (hz : Zero P T z) : Step P ops ⟨some d, .alloc T, ty, pos, aft, none⟩ { wT := some (d, .ptr s 0), wM := some (p, .box s (zeroA z)), sym := some s } :=
  Step.value rfl rfl (by simp) fun g w a mem hi hT hM hs hp => by
    obtain ⟨h1, h2, h3⟩ := hi.newBox (hs s rfl) (hp p _ rfl) T (rep_zeroA g w z)
    refine ⟨.pointer (some ⟨w.heap.size, 0, none⟩), w.alloc (.cells z.cells T), _, ?_, h1, h2, fun d' v e => ?_⟩
    · simp [execOp, Instr.alloc, run_zero hz, newVar, newRow]
    · injection e with e; injection e with _ e; subst e; exact .ptr h3
theorem s_box {T : TypeId} {x : Operand} {v : AV} {lx : List (Nat × AV)} (p s : Nat) (hx : Opd x v lx) (hv : v.solid = true) : Step P ops ⟨some d, .box T x, ty, pos, aft, none⟩ { rT := lx, wT := some (d, .ptr s 0), wM := some (p, .box s v.cells), sym := some s } :=
  Step.value rfl rfl (by simp) fun g w a mem hi hT hM hs hp => by
    obtain ⟨h1, h2, h3⟩ := hi.newBox (hs s rfl) (hp p _ rfl) T (rep_cells (hx g w a hT) hv)
    refine ⟨.pointer (some ⟨w.heap.size, 0, none⟩), w.alloc (.cells (a.eval x).cells T), _, ?_, h1, h2, fun d' v' e => ?_⟩
    · simp [execOp, Instr.box, newVar, newRow]
    · injection e with e; injection e with _ e; subst e; exact .ptr h3
theorem run_cells {w : World} {b o : Nat} (vals : Nat → Value) (n : Nat) (h : ∀ j, j < n → w.cell? ⟨b, o + j, none⟩ = some (vals j)) :
    (loadCells ⟨b, o, none⟩ n).run P w = .ok ((List.range n).map vals).toArray w :=
  run_loadCells w ⟨b, o, none⟩ n vals fun j hj => by
    have : (⟨b, o, none⟩ : Addr).add j = ⟨b, o + j, none⟩ := by unfold Addr.add; split <;> simp_all
    rw [this]; exact h j hj
theorem box_cell {g : Gh} {w : World} {mem : List Ent} (h : Inv g w mem) {p s : Nat} {cs : List AV} (hm : mem[p]? = some (.box s cs)) {b : Nat} (hb : g.sy s = .blk b) :
    ∃ arr t, w.heap[b]? = some (.cells arr t (0, 0)) ∧ g.base ≤ b ∧ RepCells g w arr cs ∧ (∀ o, ¬ g.imm b o) ∧ ∀ j v, arr[j]? = some v → w.cell? ⟨b, j, none⟩ = some v := by
  obtain ⟨b', arr, t, h1, h2, h3, h4, h5, h6⟩ := h.ok _ (List.mem_of_getElem? hm)
  rw [hb] at h1
  injection h1 with h1
  subst h1
  exact ⟨arr, t, h3, h2, ⟨h4, h5⟩, h6, fun j v hj => by simp [World.cell?, h3, hj]⟩
theorem s_load1 {t : TypeId} {x : Operand} {s off : Nat} {cs : List AV} {c : AV} {lx : List (Nat × AV)} (p : Nat) (ht : TyS P t) (hx : Opd x (.ptr s off) lx) (hc : cs[off]? = some c) :
    Step P ops ⟨some d, .load t x, ty, pos, aft, none⟩ { rT := lx, rM := [(p, .box s cs)], wT := some (d, c) } :=
  Step.calc (by simp) fun g w a mem hi hT hM => by
    have h := hx g w a hT
    generalize hu : a.eval x = u at h
    cases h with
    | ptr hs =>
      rename_i b
      obtain ⟨arr, tt, _, _, hr, _, hcell⟩ := box_cell hi (hM p (.box s cs) (by simp)) hs
      have hlt : off < arr.size := by rw [hr.1]; exact (List.getElem?_eq_some_iff.1 hc).1
      refine ⟨arr[off], ?_, hr.2 off _ _ (Array.getElem?_eq_getElem hlt) hc⟩
      simp [execOp, hu, Instr.loadAt, Instr.sureAddr, loadVar, run_single ht, hcell off _ (Array.getElem?_eq_getElem hlt)]
theorem s_loadA {t : TypeId} {x : Operand} {s off n : Nat} {cs l : List AV} {lx : List (Nat × AV)} (p : Nat) (ht : TyA P t n) (hx : Opd x (.ptr s off) lx) (hc : (cs.drop off).take n = l) (hn : l.length = n) :
    Step P ops ⟨some d, .load t x, ty, pos, aft, none⟩ { rT := lx, rM := [(p, .box s cs)], wT := some (d, .agg l) } :=
  Step.calc (by simp) fun g w a mem hi hT hM => by
    have h := hx g w a hT
    generalize hu : a.eval x = u at h
    cases h with
    | ptr hs =>
      rename_i b
      obtain ⟨arr, tt, _, _, hr, _, hcell⟩ := box_cell hi (hM p (.box s cs) (by simp)) hs
      have hlen : off + n ≤ cs.length ∨ n = 0 := by
        rw [← hc] at hn
        simp only [List.length_take, List.length_drop] at hn
        omega
      have hrun : (loadCells ⟨b, off, none⟩ n).run P w = .ok ((List.range n).map fun j => arr.getD (off + j) undef).toArray w :=
        run_cells (P := P) (fun j => arr.getD (off + j) undef) n fun j hj => by
          have hlt : off + j < arr.size := by rw [hr.1]; omega
          simp [hcell (off + j) _ (Array.getElem?_eq_getElem hlt), Array.getD_eq_getD_getElem?, hlt]
      refine ⟨_, by simp [execOp, hu, Instr.loadAt, Instr.sureAddr, loadVar, run_aggr ht, run_size ht.choose_spec.2.2, hrun]; rfl, .agg (by simp [hn]) fun i v x hv hx => ?_⟩
      rw [← hc, List.getElem?_take, List.getElem?_drop] at hx
      simp only [List.getElem?_toArray, List.getElem?_map] at hv
      split at hx
      · rename_i hin
        rw [List.getElem?_range hin] at hv
        have hlt : off + i < arr.size := by rw [hr.1]; omega
        simp only [Option.map_some, Array.getD_eq_getD_getElem?, Array.getElem?_eq_getElem hlt, Option.getD_some, Option.some.injEq] at hv
        exact hr.2 (off + i) v x (by rw [← hv]; exact Array.getElem?_eq_getElem hlt) hx
      · cases hx
theorem s_load1e {t : TypeId} {x : Operand} {off : Nat} {e c : AV} {lx : List (Nat × AV)} (ht : TyS P t) (hx : Opd x (.eptr e off) lx) (hc : e.cells[off]? = some c) :
    Step P ops ⟨some d, .load t x, ty, pos, aft, none⟩ { rT := lx, wT := some (d, c) } :=
  Step.calc (rM := []) (by simp) fun g w a mem hi hT hM => by
    have h := hx g w a hT
    generalize hu : a.eval x = u at h
    cases h with
    | eptr vals h1 h2 =>
      refine ⟨vals off, ?_, h2 off c hc⟩
      simp [execOp, hu, Instr.loadAt, Instr.sureAddr, loadVar, run_single ht, (h1 off c hc).1]
theorem s_loadAe {t : TypeId} {x : Operand} {off n : Nat} {e : AV} {l : List AV} {lx : List (Nat × AV)} (ht : TyA P t n) (hx : Opd x (.eptr e off) lx) (hc : (e.cells.drop off).take n = l) (hn : l.length = n) :
    Step P ops ⟨some d, .load t x, ty, pos, aft, none⟩ { rT := lx, wT := some (d, .agg l) } :=
  Step.calc (rM := []) (by simp) fun g w a mem hi hT hM => by
    have h := hx g w a hT
    generalize hu : a.eval x = u at h
    cases h with
    | eptr vals h1 h2 =>
      rename_i b o
      have hlen : off + n ≤ e.cells.length ∨ n = 0 := by
        rw [← hc] at hn
        simp only [List.length_take, List.length_drop] at hn
        omega
      have hrun : (loadCells ⟨b, o + off, none⟩ n).run P w = .ok ((List.range n).map fun j => vals (off + j)).toArray w :=
        run_cells (P := P) (fun j => vals (off + j)) n fun j hj => by
          have hlt : off + j < e.cells.length := by omega
          rw [Nat.add_assoc]
          exact (h1 (off + j) _ (List.getElem?_eq_getElem hlt)).1
      refine ⟨_, by simp [execOp, hu, Instr.loadAt, Instr.sureAddr, loadVar, run_aggr ht, run_size ht.choose_spec.2.2, hrun]; rfl, .agg (by simp [hn]) fun i v x hv hx => ?_⟩
      rw [← hc, List.getElem?_take, List.getElem?_drop] at hx
      simp only [List.getElem?_toArray, List.getElem?_map] at hv
      split at hx
      · rename_i hin
        rw [List.getElem?_range hin] at hv
        simp only [Option.map_some, Option.some.injEq] at hv
        subst hv
        exact h2 (off + i) x hx
      · cases hx
theorem setRow_old (w : World) (b : Nat) (cs : Array Value) {k : Nat} (h : k ≠ b) : (w.setRow b cs).heap[k]? = w.heap[k]? := setRow_other w b k cs h
theorem s_store {t : TypeId} {x y : Operand} {s off n : Nat} {cs : List AV} {v : AV} {lx ly : List (Nat × AV)} (p : Nat) (ht : SzT P t n) (hx : Opd x (.ptr s off) lx) (hy : Opd y v ly)
    (hv : v.solid = true) (h1 : v.cells.all AV.one = true) (hl : v.cells.length = n) (hn : off + v.cells.length ≤ cs.length) :
    Step P ops ⟨none, .store t x y, ty, pos, aft, none⟩ { rT := lx ++ ly, rM := [(p, .box s cs)], wM := some (p, .box s (putA cs off v.cells)) } :=
  Step.skip rfl rfl rfl (by simp) fun g w a mem hi hT hM hs hp => by
    have h := hx g w a hT.left
    have k := hy g w a hT.right
    generalize hu : a.eval x = u at h
    generalize hw : a.eval y = z at k
    cases h with
    | ptr hs =>
      rename_i b
      obtain ⟨arr, tt, hb, hbase, hr, himm, hcell⟩ := box_cell hi (hM p (.box s cs) (by simp)) hs
      have kc := rep_cells k hv
      have kone : ∀ c ∈ z.cells.toList, c.oneCell' = true := by
        intro c hc
        obtain ⟨i, hci⟩ := List.getElem?_of_mem hc
        rw [Array.getElem?_toList] at hci
        have hlt : i < v.cells.length := by rw [← kc.1]; exact (Array.getElem?_eq_some_iff.1 hci).1
        exact one_of (kc.2 i c _ hci (List.getElem?_eq_getElem hlt)) (List.all_eq_true.1 h1 _ (List.getElem_mem hlt))
      have hst := run_storeCells_at P b off tt z.cells.toList 0 arr w hb (by have e1 := kc.1; have e2 := hr.1; simp only [Array.length_toList]; omega) kone
      simp only [Nat.add_zero] at hst
      let arr' := (arr.toList.take off ++ z.cells.toList ++ arr.toList.drop (off + z.cells.toList.length)).toArray
      have hrun : (storeVar t ⟨b, off, none⟩ z).run P w = .ok () (w.setRow b arr') := by
        have hsz : z.cells.size = n := by rw [kc.1, hl]
        simp only [storeVar, Sem.run_bind, run_size ht, Result.andThen_ok, hsz, ne_eq, not_true_eq_false, if_false]
        exact hst
      have hstab : Ext g w g (w.setRow b arr') :=
        ⟨rfl, ⟨rfl, rfl, rfl, by simp [World.setRow], fun k hk => setRow_old w b _ (by omega)⟩, fun c o hi => ⟨hi, by
          have hne : c ≠ b := fun e => by subst e; exact himm o hi
          simp only [World.cell?, setRow_old w b _ hne]⟩, fun _ _ _ => rfl, fun s hs => by cases hs⟩
      refine ⟨w.setRow b arr', g, ?_, hstab, ?_⟩
      · simp [execOp, hu, hw, Instr.storeAt, Instr.sureAddr, hrun]
      · refine hi.set hstab p _ ?_ ?_ (fun c o ho => by simpa [World.setRow] using hi.lt c o ho) hi.room
        · intro i e c hie hne hec
          have hne' : c ≠ b := by
            intro e'
            subst e'
            exact hne (hi.apart i p e (.box s cs) c hie (hM p (.box s cs) (by simp)) hec (by simp [Ent.block, hs, symBlock]))
          refine ⟨setRow_old w b _ hne', fun _ h => h, ?_⟩
          simp only [Ent.block, hs, symBlock]
          intro e'
          injection e' with e'
          exact hne' e'.symm
        · have := rep_put (hr.stab hstab) (kc.stab hstab) hn
          exact ⟨b, arr', tt, hs, hbase, setRow_heap w b arr _ tt _ hb, this.1, this.2, himm⟩
theorem add_addr (b o n : Nat) : (⟨b, o, none⟩ : Addr).add n = ⟨b, o + n, none⟩ := by unfold Addr.add; split <;> simp_all
theorem run_field {t : TypeId} {i off : Nat} (h : Fld P t i off) (w : World) (b o : Nat) : (Instr.fieldAt t (.pointer (some ⟨b, o, none⟩)) i).run P w = .ok (.pointer (some ⟨b, o + off, none⟩)) w := by
  obtain ⟨fields, f, k, h1, h2, h3, h4, h5⟩ := h
  simp [Instr.fieldAt, run_underlying h1, h2, Instr.sureAddr, fieldPlace, run_size h4, h5, add_addr, h3]
theorem s_fieldAddr {t : TypeId} {x : Operand} {i o s off : Nat} {lx : List (Nat × AV)} (hf : Fld P t i o) (hx : Opd x (.ptr s off) lx) : Step P ops ⟨some d, .fieldAddr t x i, ty, pos, aft, none⟩ { rT := lx, wT := some (d, .ptr s (off + o)) } :=
  Step.calc (rM := []) (by simp) fun g w a mem hi hT hM => by
    have h := hx g w a hT
    generalize hu : a.eval x = u at h
    cases h with
    | ptr hs => exact ⟨_, by simp [execOp, hu, run_field hf], .ptr hs⟩
theorem s_fieldAddre {t : TypeId} {x : Operand} {i o off : Nat} {e : AV} {lx : List (Nat × AV)} (hf : Fld P t i o) (hx : Opd x (.eptr e off) lx) : Step P ops ⟨some d, .fieldAddr t x i, ty, pos, aft, none⟩ { rT := lx, wT := some (d, .eptr e (off + o)) } :=
  Step.calc (rM := []) (by simp) fun g w a mem hi hT hM => by
    have h := hx g w a hT
    generalize hu : a.eval x = u at h
    cases h with
    | eptr vals h1 h2 =>
      refine ⟨_, by simp [execOp, hu, run_field hf]; rfl, ?_⟩
      rw [Nat.add_assoc]
      exact .eptr vals h1 h2
theorem s_nilCheck {x : Operand} {v : AV} {lx : List (Nat × AV)} (hx : Opd x v lx) (hv : (match v with | .ptr _ _ | .eptr _ _ | .func _ _ _ => true | _ => false) = true) : Step P ops ⟨some d, .nilCheck x, ty, pos, aft, none⟩ { rT := lx, wT := some (d, v) } :=
  Step.calc (rM := []) (by simp) fun g w a mem hi hT hM => by
    have h := hx g w a hT
    refine ⟨a.eval x, ?_, h⟩
    generalize hu : a.eval x = u at h
    cases h <;> simp at hv <;> simp [execOp, hu]
theorem s_indexAddr {t e : TypeId} {x y : Operand} {n : Nat} {es : List AV} {own : Option Nat} {k : IntKind} {i : Int} {v : AV} {lx ly : List (Nat × AV)} (ht : SliceT P t e n) (hx : Opd x (.slice es own) lx) (hy : Opd y (.int k i) ly)
    (h0 : 0 ≤ i) (hi : es[i.toNat]? = some v) (hn : v.cells.length = n) : Step P ops ⟨some d, .indexAddr t x y, ty, pos, aft, none⟩ { rT := lx ++ ly, wT := some (d, .eptr v 0) } :=
  Step.calc (rM := []) (by simp) fun g w a mem _ hT hM => by
    have h := hx g w a hT.left
    have hyi := int_of (hy g w a hT.right)
    generalize hu : a.eval x = u at h
    cases h with
    | slice b o vals hl hA hsz hc hr hle how =>
      rename_i A len cap sz
      have hlt : i.toNat < es.length := (List.getElem?_eq_some_iff.1 hi).1
      have hAe := hA (fun e => by rw [e] at hlt; simp at hlt)
      subst hAe
      have hszn : sz = n := by rw [← hn]; exact (hsz v (List.mem_of_getElem? hi)).symm
      subst hszn
      refine ⟨.pointer (some ⟨b, o + i.toNat * sz + 0, none⟩), ?_, .eptr (fun j => vals i.toNat j) (fun j c hj => ?_) (fun j c hj => hr i.toNat v j c hi hj)⟩
      · have hb : 0 ≤ i ∧ i < (len : Int) := ⟨h0, by omega⟩
        simp [execOp, hu, hyi, Instr.indexAt, asIntOf, run_underlying ht.1, run_size ht.2, hb, add_addr]
      · have := hc i.toNat v j c hi hj
        rw [Nat.add_assoc]
        exact this
theorem s_indexAddrA {t e : TypeId} {x y : Operand} {n len s off : Nat} {k : IntKind} {i : Int} {lx ly : List (Nat × AV)} (ht : ArrT P t len e n) (hx : Opd x (.ptr s off) lx) (hy : Opd y (.int k i) ly)
    (h0 : 0 ≤ i) (hi : i < len) : Step P ops ⟨some d, .indexAddr t x y, ty, pos, aft, none⟩ { rT := lx ++ ly, wT := some (d, .ptr s (off + i.toNat * n)) } :=
  Step.calc (rM := []) (by simp) fun g w a mem _ hT hM => by
    have h := hx g w a hT.left
    have hyi := int_of (hy g w a hT.right)
    generalize hu : a.eval x = u at h
    cases h with
    | ptr hs =>
      refine ⟨_, ?_, .ptr hs⟩
      simp [execOp, hu, hyi, Instr.indexAt, Instr.sureAddr, asIntOf, run_underlying ht.1, run_size ht.2, h0, hi, add_addr]
theorem run_part1 {t : TypeId} (ht : TyS P t) {cs : Array Value} {off : Nat} {v : Value} (h : cs[off]? = some v) (w : World) : (part t cs off).run P w = .ok v w := by
  simp [part, run_single ht, h]
theorem s_index1 {t e : TypeId} {x y : Operand} {n len : Nat} {cs : List AV} {k : IntKind} {i : Int} {c : AV} {lx ly : List (Nat × AV)} (ht : ArrT P t len e n) (he : TyS P e) (hx : Opd x (.agg cs) lx) (hy : Opd y (.int k i) ly)
    (h0 : 0 ≤ i) (hi : i < len) (hc : cs[i.toNat * n]? = some c) : Step P ops ⟨some d, .index t x y, ty, pos, aft, none⟩ { rT := lx ++ ly, wT := some (d, c) } :=
  Step.calc (rM := []) (by simp) fun g w a mem _ hT hM => by
    have h := hx g w a hT.left
    have hyi := int_of (hy g w a hT.right)
    generalize hu : a.eval x = u at h
    cases h with
    | agg hs hr =>
      rename_i arr
      have hlt : i.toNat * n < arr.size := by rw [hs]; exact (List.getElem?_eq_some_iff.1 hc).1
      refine ⟨arr[i.toNat * n], ?_, hr _ _ _ (Array.getElem?_eq_getElem hlt) hc⟩
      simp [execOp, hu, hyi, Instr.index, asIntOf, run_underlying ht.1, run_size ht.2, h0, hi, run_part1 he (Array.getElem?_eq_getElem hlt)]
theorem run_partA {t : TypeId} {n : Nat} (ht : TyA P t n) {cs : Array Value} {off : Nat} (w : World) : (part t cs off).run P w = .ok (.agg (cs.extract off (off + n))) w := by
  simp [part, run_aggr ht, run_size ht.choose_spec.2.2]
theorem rep_extract {g : Gh} {w : World} {arr : Array Value} {cs l : List AV} {off n : Nat} (h : RepCells g w arr cs) (hc : (cs.drop off).take n = l) : Rep g w (.agg (arr.extract off (off + n))) (.agg l) := by
  have h1 := h.1
  refine .agg ?_ fun i v x hv hx => ?_
  · rw [← hc]; simp only [Array.size_extract, List.length_take, List.length_drop]; omega
  · rw [← hc, List.getElem?_take, List.getElem?_drop] at hx
    rw [Array.getElem?_extract] at hv
    split at hx
    · split at hv
      · exact h.2 (off + i) v x hv hx
      · cases hv
    · cases hx
theorem s_indexA {t e : TypeId} {x y : Operand} {n len : Nat} {cs l : List AV} {k : IntKind} {i : Int} {lx ly : List (Nat × AV)} (ht : ArrT P t len e n) (he : TyA P e n) (hx : Opd x (.agg cs) lx) (hy : Opd y (.int k i) ly)
    (h0 : 0 ≤ i) (hi : i < len) (hc : (cs.drop (i.toNat * n)).take n = l) : Step P ops ⟨some d, .index t x y, ty, pos, aft, none⟩ { rT := lx ++ ly, wT := some (d, .agg l) } :=
  Step.calc (rM := []) (by simp) fun g w a mem _ hT hM => by
    have h := hx g w a hT.left
    have hyi := int_of (hy g w a hT.right)
    generalize hu : a.eval x = u at h
    cases h with
    | agg hs hr =>
      rename_i arr
      refine ⟨_, ?_, rep_extract ⟨hs, hr⟩ hc⟩
      simp [execOp, hu, hyi, Instr.index, asIntOf, run_underlying ht.1, run_size ht.2, h0, hi, run_partA he]
theorem s_len {x : Operand} {t e : TypeId} {n : Nat} {es : List AV} {own : Option Nat} {lx : List (Nat × AV)} (ht : SliceT P t e n) (hx : Opd x (.slice es own) lx) :
    Step P ops ⟨some d, .call { callee := .builtin .len, args := #[x], argTypes := #[t] }, ty, pos, aft, none⟩ { rT := lx, wT := some (d, .int .i64 es.length) } :=
  Step.calc (rM := []) (by simp) fun g w a mem _ hT hM => by
    have h := hx g w a hT
    generalize hu : a.eval x = u at h
    cases h with
    | slice b o vals hl hA hsz hc hr hle how =>
      refine ⟨.int .i64 es.length, ?_, .int _ _⟩
      simp [execOp, resolve, invoke, builtin, hu, Builtin.len_, run_underlying ht.1, goInt, hl]
theorem s_lenS {x : Operand} {t : TypeId} {s : ByteArray} {lx : List (Nat × AV)} (ht : P.underlying t = some .string) (hx : Opd x (.str s) lx) :
    Step P ops ⟨some d, .call { callee := .builtin .len, args := #[x], argTypes := #[t] }, ty, pos, aft, none⟩ { rT := lx, wT := some (d, .int .i64 s.size) } :=
  Step.calc (rM := []) (by simp) fun g w a mem _ hT hM => by
    refine ⟨.int .i64 s.size, ?_, .int _ _⟩
    simp [execOp, resolve, invoke, builtin, str_of (hx g w a hT), Builtin.len_, run_underlying ht, goInt]
def maxL : Int → List Int → Int
  | x, [] => x
  | x, y :: r => maxL (if y > x then y else x) r
theorem run_maxL (w : World) (k : IntKind) : ∀ (l : List Int) (x : Int), ((l.map (Value.int k)).foldlM Builtin.max2 (Value.int k x)).run P w = .ok (.int k (maxL x l)) w
  | [], x => rfl
  | y :: r, x => by simp [List.foldlM, Builtin.max2, run_maxL w k r, maxL]
theorem repAll_ints {g : Gh} {w : World} {k : IntKind} : ∀ {vs : Array Value} {l : List Int}, RepAll g w vs (l.map (AV.int k)) → vs = (l.map (Value.int k)).toArray := by
  intro vs l h
  have h1 := h.1
  simp only [List.length_map] at h1
  apply Array.ext'
  apply List.ext_getElem?
  intro i
  simp only [Array.getElem?_toList, List.getElem?_map]
  by_cases hi : i < l.length
  · have e1 : vs[i]? = some (vs[i]'(by omega)) := Array.getElem?_eq_getElem _
    rw [e1, List.getElem?_eq_getElem hi]
    exact congrArg some (int_of (h.2 i _ _ e1 (by rw [List.getElem?_map, List.getElem?_eq_getElem hi]; rfl)))
  · rw [Array.getElem?_eq_none (by omega), List.getElem?_eq_none (by omega)]
    rfl
theorem s_max {os : List Operand} {k : IntKind} {x : Int} {l : List Int} {ts : Array TypeId} {lx : List (Nat × AV)} (h : Opds os ((x :: l).map (AV.int k)) lx) :
    Step P ops ⟨some d, .call { callee := .builtin .max, args := os.toArray, argTypes := ts }, ty, pos, aft, none⟩ { rT := lx, wT := some (d, .int k (maxL x l)) } :=
  Step.calc (rM := []) (by simp) fun g w a mem _ hT hM => by
    have e := repAll_ints (h.rep hT)
    refine ⟨.int k (maxL x l), ?_, .int _ _⟩
    have := run_maxL (P := P) w k l x
    simp [execOp, resolve, invoke, builtin, e, Builtin.max_, this]
end
end Go.Proofs.Yteomgedahkpnlaa
end
section

namespace Go.Proofs.Yteomgedahkpnlaa
open Go.RowKit
theorem fold_set (off : Nat) : ∀ (l : List Value) (k : Nat) (cs : Array Value), off + k + l.length ≤ cs.size →
    (l.zipIdx k).foldl (fun cs x => cs.setIfInBounds (off + x.2) x.1) cs = (cs.toList.take (off + k) ++ l ++ cs.toList.drop (off + k + l.length)).toArray
  | [], k, cs, _ => by simp
  | v :: r, k, cs, h => by
    simp only [List.length_cons] at h
    simp only [List.zipIdx_cons, List.foldl_cons]
    rw [fold_set off r (k + 1) _ (by simp; omega)]
    apply Array.ext'
    simp only [Array.toList_setIfInBounds]
    have := list_seg_step cs.toList (off + k) v r (by simp; omega)
    simpa [Nat.add_assoc] using this
def fillA (place : Nat → Option (Nat × Nat)) : List AV → List (Nat × AV) → Option (List AV)
  | cs, [] => some cs
  | cs, (i, v) :: r =>
    match place i with
    | none => none
    | some (off, size) => if Nat.beq v.cells.length size && Nat.ble (off + v.cells.length) cs.length then fillA place (putA cs off v.cells) r else none
inductive Parts : List (Nat × Operand) → List (Nat × AV) → List (Nat × AV) → Prop
  | nil : Parts [] [] []
  | cons {i : Nat} {o : Operand} {v : AV} {l : List (Nat × AV)} {os : List (Nat × Operand)} {vs ls : List (Nat × AV)} (hs : v.solid = true) (h : Opd o v l) (r : Parts os vs ls) : Parts ((i, o) :: os) ((i, v) :: vs) (l ++ ls)
theorem Parts.fill {g : Gh} {w : World} {a : Act} {place : Nat → Option (Nat × Nat)} {os : List (Nat × Operand)} {vs ls : List (Nat × AV)} (h : Parts os vs ls) :
    HasT g w a ls → ∀ (arr : Array Value) (cs l : List AV), RepCells g w arr cs → fillA place cs vs = some l →
      ∃ arr', Instr.fill place arr (os.map fun x => (x.1, a.eval x.2)) = some arr' ∧ RepCells g w arr' l := by
  induction h with
  | nil => intro _ arr cs l hr hf; simp only [fillA, Option.some.injEq] at hf; subst hf; exact ⟨arr, rfl, hr⟩
  | cons hs h r ih =>
    rename_i i o v lx os vs ls
    intro hT arr cs l hr hf
    simp only [fillA] at hf
    cases hp : place i with
    | none => rw [hp] at hf; cases hf
    | some os' =>
      obtain ⟨off, size⟩ := os'
      rw [hp] at hf
      simp only at hf
      split at hf
      · rename_i hc
        simp only [Bool.and_eq_true, Nat.ble_eq] at hc
        have hv := rep_cells (h g w a hT.left) hs
        have hput := rep_put hr hv hc.2
        obtain ⟨arr', h1, h2⟩ := ih hT.right _ _ l hput hf
        refine ⟨arr', ?_, h2⟩
        have e1 : (a.eval o).cells.size = size := by rw [hv.1]; exact Nat.eq_of_beq_eq_true hc.1
        have e2 : off + (a.eval o).cells.size ≤ arr.size := by rw [hv.1, hr.1]; exact hc.2
        simp only [List.map_cons, Instr.fill, hp]
        rw [if_neg (by simp [e1]; omega)]
        have := fold_set off (a.eval o).cells.toList 0 arr (by simpa using e2)
        simp only [Nat.add_zero] at this
        rw [← h1]
        congr 1
        rw [← this, ← Array.foldl_toList]
        simp [Array.toList_zipIdx]
      · cases hf
section
variable {P : Program} {ops : Array Oper} {ty : TypeId} {pos : String} {aft : Array Edge} {d : Nat}
theorem s_build {t : TypeId} {z : Value} {pl : List (Nat × Nat)} {os : List (Nat × Operand)} {vs lx : List (Nat × AV)} {l : List AV} (hz : Zero P t z) (hp : Places P t pl) (h : Parts os vs lx) (hl : fillA (fun i => pl[i]?) (zeroA z) vs = some l) :
    Step P ops ⟨some d, .build t os.toArray, ty, pos, aft, none⟩ { rT := lx, wT := some (d, .agg l) } :=
  Step.calc (rM := []) (by simp) fun g w a mem _ hT hM => by
    obtain ⟨arr, h1, h2⟩ := h.fill hT z.cells (zeroA z) l (rep_zeroA g w z) hl
    obtain ⟨fields, hu, hrun⟩ := hp
    refine ⟨.agg arr, ?_, .agg h2.1 h2.2⟩
    have hfun : (fun i : Nat => (pl.toArray)[i]?) = fun i : Nat => pl[i]? := by funext i; simp
    have h1' : Instr.fill (fun i : Nat => (pl.toArray)[i]?) z.cells (os.map fun x => (x.1, a.eval x.2)) = some arr := by rw [hfun]; exact h1
    have hmap : (os.toArray.map fun (i, x) => (i, a.eval x)).toList = os.map fun x => (x.1, a.eval x.2) := by simp
    simp only [execOp, Instr.build, Sem.run_bind, run_zero hz, Result.andThen_ok, run_underlying hu, hrun w, hmap, h1', Sem.run_pure]
theorem s_buildArr {t e : TypeId} {n len : Nat} {z : Value} {os : List (Nat × Operand)} {vs lx : List (Nat × AV)} {l : List AV} (hz : Zero P t z) (hp : ArrT P t len e n) (h : Parts os vs lx) (hl : fillA (fun i => some (i * n, n)) (zeroA z) vs = some l) :
    Step P ops ⟨some d, .build t os.toArray, ty, pos, aft, none⟩ { rT := lx, wT := some (d, .agg l) } :=
  Step.calc (rM := []) (by simp) fun g w a mem _ hT hM => by
    obtain ⟨arr, h1, h2⟩ := h.fill hT z.cells (zeroA z) l (rep_zeroA g w z) hl
    refine ⟨.agg arr, ?_, .agg h2.1 h2.2⟩
    have hmap : (os.toArray.map fun (i, x) => (i, a.eval x)).toList = os.map fun x => (x.1, a.eval x.2) := by simp
    simp only [execOp, Instr.build, Sem.run_bind, run_zero hz, Result.andThen_ok, run_underlying hp.1, run_size hp.2, hmap, h1, Sem.run_pure]
theorem rep_top (g : Gh) (w : World) (arr : Array Value) : RepCells g w arr (List.replicate arr.size .top) :=
  ⟨by simp, fun i v a h1 h2 => by
    rw [List.getElem?_replicate] at h2
    split at h2
    · injection h2 with h2; subst h2; exact .top v
    · cases h2⟩
theorem flat_at {n : Nat} : ∀ {es : List AV}, (∀ e ∈ es, e.cells.length = n) → ∀ (i : Nat) e j c, es[i]? = some e → e.cells[j]? = some c → (es.flatMap AV.cells)[i * n + j]? = some c
  | [], _, i, e, j, c, h, _ => by simp at h
  | x :: r, hs, i, e, j, c, h, hc => by
    have hx := hs x List.mem_cons_self
    cases i with
    | zero =>
      simp only [List.getElem?_cons_zero, Option.some.injEq] at h
      subst h
      rw [List.flatMap_cons, Nat.zero_mul, Nat.zero_add, List.getElem?_append_left (List.getElem?_eq_some_iff.1 hc).1]
      exact hc
    | succ i =>
      simp only [List.getElem?_cons_succ] at h
      rw [List.flatMap_cons, List.getElem?_append_right (by rw [hx, Nat.succ_mul]; omega), hx, Nat.succ_mul, show i * n + n + j - n = i * n + j from by omega]
      exact flat_at (fun e he => hs e (List.mem_cons_of_mem _ he)) i e j c h hc
theorem flat_length {n : Nat} {es : List AV} (h : ∀ e ∈ es, e.cells.length = n) : (es.flatMap AV.cells).length = es.length * n := by
  induction es with
  | nil => simp
  | cons x r ih =>
    rw [List.flatMap_cons, List.length_append, h x List.mem_cons_self, ih (fun e he => h e (List.mem_cons_of_mem _ he)), List.length_cons, Nat.succ_mul]
    omega
theorem rep_row {g : Gh} {w : World} {b n : Nat} {arr : Array Value} {tt : TypeId} {fr : Nat × Nat} {es : List AV} {cap : Nat} {own : Option Nat} (hb : w.heap[b]? = some (.cells arr tt fr)) (hs : ∀ e ∈ es, e.cells.length = n)
    (hr : ∀ (i : Nat) v a, arr[i]? = some v → (es.flatMap AV.cells)[i]? = some a → Rep g w v a) (hlen : (es.flatMap AV.cells).length ≤ arr.size) (him : ∀ o, o < (es.flatMap AV.cells).length → g.imm b o) (hle : es.length ≤ cap)
    (how : ∀ s, own = some s → g.sy s = .val (.slice (some ⟨b, 0, none⟩) es.length cap)) : Rep g w (.slice (some ⟨b, 0, none⟩) es.length cap) (.slice es own) := by
  refine .slice b 0 (fun i j => arr.getD (i * n + j) undef) rfl (fun _ => rfl) hs (fun i e j c hi hj => ?_) (fun i e j c hi hj => ?_) hle how
  · have hf := flat_at hs i e j c hi hj
    have hlt := (List.getElem?_eq_some_iff.1 hf).1
    have hlt' : i * n + j < arr.size := by omega
    refine ⟨?_, by rw [Nat.zero_add]; exact him _ hlt⟩
    simp [World.cell?, hb, Array.getD_eq_getD_getElem?, hlt']
  · have hf := flat_at hs i e j c hi hj
    have hlt := (List.getElem?_eq_some_iff.1 hf).1
    have hlt' : i * n + j < arr.size := by omega
    refine hr (i * n + j) _ c ?_ hf
    simp [Array.getD_eq_getD_getElem?, hlt']
theorem s_buildSlice {t e : TypeId} {n len : Nat} {z : Value} {os : List (Nat × Operand)} {vs lx : List (Nat × AV)} {es : List AV} (hz : Zero P e z) (ht : SliceT P t e n) (hn : Nat.ble (len * n) 1000 = true) (hl : es.length = len) (h : Parts os vs lx)
    (hf : fillA (fun i => some (i * n, n)) (List.replicate (len * n) .top) vs = some (es.flatMap AV.cells)) (hs : ∀ e ∈ es, e.cells.length = n) :
    Step P ops ⟨some d, .buildSlice t len os.toArray, ty, pos, aft, none⟩ { rT := lx, wT := some (d, .slice es none) } :=
  Step.value rfl rfl (by simp) fun g w a mem hi hT hM _ hp => by
    have hn' := Nat.le_of_ble_eq_true hn
    let zero : Array Value := if len * n = 0 then #[] else z.cells
    let arr0 : Array Value := (Array.range (len * n)).map (zero[· % zero.size]!)
    have h0 : RepCells g w arr0 (List.replicate (len * n) .top) := by
      have := rep_top g w arr0
      simpa [arr0] using this
    obtain ⟨arr, h1, h2⟩ := h.fill hT arr0 _ _ h0 hf
    obtain ⟨hst, hinv⟩ := hi.newImm (.cells arr e)
    have hmap : (os.toArray.map fun (i, x) => (i, a.eval x)).toList = os.map fun x => (x.1, a.eval x.2) := by simp
    have hrun : (execOp a.eval ⟨some d, .buildSlice t len os.toArray, ty, pos, aft, none⟩).run P w = .ok (.value (.slice (some ⟨w.heap.size, 0, none⟩) len len)) (w.alloc (.cells arr e)) := by
      have hbig : ¬ (16777216 < len * n) := by omega
      by_cases hzz : len * n = 0
      · have hz' : zero = #[] := by simp [zero, hzz]
        simp only [arr0, hz'] at h1
        simp [execOp, Instr.buildSlice, run_underlying ht.1, run_size ht.2, hbig, hzz, newRow] at h1 ⊢
        rw [h1]
        simp
      · have hz' : zero = z.cells := by simp [zero, hzz]
        simp only [arr0, hz'] at h1
        simp [execOp, Instr.buildSlice, run_underlying ht.1, run_size ht.2, hbig, hzz, run_zero hz, newRow] at h1 ⊢
        rw [h1]
        simp
    refine ⟨_, _, _, hrun, hst, hinv, fun d' v' e' => ?_⟩
    injection e' with e'
    injection e' with _ e'
    subst e'
    have hst2 := h2.stab hst
    rw [← hl]
    exact rep_row (alloc_new w _) hs hst2.2 (by rw [h2.1]; exact Nat.le_refl _) (fun o _ => .inr rfl) (Nat.le_refl _) (fun s hs => by cases hs)
theorem bound_ok {k : IntKind} {i : Int} {y : Nat} {c : BoundsCode} (w : World) (h0 : 0 ≤ i) (h1 : i ≤ y) : (Instr.sliceBound (.int k i) y c).run P w = .ok i.toNat w := by
  simp [Instr.sliceBound, asIntOf, h0, h1]
theorem rep_cut {g : Gh} {w : World} {A : Option Addr} {len cap n l h : Nat} {es : List AV} {own : Option Nat} (hr : Rep g w (.slice A len cap) (.slice es own)) (hs : ∀ e ∈ es, e.cells.length = n) (hl : l ≤ h) (hh : h ≤ es.length) :
    Rep g w (.slice (if cap = l then A else A.map (·.add (l * n))) (h - l) (cap - l)) (.slice ((es.take h).drop l) none) := by
  cases hr with
  | slice b o vals hlen hA hsz hc hr hle how =>
    rename_i sz
    have hszn : es ≠ [] → sz = n := fun hne => by
      obtain ⟨e, he⟩ := List.exists_mem_of_ne_nil es hne
      rw [← hsz e he]; exact hs e he
    have at_ : ∀ (i : Nat) e, ((es.take h).drop l)[i]? = some e → es[l + i]? = some e ∧ l + i < h := by
      intro i e hi
      rw [List.getElem?_drop, List.getElem?_take] at hi
      split at hi
      · rename_i hlt; exact ⟨hi, hlt⟩
      · cases hi
    refine .slice (sz := n) b (o + l * n) (fun i j => vals (l + i) j) (by simp; omega) (fun hne => ?_) (fun e he => hs e (List.mem_of_mem_take (List.mem_of_mem_drop he))) (fun i e j c hi hj => ?_) (fun i e j c hi hj => hr (l + i) e j c (at_ i e hi).1 hj) (by omega) (fun s hs => by cases hs)
    · have hne' : es ≠ [] := fun e => hne (by rw [e]; simp)
      have hlh : l < h := by
        obtain ⟨e, he⟩ := List.exists_mem_of_ne_nil _ hne
        obtain ⟨i, hi⟩ := List.getElem?_of_mem he
        have := (at_ i e hi).2
        omega
      rw [if_neg (by omega), hA hne']
      simp [add_addr]
    · have h1 := at_ i e hi
      have hne' : es ≠ [] := fun e' => by rw [e'] at h1; simp at h1
      have hz := hszn hne'
      subst hz
      have := hc (l + i) e j c h1.1 hj
      rw [Nat.add_mul] at this
      rw [show o + l * sz + (i * sz + j) = o + (l * sz + i * sz + j) from by omega]
      exact this
theorem s_sliceTo {t e : TypeId} {x y : Operand} {n : Nat} {es : List AV} {own : Option Nat} {k : IntKind} {i : Int} {lx ly : List (Nat × AV)} (ht : SliceT P t e n) (hx : Opd x (.slice es own) lx) (hy : Opd y (.int k i) ly)
    (h0 : 0 ≤ i) (hi : i ≤ es.length) (hs : ∀ e ∈ es, e.cells.length = n) : Step P ops ⟨some d, .slice t x none (some y) none, ty, pos, aft, none⟩ { rT := lx ++ ly, wT := some (d, .slice (es.take i.toNat) none) } :=
  Step.calc (rM := []) (by simp) fun g w a mem _ hT hM => by
    have h := hx g w a hT.left
    have hyi := int_of (hy g w a hT.right)
    generalize hu : a.eval x = u at h
    have h' := h
    cases h with
    | slice b o vals hl hA hsz hc hr hle how =>
      rename_i A len cap sz
      have hr' := rep_cut h' hs (Nat.zero_le i.toNat) (by omega)
      refine ⟨_, ?_, by rw [List.drop_zero] at hr'; exact hr'⟩
      simp [execOp, hu, hyi, Instr.sliceAt, run_underlying ht.1, Instr.slice, Instr.sliceBounds, bound_ok (P := P) w h0 (show i ≤ (cap : Int) by omega), run_size ht.2]
theorem s_sliceFrom {t e : TypeId} {x y : Operand} {n : Nat} {es : List AV} {own : Option Nat} {k : IntKind} {i : Int} {lx ly : List (Nat × AV)} (ht : SliceT P t e n) (hx : Opd x (.slice es own) lx) (hy : Opd y (.int k i) ly)
    (h0 : 0 ≤ i) (hi : i ≤ es.length) (hs : ∀ e ∈ es, e.cells.length = n) : Step P ops ⟨some d, .slice t x (some y) none none, ty, pos, aft, none⟩ { rT := lx ++ ly, wT := some (d, .slice (es.drop i.toNat) none) } :=
  Step.calc (rM := []) (by simp) fun g w a mem _ hT hM => by
    have h := hx g w a hT.left
    have hyi := int_of (hy g w a hT.right)
    generalize hu : a.eval x = u at h
    have h' := h
    cases h with
    | slice b o vals hl hA hsz hc hr hle how =>
      rename_i A len cap sz
      have hr' := rep_cut h' hs (show i.toNat ≤ es.length by omega) (Nat.le_refl _)
      refine ⟨_, ?_, by rw [List.take_length] at hr'; exact hr'⟩
      simp [execOp, hu, hyi, Instr.sliceAt, run_underlying ht.1, Instr.slice, Instr.sliceBounds, bound_ok (P := P) w h0 (show i ≤ (len : Int) by omega), run_size ht.2, hl]
def bytesA (s : ByteArray) : List AV := s.data.toList.map fun b => .int .u8 b.toNat
theorem s_bytes {s t e : TypeId} {x : Operand} {v : ByteArray} {lx : List (Nat × AV)} (h1 : P.underlying s = some .string) (h2 : P.underlying t = some (.slice e)) (h3 : P.underlying e = some (.int .u8)) (hx : Opd x (.str v) lx) :
    Step P ops ⟨some d, .convert s t x, ty, pos, aft, none⟩ { rT := lx, wT := some (d, .slice (bytesA v) none) } :=
  Step.value rfl rfl (by simp) fun g w a mem hi hT hM _ hp => by
    have hxv := str_of (hx g w a hT)
    let c := Question.cut (.appendCap v.size 0 e) (w.tape w.drawn (.appendCap v.size 0 e))
    have hge : v.size ≤ c := by simp only [c, Question.cut]; omega
    let arr : Array Value := (v.data.map fun b => Value.int .u8 b.toNat) ++ Array.replicate (c - v.size) (.int .u8 0)
    let w1 : World := { w with drawn := w.drawn + 1 }
    let w2 : World := w1.alloc (.cells arr e)
    let w3 : World := w2.freeze ⟨w.heap.size, arr.size, none⟩ 1
    have hrun : (execOp a.eval ⟨some d, .convert s t x, ty, pos, aft, none⟩).run P w = .ok (.value (.slice (some ⟨w.heap.size, 0, none⟩) v.size c)) w3 := by
      have hsh : w2.shape? w.heap.size = some (e, arr.size) := by
        have : w2.heap[w.heap.size]? = some (.cells arr e (0, 0)) := alloc_new w1 _
        simp [World.shape?, this]
      simp only [execOp, hxv, convert, Sem.run_bind, run_underlying h1, run_underlying h2, run_underlying h3, Result.andThen_ok, Conv.stringToBytes, run_choose, Question.forced, Bool.false_eq_true, if_false, newRow, run_newObj, Sem.run_pure, markStringish, run_shape]
      have e1 : ({ heap := w.heap.push (.cells arr e), tape := w.tape, drawn := w.drawn + 1, os := w.os, output := w.output } : World) = w2 := rfl
      change ((Sem.run P (match w2.shape? w.heap.size with | some (_, n) => freeze { block := w.heap.size, off := n } 1 | _ => pure ()) w2).andThen fun _ w' => Result.ok (Value.slice (some ⟨w.heap.size, 0, none⟩) v.size c) w').andThen (fun a w' => Result.ok (Next.value a) w') = _
      rw [hsh]
      rfl
    have hst0 : Ext g w g w1 := ⟨rfl, (Below.refl _ _).drew, fun _ _ h => ⟨h, rfl⟩, fun _ _ _ => rfl, fun s hs => by cases hs⟩
    have hinv0 : Inv g w1 mem := hi.keep hst0 (fun _ _ _ _ => rfl) (fun _ _ _ _ _ h => h) hi.lt hi.room
    obtain ⟨hst1, hinv1⟩ := hinv0.newImm (.cells arr e)
    have hold : ∀ b, b ≠ w.heap.size → w3.heap[b]? = w2.heap[b]? := by
      intro b hne
      simp only [w3, World.freeze, Nat.one_ne_zero, if_false, Array.getElem?_modify]
      rw [if_neg (Ne.symm hne)]
    have hnew : ∃ fr, w3.heap[w.heap.size]? = some (.cells arr e fr) := by
      have : w2.heap[w.heap.size]? = some (.cells arr e (0, 0)) := alloc_new w1 _
      refine ⟨(arr.size, arr.size + 1), ?_⟩
      simp only [w3, World.freeze, Nat.one_ne_zero, if_false, Array.getElem?_modify, if_true, this, Option.map_some]
      rfl
    obtain ⟨fr, hnew⟩ := hnew
    have hsz : w3.heap.size = w2.heap.size := by simp [w3, World.freeze]
    have hcell : ∀ a : Addr, w3.cell? a = w2.cell? a := by
      intro a
      by_cases hb : a.block = w.heap.size
      · have : w2.heap[w.heap.size]? = some (.cells arr e (0, 0)) := alloc_new w1 _
        simp only [World.cell?, hb, hnew, this]
      · simp only [World.cell?, hold _ hb]
    have hst2 : Ext (g.sealed w.heap.size) w2 (g.sealed w.heap.size) w3 := by
      refine ⟨rfl, ⟨rfl, rfl, rfl, by rw [hsz]; exact Nat.le_refl _, fun k hk => hold k ?_⟩, fun b o h => ⟨h, hcell _⟩, fun _ _ _ => rfl, fun s hs => by cases hs⟩
      have := hi.base
      have hk' : k < g.base := hk
      omega
    have hinv2 : Inv (g.sealed w.heap.size) w3 mem := hinv1.keep hst2 (fun e' b he hb => by
      have := ((hi.ok e' he).block_lt (b := b) ?_).2
      · exact hold b (by omega)
      · have := (hi.ok e' he).kept (hst0.trans hst1) (fun b' hb' => alloc_old w1 _ ((hi.ok e' he).block_lt hb').2) (fun b' o hb' hi' => by
          rcases hi' with h | h
          · exact h
          · have := ((hi.ok e' he).block_lt hb').2
            have h2 : b' = w.heap.size := h
            omega)
        rw [← this.2]; exact hb) (fun _ _ _ _ _ h => h) (fun b o h => by rw [hsz]; exact hinv1.lt b o h) hinv1.room
    refine ⟨_, _, _, hrun, (hst0.trans hst1).trans hst2, hinv2, fun d' v' e' => ?_⟩
    injection e' with e'
    injection e' with _ e'
    subst e'
    have hfl : (bytesA v).flatMap AV.cells = bytesA v := by
      have : ∀ l : List UInt8, (l.map fun b => AV.int .u8 b.toNat).flatMap AV.cells = l.map fun b => AV.int .u8 b.toNat := by
        intro l
        induction l with
        | nil => rfl
        | cons x r ih => rw [List.map_cons, List.flatMap_cons, ih]; rfl
      exact this _
    have hlen : (bytesA v).length = v.size := by
      simp only [bytesA, List.length_map, Array.length_toList]
      rfl
    rw [← hlen]
    refine rep_row (n := 1) hnew (fun e he => ?_) (fun i u x hu hx' => ?_) ?_ (fun o _ => .inr rfl) (by rw [hlen]; exact hge) (fun s hs => by cases hs)
    · simp only [bytesA, List.mem_map] at he
      obtain ⟨b, _, rfl⟩ := he
      rfl
    · rw [hfl] at hx'
      have hlt : i < v.data.size := by
        have := (List.getElem?_eq_some_iff.1 hx').1
        simpa [bytesA] using this
      simp only [arr] at hu
      rw [Array.getElem?_append_left (by simpa using hlt)] at hu
      simp only [bytesA, List.getElem?_map, Array.getElem?_toList] at hx'
      simp only [Array.getElem?_map] at hu
      cases hv : v.data[i]? with
      | none => rw [hv] at hu; cases hu
      | some b =>
        rw [hv] at hu hx'
        simp only [Option.map_some, Option.some.injEq] at hu hx'
        subst hu; subst hx'
        exact .int _ _
    · rw [hfl, hlen]
      simp only [arr, Array.size_append, Array.size_map]
      show v.data.size ≤ _
      omega
end
end Go.Proofs.Yteomgedahkpnlaa
end
section

namespace Go.Proofs.Yteomgedahkpnlaa
open Go.RowKit
def Callable (P : Program) (n : FuncId) : Prop := ∃ fn, P.funcs[n]? = some fn ∧ (fn.name == "runtime.NumGoroutine") = false ∧ fn.body.isNone = false
theorem run_callFunc {P : Program} {n : FuncId} (h : Callable P n) (args : Array Value) (w : World) : (callFunc n args).run P w = .ok (.enter n args) w := by
  obtain ⟨fn, h1, h2, h3⟩ := h
  simp only [callFunc, Sem.run_bind, run_program, Result.andThen_ok, h1]
  rw [if_neg (by rw [h2]; simp), if_neg (by rw [h3]; simp)]
  rfl
theorem Calls.inF {P : Program} {F : Fence} (hF : Fr F) {f : FuncId} {args : Array Value} {w : World} {R : Ending → World → Prop} (h : Calls P f args w R) (n : Nat) : CallsIn F n P f args w R := by
  obtain ⟨_, h'⟩ := (callsIn_wide (n := n)).2 h
  refine ⟨hF.fn f, fun cs hr => ?_⟩
  obtain ⟨e, w', fr, h1, h2, h3⟩ := h' cs (room_wide _)
  exact ⟨e, w', fr, h1, by rw [hF.wide]; exact h2, h3⟩
def EffAt (P : Program) (n : FuncId) (args : List AV) (rM : List (Nat × Ent)) (nd : Option (List Ent → Prop)) (r : AV) (wM : Option (Nat × Ent)) : Prop :=
  ∀ mem : List Ent, (∀ p e, (p, e) ∈ rM → mem[p]? = some e) → (∀ X, nd = some X → X mem) → (∀ p e, wM = some (p, e) → p < mem.length) → Meets P n args mem fun r' mem' => r' = r ∧ mem' = setM mem wM
theorem Pure.eff {P : Program} {n : FuncId} {args : List AV} {r : AV} (h : Pure P n args r) : EffAt P n args [] none r none := fun mem _ _ _ => h mem
theorem RepAll.append {g : Gh} {w : World} {v1 v2 : Array Value} {a1 a2 : List AV} (h1 : RepAll g w v1 a1) (h2 : RepAll g w v2 a2) : RepAll g w (v1 ++ v2) (a1 ++ a2) := by
  refine ⟨by simp [h1.1, h2.1], fun i v a hv ha => ?_⟩
  by_cases hi : i < v1.size
  · rw [Array.getElem?_append_left hi] at hv
    rw [List.getElem?_append_left (by rw [← h1.1]; exact hi)] at ha
    exact h1.2 i v a hv ha
  · rw [Array.getElem?_append_right (by omega)] at hv
    rw [List.getElem?_append_right (by rw [← h1.1]; omega), ← h1.1] at ha
    exact h2.2 _ v a hv ha
section
variable {P : Program} {ops : Array Oper} {ty : TypeId} {pos : String} {aft : Array Edge} {d : Nat}
theorem call_go {dst : Option Nat} {n : FuncId} {f : Operand} {as_ : List Operand} {ts : Array TypeId} {fa ca avs : List AV} {lf la : List (Nat × AV)} {rM : List (Nat × Ent)} {nd : Option (List Ent → Prop)} {r : AV} {wM : Option (Nat × Ent)}
    (hf : Opd f (.func n fa ca) lf) (ha : Opds as_ avs la) (hc : Callable P n) (hm : EffAt P n (fa ++ avs ++ ca) rM nd r wM)
    {F : Fence} (hF : Fr F) {g : Gh} {w : World} {a : Act} {mem : List Ent} (hi : Inv g w mem) (hT : HasT g w a (lf ++ la)) (hM : ∀ p e, (p, e) ∈ rM → mem[p]? = some e) (hp : ∀ p e, wM = some (p, e) → p < mem.length) (hN : ∀ X, nd = some X → X mem)
    (K : Act → World → Prop) (Q : Exit → Act → World → Prop) (hK : ∀ g' w' u, Ext g w g' w' → Inv g' w' (setM mem wM) → Rep g' w' u r → K (a.put dst u) w') :
    Oper.wpIn F 0 P ⟨dst, .call { callee := .value f, args := as_.toArray, argTypes := ts }, ty, pos, aft, none⟩ a w K Q := by
  refine ⟨fun f _ => hF.fn f, ?_⟩
  rw [Oper.semAt_eq _ _ _ (by simp)]
  have h := hf g w a hT.left
  have hargs := ha.rep hT.right
  generalize hu : a.eval f = u at h
  cases h with
  | func h1 h2 r1 r2 =>
    rename_i first caps
    have hall : RepAll g w (first ++ (as_.map a.eval).toArray ++ caps) (fa ++ avs ++ ca) := RepAll.append (RepAll.append ⟨h1, r1⟩ hargs) ⟨h2, r2⟩
    have hrun : (execOp a.eval ⟨dst, .call { callee := .value f, args := as_.toArray, argTypes := ts }, ty, pos, aft, none⟩).run P w = .ok (.enter n (first ++ (as_.map a.eval).toArray ++ caps)) w := by
      simp [execOp, resolve, hu, Deferred.ofValue, invoke, run_callFunc hc]
    rw [hrun, Oper.uponIn_enter]
    refine ⟨fun hd => by rw [hF.depth] at hd; simp at hd, Calls.inF hF ?_ _⟩
    refine (hm mem hM hN hp g w _ hi hall).mono ?_
    rintro e w' ⟨v, r', mem', g', rfl, ⟨rfl, rfl⟩, h3, h4, h5⟩
    exact hK g' w' v h5 h4 h3
theorem s_callE {n : FuncId} {f : Operand} {as_ : List Operand} {ts : Array TypeId} {fa ca avs : List AV} {lf la : List (Nat × AV)} {rM : List (Nat × Ent)} {nd : Option (List Ent → Prop)} {r : AV} {wM : Option (Nat × Ent)}
    (hf : Opd f (.func n fa ca) lf) (ha : Opds as_ avs la) (hc : Callable P n) (hm : EffAt P n (fa ++ avs ++ ca) rM nd r wM) :
    Step P ops ⟨some d, .call { callee := .value f, args := as_.toArray, argTypes := ts }, ty, pos, aft, none⟩ { rT := lf ++ la, rM := rM, wT := some (d, r), wM := wM, need := nd } := by
  refine ⟨rfl, fun F hF g w a mem hi hT hM hs hp hN K Q hK => ?_⟩
  simp only [Region.wanted, if_true]
  exact call_go hf ha hc hm hF hi hT hM hp hN K Q fun g' w' u h1 h2 h3 => hK g' w' u h1 h2 fun d' v' e => by injection e with e; injection e with _ e; subst e; exact h3
def EffR (P : Program) (n : FuncId) (args : List AV) (es : List Ent) (r : AV) : Prop := ∀ mem : List Ent, (∀ e ∈ es, e ∈ mem) → Meets P n args mem fun r' mem' => r' = r ∧ mem' = mem
def Has (es mem : List Ent) : Prop := ∀ e ∈ es, e ∈ mem
theorem Has.nil (mem : List Ent) : Has [] mem := fun e he => by cases he
theorem Has.at_ {es mem : List Ent} {e : Ent} (p : Nat) (h : mem[p]? = some e) (r : Has es mem) : Has (e :: es) mem := fun x hx => by
  rcases List.mem_cons.1 hx with rfl | hx
  · exact List.mem_of_getElem? h
  · exact r x hx
theorem Has.cons {es mem : List Ent} {e : Ent} (h : e ∈ mem) (r : Has es mem) : Has (e :: es) mem := fun x hx => by
  rcases List.mem_cons.1 hx with rfl | hx
  · exact h
  · exact r x hx
theorem Has.right {es mem pre : List Ent} (h : Has es mem) : Has es (pre ++ mem) := fun e he => List.mem_append_right _ (h e he)
theorem Has.left {es mem post : List Ent} (h : Has es mem) : Has es (mem ++ post) := fun e he => List.mem_append_left _ (h e he)
theorem Has.app {es es' mem : List Ent} (h : Has es mem) (k : Has es' mem) : Has (es ++ es') mem := fun e he => by
  rcases List.mem_append.1 he with he | he
  · exact h e he
  · exact k e he
theorem Pure.effR {P : Program} {n : FuncId} {args : List AV} {r : AV} (h : Pure P n args r) {es : List Ent} : EffR P n args es r := fun mem _ => h mem
theorem EffR.pure {P : Program} {n : FuncId} {args : List AV} {r : AV} (h : EffR P n args [] r) : Pure P n args r := fun mem => h mem (Has.nil mem)
theorem s_callR {n : FuncId} {f : Operand} {as_ : List Operand} {ts : Array TypeId} {fa ca avs : List AV} {lf la : List (Nat × AV)} {es : List Ent} {r : AV}
    (hf : Opd f (.func n fa ca) lf) (ha : Opds as_ avs la) (hc : Callable P n) (hm : EffR P n (fa ++ avs ++ ca) es r) :
    Step P ops ⟨some d, .call { callee := .value f, args := as_.toArray, argTypes := ts }, ty, pos, aft, none⟩ { rT := lf ++ la, wT := some (d, r), need := some (Has es) } :=
  s_callE (rM := []) (wM := none) hf ha hc fun mem _ hN _ => hm mem (hN _ rfl)
theorem s_call {n : FuncId} {f : Operand} {as_ : List Operand} {ts : Array TypeId} {avs : List AV} {lf la : List (Nat × AV)} {r : AV}
    (hf : Opd f (.func n [] []) lf) (ha : Opds as_ avs la) (hc : Callable P n) (hm : Pure P n avs r) :
    Step P ops ⟨some d, .call { callee := .value f, args := as_.toArray, argTypes := ts }, ty, pos, aft, none⟩ { rT := lf ++ la, wT := some (d, r) } :=
  s_callE hf ha hc (by rw [List.nil_append, List.append_nil]; exact hm.eff)
end
section
variable {P : Program} {fn : Func} {nt : Nat} {S : St}
def rvSem (tmps : Array Value) : ResultVar → Sem Value
  | .tmp t => Sem.pure (tmps.getD t undef)
  | .cell x t => do loadVar t (← asAddr (tmps.getD x undef))
theorem results_rv (fn : Func) (tmps : Array Value) : results fn tmps = (do let vs ← fn.results.mapM (rvSem tmps); Sem.pure (if h : vs.size = 1 then vs[0] else .tuple vs)) := by
  unfold results
  congr 1
def ResOK (P : Program) (nt : Nat) (S : St) (rv : ResultVar) (v : AV) : Prop := ∀ g w a hid, Rel nt g w a S hid → ∃ u, (rvSem a.tmps rv).run P w = .ok u w ∧ Rep g w u v
theorem res_tmp {t : Nat} {v : AV} (h : getT S.env t = v) (ht : Nat.blt t nt = true) : ResOK P nt S (.tmp t) v := by
  intro g w a hid hr
  have := hr.eval (c := t) (by simpa [Nat.blt_eq] using ht)
  rw [h] at this
  exact ⟨_, rfl, this⟩
theorem res_cell {x t s n : Nat} {cs l : List AV} (p : Nat) (h : getT S.env x = .ptr s 0) (hx : Nat.blt x nt = true) (hm : S.mem[p]? = some (.box s cs)) (ht : TyA P t n) (hc : cs.take n = l) (hn : l.length = n) : ResOK P nt S (.cell x t) (.agg l) := by
  intro g w a hid hr
  have hp := hr.eval (c := x) (by simpa [Nat.blt_eq] using hx)
  rw [h] at hp
  simp only [Act.eval] at hp
  generalize hu : a.tmps.getD x undef = u at hp
  cases hp with
  | ptr hs =>
    have hm' : (S.mem ++ hid.map Ent.mark)[p]? = some (.box s cs) := by rw [List.getElem?_append_left (List.getElem?_eq_some_iff.1 hm).1]; exact hm
    obtain ⟨arr, tt, hb, _, hrc, _, hcell⟩ := box_cell hr.inv hm' hs
    have hlen : n ≤ cs.length := by rw [← hc] at hn; simp only [List.length_take] at hn; omega
    have hrun : (loadCells ⟨_, 0, none⟩ n).run P w = .ok ((List.range n).map fun j => arr.getD (0 + j) undef).toArray w :=
      run_cells (P := P) (fun j => arr.getD (0 + j) undef) n fun j hj => by
        have hlt : 0 + j < arr.size := by rw [hrc.1]; omega
        rw [hcell (0 + j) _ (Array.getElem?_eq_getElem hlt), Array.getD_eq_getD_getElem?, Array.getElem?_eq_getElem hlt]
        rfl
    refine ⟨_, by simp only [rvSem, hu]; simp [asAddr, loadVar, run_aggr ht, run_size ht.choose_spec.2.2, hrun]; rfl, .agg (by simp [hn]) fun i v x hv hx => ?_⟩
    rw [← hc, List.getElem?_take] at hx
    simp only [List.getElem?_toArray, List.getElem?_map] at hv
    split at hx
    · rename_i hin
      rw [List.getElem?_range hin] at hv
      have hlt : i < arr.size := by rw [hrc.1]; omega
      simp only [Option.map_some, Nat.zero_add, Array.getD_eq_getD_getElem?, Array.getElem?_eq_getElem hlt, Option.getD_some, Option.some.injEq] at hv
      exact hrc.2 i v x (by rw [← hv]; exact Array.getElem?_eq_getElem hlt) hx
    · cases hx
theorem result0 (h : fn.results = #[]) : Result P fn nt S (.tuple []) := fun g w a hid hr => ⟨.tuple #[], results_none h _ _ _, .tuple rfl fun i v a h => by simp at h⟩
theorem result1 {r1 : ResultVar} {v1 : AV} (h : fn.results = #[r1]) (h1 : ResOK P nt S r1 v1) : Result P fn nt S v1 := fun g w a hid hr => by
  obtain ⟨u1, e1, k1⟩ := h1 g w a hid hr
  refine ⟨u1, ?_, k1⟩
  rw [results_rv, h]
  simp [e1]
theorem result2 {r1 r2 : ResultVar} {v1 v2 : AV} (h : fn.results = #[r1, r2]) (h1 : ResOK P nt S r1 v1) (h2 : ResOK P nt S r2 v2) : Result P fn nt S (.tuple [v1, v2]) := fun g w a hid hr => by
  obtain ⟨u1, e1, k1⟩ := h1 g w a hid hr
  obtain ⟨u2, e2, k2⟩ := h2 g w a hid hr
  refine ⟨.tuple #[u1, u2], ?_, .tuple rfl fun i v x hv hx => ?_⟩
  · rw [results_rv, h]
    simp [e1, e2]
  · match i with
    | 0 => simp at hv hx; subst hv; subst hx; exact k1
    | 1 => simp at hv hx; subst hv; subst hx; exact k2
    | i + 2 => simp at hv
theorem result3 {r1 r2 r3 : ResultVar} {v1 v2 v3 : AV} (h : fn.results = #[r1, r2, r3]) (h1 : ResOK P nt S r1 v1) (h2 : ResOK P nt S r2 v2) (h3 : ResOK P nt S r3 v3) : Result P fn nt S (.tuple [v1, v2, v3]) := fun g w a hid hr => by
  obtain ⟨u1, e1, k1⟩ := h1 g w a hid hr
  obtain ⟨u2, e2, k2⟩ := h2 g w a hid hr
  obtain ⟨u3, e3, k3⟩ := h3 g w a hid hr
  refine ⟨.tuple #[u1, u2, u3], ?_, .tuple rfl fun i v x hv hx => ?_⟩
  · rw [results_rv, h]
    simp [e1, e2, e3]
  · match i with
    | 0 => simp at hv hx; subst hv; subst hx; exact k1
    | 1 => simp at hv hx; subst hv; subst hx; exact k2
    | 2 => simp at hv hx; subst hv; subst hx; exact k3
    | i + 3 => simp at hv
theorem Result.free {es : List AV} {own : Option Nat} (h : Result P fn nt S (.slice es own)) : Result P fn nt S (.slice es none) := fun g w a hid hr => by
  obtain ⟨u, h1, h2⟩ := h g w a hid hr
  refine ⟨u, h1, ?_⟩
  cases h2 with
  | slice b o vals hl hA hsz hc hr hle how => exact .slice b o vals hl hA hsz hc hr hle (fun s hs => by cases hs)
end
def FinQ (P : Program) (fn : Func) (nh : Nat) (R : AV → List Ent → Prop) (ex : Exit) (S : St) : Prop := (ex = .ret ∨ ex = .normal) ∧ ∃ r, Result P fn fn.ntmps S r ∧ R r (S.mem.drop nh)
theorem FinQ.ret {P : Program} {fn : Func} {S : St} {r : AV} {R : AV → List Ent → Prop} {nh : Nat} (h : Result P fn fn.ntmps S r) (hR : R r (S.mem.drop nh)) : FinQ P fn nh R .ret S := ⟨.inl rfl, r, h, hR⟩
theorem FinQ.normal {P : Program} {fn : Func} {S : St} {r : AV} {R : AV → List Ent → Prop} {nh : Nat} (h : Result P fn fn.ntmps S r) (hR : R r (S.mem.drop nh)) : FinQ P fn nh R .normal S := ⟨.inr rfl, r, h, hR⟩
theorem Meets.body {P : Program} {f : FuncId} {fn : Func} {c : Code} {args : List AV} {mem : List Ent} {R : AV → List Ent → Prop} (nh : Nat) (hf : P.funcs[f]? = some fn) (hb : fn.body = some c)
    (hn : Nat.ble args.length fn.ntmps = true) (h : AC Fence.wide P fn.ntmps c ⟨argEnv 0 args, List.replicate nh .hole ++ mem⟩ (FinQ P fn nh R)) : Meets P f args mem R := Meets.of_body nh hf hb hn h
theorem RegOK.mk {P : Program} {nt : Nat} {ops : Array Oper} {draw : Bool} {S : St} {σ : Nat → Nat} {next : St → Prop} {sps : List Spec} (ks : List Nat) (Fin : St) (h1 : Steps P ops ops.toList sps) (h2 : getsT sps S = wantsT sps) (h3 : getsM sps S = wantsM sps)
    (h4 : placesM sps S.mem = true) (h4' : noNeeds sps = true) (h5 : chk nt draw ops.toList sps = true) (h6 : sps.map Spec.sym = symL (sps.map fun sp => sp.sym.isSome) σ 0) (h7 : keepSt ks (finSt sps S) = Fin) (h8 : next Fin) : RegOK P nt ops draw S σ next :=
  ⟨sps, ks, Fin, h1, h2, h3, h4, noNeeds_of _ _ h4', h5, h6, h7, h8⟩
theorem RegOK.mk1 {P : Program} {nt : Nat} {ops : Array Oper} {draw : Bool} {S : St} {σ : Nat → Nat} {next : St → Prop} {sps : List Spec} (ks : List Nat) (Fin : St) (h1 : Steps P ops ops.toList sps)
    (h : (getsT sps S, getsM sps S, placesM sps S.mem && (noNeeds sps && chk nt draw ops.toList sps), sps.map Spec.sym, keepSt ks (finSt sps S)) = (wantsT sps, wantsM sps, true, symL (sps.map fun sp => sp.sym.isSome) σ 0, Fin)) (h8 : next Fin) : RegOK P nt ops draw S σ next := by
  simp only [Prod.mk.injEq, Bool.and_eq_true] at h
  exact ⟨sps, ks, Fin, h1, h.1, h.2.1, h.2.2.1.1, noNeeds_of _ _ h.2.2.1.2.1, h.2.2.1.2.2, h.2.2.2.1, h.2.2.2.2, h8⟩
theorem RegOK.mkN {P : Program} {nt : Nat} {ops : Array Oper} {draw : Bool} {S : St} {σ : Nat → Nat} {next : St → Prop} {sps : List Spec} (ks : List Nat) (Fin : St) (h1 : Steps P ops ops.toList sps) (h2 : getsT sps S = wantsT sps) (h3 : getsM sps S = wantsM sps)
    (h4 : placesM sps S.mem = true) (h4' : needsM sps S) (h5 : chk nt draw ops.toList sps = true) (h6 : sps.map Spec.sym = symL (sps.map fun sp => sp.sym.isSome) σ 0) (h7 : keepSt ks (finSt sps S) = Fin) (h8 : next Fin) : RegOK P nt ops draw S σ next :=
  ⟨sps, ks, Fin, h1, h2, h3, h4, h4', h5, h6, h7, h8⟩
section
variable {F : Fence} {P : Program} {nt : Nat} {S : St} {Q : Exit → St → Prop}
theorem AC.rseq (hF : Fr F) (hm : P.follows .mixedOrders = true) {id : Nat} {ops : Array Oper} {draw : Bool} {y : Code} (h : ∀ σ, RegOK P nt ops draw S σ (fun S' => AC F P nt y S' Q)) : AC F P nt (.seq (.region id ops draw) y) S Q := .seq (.region hF hm h)
theorem AC.rend (hF : Fr F) (hm : P.follows .mixedOrders = true) {id : Nat} {ops : Array Oper} {draw : Bool} (h : ∀ σ, RegOK P nt ops draw S σ (fun S' => Q .normal S')) : AC F P nt (.region id ops draw) S Q := .region hF hm h
theorem AC.cseq {c : Nat} {x y z : Code} (b : Bool) (hb : getT S.env c = .bool b) (hc : Nat.blt c nt = true) (ht : b = true → AC F P nt x S (thenQ (fun S' => AC F P nt z S' Q) Q)) (hf : b = false → AC F P nt y S (thenQ (fun S' => AC F P nt z S' Q) Q)) :
    AC F P nt (.seq (.cond (.tmp c) x y) z) S Q := .seq (.cond hb ht hf hc)
theorem AC.cend {c : Nat} {x y : Code} (b : Bool) (hb : getT S.env c = .bool b) (hc : Nat.blt c nt = true) (ht : b = true → AC F P nt x S Q) (hf : b = false → AC F P nt y S Q) : AC F P nt (.cond (.tmp c) x y) S Q := .cond hb ht hf hc
theorem AC.bseq {id : Nat} {c y : Code} (h : AC F P nt c S (blockQ id (thenQ (fun S' => AC F P nt y S' Q) Q))) : AC F P nt (.seq (.block id c) y) S Q := .seq (.block h)
theorem thenQ_n {next : St → Prop} (h : next S) : thenQ next Q .normal S := h
theorem thenQ_r {next : St → Prop} (h : Q .ret S) : thenQ next Q .ret S := h
theorem thenQ_x {next : St → Prop} {id : Nat} (h : Q (.exit id) S) : thenQ next Q (.exit id) S := h
theorem blockQ_n {id : Nat} (h : Q .normal S) : blockQ id Q .normal S := h
theorem blockQ_r {id : Nat} (h : Q .ret S) : blockQ id Q .ret S := h
theorem blockQ_x {id : Nat} (h : Q .normal S) : blockQ id Q (.exit id) S := by simp only [blockQ, if_true]; exact h
end
end Go.Proofs.Yteomgedahkpnlaa
end
section

namespace Go.Proofs.Yteomgedahkpnlaa
open Go.RowKit
abbrev I (n : Int) : AV := .int .i64 n
abbrev U (n : UInt8) : AV := .int .u8 n.toNat
theorem Opd.any (o : Operand) : Opd o .top [] := fun _ _ _ _ => .top _
theorem gT {b : Bool} : ∀ g w u, Rep g w u (.bool b) → (match u with | .bool c => (some c == some true) = b | _ => b = false) := by
  intro g w u h; cases h; cases b <;> rfl
theorem gF {b : Bool} : ∀ g w u, Rep g w u (.bool b) → (match u with | .bool c => (some c == some false) = (!b) | _ => (!b) = false) := by
  intro g w u h; cases h; cases b <;> rfl
theorem gcT {e b : Bool} : ∀ g w u, Rep g w u (.cond e (.bool b)) → (match u with | .bool c => (some c == some true) = (e && b) | _ => (e && b) = false) := by
  intro g w u h
  cases h with
  | condT he h => subst he; cases h; cases b <;> rfl
  | condF he => subst he; rfl
theorem gcF {e b : Bool} : ∀ g w u, Rep g w u (.cond e (.bool b)) → (match u with | .bool c => (some c == some false) = (e && !b) | _ => (e && !b) = false) := by
  intro g w u h
  cases h with
  | condT he h => subst he; cases h; cases b <;> rfl
  | condF he => subst he; rfl
theorem andMk {a b : Bool} (h : a = true) (k : b = true) : (a && b) = true := by rw [h, k]; rfl
theorem notMk {a : Bool} (h : a = false) : (!a) = true := by rw [h]; rfl
theorem iD {p : Prop} [Decidable p] : decide p = true ↔ p := decide_eq_true_iff
theorem iB {b : Bool} : b = true ↔ b = true := Iff.rfl
theorem iA {a b : Bool} {p q : Prop} (h : a = true ↔ p) (k : b = true ↔ q) : (a && b) = true ↔ p ∧ q := by rw [Bool.and_eq_true, h, k]
theorem iO {a b : Bool} {p q : Prop} (h : a = true ↔ p) (k : b = true ↔ q) : (a || b) = true ↔ p ∨ q := by rw [Bool.or_eq_true, h, k]
theorem iN {a : Bool} {p : Prop} (h : a = true ↔ p) : (!a) = true ↔ ¬ p := by rw [← h]; cases a <;> simp
theorem iF {a : Bool} {p : Prop} (h : a = true ↔ p) (k : a = false) : ¬ p := by rw [← h, k]; simp
section
variable {P : Program} {ops : Array Oper} {ty : TypeId} {pos : String} {aft : Array Edge} {d : Nat}
theorem s_and' {c : Operand} {p q e : Bool} {lc : List (Nat × AV)} {t : Nat} (he : p = true → e = true) (hc : Opd c (.bool p) lc) : Step P ops ⟨some d, .pick c (.tmp t) (.const (.bool false)), ty, pos, aft, none⟩ { rT := lc ++ [(t, .cond e (.bool q))], wT := some (d, .bool (p && q)) } :=
  Step.calc (rM := []) (by simp) fun g w a mem hi hT hM => by
    have h1 := bool_of (hc g w a hT.left)
    refine ⟨_, by simp [execOp, h1, asBool]; rfl, ?_⟩
    cases p with
    | true => simpa using Opd.tmpC (he rfl) t (.bool q) g w a hT.right
    | false => exact .bool false
theorem s_or' {c : Operand} {p q e : Bool} {lc : List (Nat × AV)} {t : Nat} (he : p = false → e = true) (hc : Opd c (.bool p) lc) : Step P ops ⟨some d, .pick c (.const (.bool true)) (.tmp t), ty, pos, aft, none⟩ { rT := lc ++ [(t, .cond e (.bool q))], wT := some (d, .bool (p || q)) } :=
  Step.calc (rM := []) (by simp) fun g w a mem hi hT hM => by
    have h1 := bool_of (hc g w a hT.left)
    refine ⟨_, by simp [execOp, h1, asBool]; rfl, ?_⟩
    cases p with
    | false => simpa using Opd.tmpC (he rfl) t (.bool q) g w a hT.right
    | true => exact .bool true
theorem s_ixM {α : Type} {l : List α} {f : α → AV} (df : α) {t e : TypeId} {x y : Operand} {n : Nat} {own : Option Nat} {k : IntKind} {i : Int} {lx ly : List (Nat × AV)} (ht : SliceT P t e n) (hx : Opd x (.slice (l.map f) own) lx) (hy : Opd y (.int k i) ly)
    (h : 0 ≤ i ∧ i < l.length) (hn : (f (l.getD i.toNat df)).cells.length = n) : Step P ops ⟨some d, .indexAddr t x y, ty, pos, aft, none⟩ { rT := lx ++ ly, wT := some (d, .eptr (f (l.getD i.toNat df)) 0) } :=
  s_indexAddr ht hx hy h.1 (by
    rw [List.getElem?_map, List.getD_eq_getElem?_getD, List.getElem?_eq_getElem (by omega)]
    rfl) hn
theorem s_lenM {α : Type} {l : List α} {f : α → AV} {x : Operand} {t e : TypeId} {n : Nat} {own : Option Nat} {lx : List (Nat × AV)} (ht : SliceT P t e n) (hx : Opd x (.slice (l.map f) own) lx) :
    Step P ops ⟨some d, .call { callee := .builtin .len, args := #[x], argTypes := #[t] }, ty, pos, aft, none⟩ { rT := lx, wT := some (d, .int .i64 (l.length : Int)) } := by
  have := s_len (P := P) (ops := ops) (ty := ty) (pos := pos) (aft := aft) (d := d) ht hx
  simpa using this
theorem s_toM {α : Type} {l : List α} {f : α → AV} {t e : TypeId} {x y : Operand} {n : Nat} {own : Option Nat} {k : IntKind} {i : Int} {lx ly : List (Nat × AV)} (ht : SliceT P t e n) (hx : Opd x (.slice (l.map f) own) lx) (hy : Opd y (.int k i) ly)
    (h : 0 ≤ i ∧ i ≤ l.length) (hs : ∀ a, (f a).cells.length = n) : Step P ops ⟨some d, .slice t x none (some y) none, ty, pos, aft, none⟩ { rT := lx ++ ly, wT := some (d, .slice ((l.take i.toNat).map f) none) } := by
  have := s_sliceTo (P := P) (ops := ops) (ty := ty) (pos := pos) (aft := aft) (d := d) ht hx hy h.1 (by simpa using h.2) (by intro e he; obtain ⟨a, _, rfl⟩ := List.mem_map.1 he; exact hs a)
  rwa [← List.map_take] at this
theorem s_fromM {α : Type} {l : List α} {f : α → AV} {t e : TypeId} {x y : Operand} {n : Nat} {own : Option Nat} {k : IntKind} {i : Int} {lx ly : List (Nat × AV)} (ht : SliceT P t e n) (hx : Opd x (.slice (l.map f) own) lx) (hy : Opd y (.int k i) ly)
    (h : 0 ≤ i ∧ i ≤ l.length) (hs : ∀ a, (f a).cells.length = n) : Step P ops ⟨some d, .slice t x (some y) none none, ty, pos, aft, none⟩ { rT := lx ++ ly, wT := some (d, .slice ((l.drop i.toNat).map f) none) } := by
  have := s_sliceFrom (P := P) (ops := ops) (ty := ty) (pos := pos) (aft := aft) (d := d) ht hx hy h.1 (by simpa using h.2) (by intro e he; obtain ⟨a, _, rfl⟩ := List.mem_map.1 he; exact hs a)
  rwa [← List.map_drop] at this
end
theorem Weak.of {S T : St} (hs : List Nat) (h1 : T.env.map (fun x => getT S.env x.1) = T.env.map (·.2)) (h2 : T.mem = hs.foldl (fun m p => m.set p .hole) S.mem) : Weak S T := by
  have key : ∀ (hs : List Nat) (m : List Ent), (hs.foldl (fun m p => m.set p .hole) m).length = m.length ∧ ∀ (i : Nat) e, (hs.foldl (fun m p => m.set p .hole) m)[i]? = some e → e = .hole ∨ m[i]? = some e := by
    intro hs
    induction hs with
    | nil => exact fun m => ⟨rfl, fun i e h => .inr h⟩
    | cons p r ih =>
      intro m
      obtain ⟨k1, k2⟩ := ih (m.set p .hole)
      refine ⟨by simpa using k1, fun i e h => ?_⟩
      rcases k2 i e h with h | h
      · exact .inl h
      · rw [List.getElem?_set] at h
        split at h
        · split at h
          · injection h with h; exact .inl h.symm
          · cases h
        · exact .inr h
  refine ⟨fun x => ?_, by rw [h2]; exact (key hs S.mem).1, fun i e h => by rw [h2] at h; exact (key hs S.mem).2 i e h⟩
  have : ∀ (l : List (Nat × AV)), l.map (fun x => getT S.env x.1) = l.map (·.2) → getT l x = .top ∨ getT l x = getT S.env x := by
    intro l
    induction l with
    | nil => exact fun _ => .inl rfl
    | cons a r ih =>
      intro h
      simp only [List.map_cons, List.cons.injEq] at h
      obtain ⟨k, v⟩ := a
      simp only [getT]
      by_cases hx : x = k
      · rw [if_pos hx, hx]; exact .inr h.1.symm
      · rw [if_neg hx]; exact ih h.2
  exact this _ h1
section
variable {F : Fence} {P : Program} {nt : Nat} {S : St} {Q : Exit → St → Prop}
theorem AC.join {x y : Code} (M : St → Prop) (h : AC F P nt x S (thenQ (fun S' => ∃ T, M T ∧ Weak S' T) Q)) (k : ∀ T, M T → AC F P nt y T Q) : AC F P nt (.seq x y) S Q :=
  .seq (h.mono fun ex S' hq => by
    cases ex with
    | normal => obtain ⟨T, hT, hw⟩ := hq; exact (k T hT).weaken hw
    | _ => exact hq)
theorem AC.loopW {c : Code} (I : Nat → St → Prop) (n0 : Nat) (T0 : St) (h0 : I n0 T0) (hw : Weak S T0) (round : ∀ n S, I n S → AC F P nt c S (thenQ (fun S' => ∃ m, m < n ∧ ∃ T, I m T ∧ Weak S' T) Q)) (hF : Fr F) : AC F P nt (.loop c) S Q :=
  .loop (fun n S => ∃ T, I n T ∧ Weak S T) n0 ⟨T0, h0, hw⟩ (fun n S ⟨T, hI, hw⟩ => ((round n T hI).weaken hw).mono fun ex S' hq => by
    cases ex with
    | normal => obtain ⟨m, hm, T, hT, hw⟩ := hq; exact ⟨m, hm, T, hT, hw⟩
    | _ => exact hq) hF
end
end Go.Proofs.Yteomgedahkpnlaa
end
section

namespace Go.Proofs.Yteomgedahkpnlaa
open Go.RowKit
theorem cg1 {α β : Type} (f : α → β) {a b : α} (h : a = b) : f a = f b := by rw [h]
theorem cg2 {α β γ : Type} (f : α → β → γ) {a b : α} {c d : β} (h : a = b) (k : c = d) : f a c = f b d := by rw [h, k]
theorem cg3 {α β γ δ : Type} (f : α → β → γ → δ) {a b : α} {c d : β} {x y : γ} (h : a = b) (k : c = d) (l : x = y) : f a c x = f b d y := by rw [h, k, l]
def BytesT (P : Program) (e : TypeId) (b : Nat) : Prop := (P.info? e).map (·.bytes) = some b
theorem BytesT.mk {P : Program} {e : TypeId} {b : Nat} (h : (P.info? e).map (·.bytes) = some b) : BytesT P e b := h
theorem append3 {P : Program} (w : World) (base : Nat) (t ty e : TypeId) (i : TypeInfo) (z : Value) (ht : P.underlying t = some (.slice e)) (hi : P.info? e = some i) (hz : i.zero = some z)
    (hzs : z.cells.size = i.size) (hsz : 0 < i.size) (v : Value) (n : Nat) (xs : List Value) (hown : w.ownsRow base e i.size v n xs)
    (a : Addr) (m c : Nat) (news : List Value) (hl : news.length = m * i.size) (hnews : ∀ j u, news[j]? = some u → w.cell? (a.add j) = some u) (h1 : ∀ u ∈ news, u.oneCell' = true)
    (hm : 0 < m) (h63 : n + m ≤ maxLen) (hbytes : (n + m) * i.bytes ≤ 140737488355328) (hbase : base ≤ w.heap.size) :
    ∃ v' w', (Builtin.append_ #[t, t] ty #[v, .slice (some a) m c]).run P w = .ok v' w' ∧ w'.ownsRow base e i.size v' (n + m) (xs ++ news) ∧ w.grownBy w' v.ownBlock ∧
      (v'.ownBlock = v.ownBlock ∨ (v'.ownBlock = some w.heap.size ∧ ∀ k, k < w.heap.size → w'.heap[k]? = w.heap[k]?)) := by
  obtain ⟨v', w', hr, h2, h3, h4, h5⟩ := run_append_own_at (P := P) w base t ty e i z i.size i.bytes ht hi hz rfl rfl hzs hsz v n xs hown a m c news hl hnews h1 h63 hbytes hbase
  refine ⟨v', w', hr, h2, h3, ?_⟩
  rcases h5 with h5 | h5
  · exact .inl h5
  · have hsmall : n + m ≤ 9223372036854775807 := by simp only [maxLen] at h63; omega
    have old : ∀ (u : Value) (o : Obj), (Builtin.append_ #[t, t] ty #[v, .slice (some a) m c]).run P w = .ok u (w.drew.alloc o) → ∀ k, k < w.heap.size → w'.heap[k]? = w.heap[k]? := by
      intro u o hu k hk
      rw [hr] at hu
      injection hu with _ hu
      rw [hu]
      exact heap_alloc_old w.drew _ hk
    refine .inr ⟨h5, ?_⟩
    rcases hown.2 with ⟨rfl, rfl⟩ | ⟨g, cap, cur, rfl, hbg, hg, hnc, hcm, hcs, htake⟩
    · exact old _ _ (run_append_nil (P := P) w t ty e i z ht hi hz a m c news hl hnews hm (by omega) (by simp only [Nat.zero_add] at hbytes; omega))
    · by_cases hroom : n + m ≤ cap
      · exfalso
        have hfit : n * i.size + news.length ≤ cur.size := by rw [hl, hcs, ← Nat.add_mul]; exact Nat.mul_le_mul_right _ hroom
        have hr2 := run_append_room (P := P) w t ty e i ht hi g n cap cur hg a m c news hl hnews h1 hroom hfit
        rw [hr] at hr2
        injection hr2 with hv _
        subst hv
        simp only [Value.ownBlock, Option.some.injEq] at h5
        have := (Array.getElem?_eq_some_iff.1 hg).1
        omega
      · exact old _ _ (run_append_grow (P := P) w t ty e i z ht hi hz ⟨g, 0, none⟩ n cap xs hown.1 (hown.cells (g := g) rfl) a m c news hl hnews (by omega) (by omega) (growslice_fits (by omega) hbytes))
section
variable {P : Program} {ops : Array Oper} {ty : TypeId} {pos : String} {aft : Array Edge} {d : Nat}
theorem s_append {t e : TypeId} {x y : Operand} {n m sz bytes s : Nat} {z : Value} {es news : List AV} {lx ly : List (Nat × AV)} (p s' : Nat) (ht : SliceT P t e sz) (hz : Zero P e z) (hb : BytesT P e bytes) (hzc : z.cells.size = sz) (h0 : 0 < sz)
    (hx : Opd x (.slice es (some s)) lx) (hy : Opd y (.slice news none) ly) (hn : es.length = n) (hm : news.length = m) (hm0 : 0 < m) (hes : ∀ c ∈ es, c.cells.length = sz) (hnw : ∀ c ∈ news, c.cells.length = sz) (hone : ∀ c ∈ news, c.cells.all AV.one = true)
    (hbd : (n + m) * bytes ≤ 140737488355328 ∧ n + m ≤ maxLen) :
    Step P ops ⟨some d, .call { callee := .builtin .append, args := #[x, y], argTypes := #[t, t] }, ty, pos, aft, none⟩
      { rT := lx ++ ly, rM := [(p, .row s n e sz)], wT := some (d, .slice (es ++ news) (some s')), wM := some (p, .row s' (n + m) e sz), sym := some s' } :=
  Step.value rfl rfl (by simp) fun g w a mem hi hT hM hs hp => by
    have hsy := hs s' rfl
    have hX := hx g w a hT.left
    have hY := hy g w a hT.right
    obtain ⟨i, hinfo, hisz⟩ : ∃ i, P.info? e = some i ∧ i.size = sz := by
      have := ht.2
      unfold SzT at this
      cases hi' : P.info? e with
      | none => rw [hi'] at this; cases this
      | some i => rw [hi'] at this; exact ⟨i, rfl, by simpa using this⟩
    have hzero : i.zero = some z := by
      unfold Zero at hz
      rw [hinfo] at hz
      simpa using hz
    have hbytes : i.bytes = bytes := by
      unfold BytesT at hb
      rw [hinfo] at hb
      simpa using hb
    subst hisz
    subst hbytes
    have hrow := hM p _ (List.mem_singleton.2 rfl)
    obtain ⟨v0, xs, hv0, hown, himm⟩ := hi.ok _ (List.mem_of_getElem? hrow)
    generalize hux : a.eval x = ux at hX
    generalize huy : a.eval y = uy at hY
    have hvx : ux = v0 := by
      cases hX with
      | slice b o vals hl hA hsz hc hr hle how =>
        have := how s rfl
        rw [hv0] at this
        injection this with this
        exact this.symm
    subst hvx
    have hnewsY : ∃ (ad : Addr) (c : Nat) (ns : List Value), uy = .slice (some ad) m c ∧ ns.length = m * i.size ∧ (∀ (j : Nat) u, ns[j]? = some u → w.cell? (ad.add j) = some u) ∧ (∀ u, u ∈ ns → u.oneCell' = true) ∧
        ∀ (k j : Nat) (el cl : AV), news[k]? = some el → el.cells[j]? = some cl → Rep g w (ns.getD (k * i.size + j) undef) cl := by
      cases hY with
      | slice b o vals hl hA hsz hc hr hle how =>
        rename_i A len cap sz2
        have hne : news ≠ [] := fun e => by rw [e] at hm; simp at hm; omega
        have hAe := hA hne
        subst hAe
        have hsz2 : sz2 = i.size := by
          obtain ⟨c0, hc0⟩ := List.exists_mem_of_ne_nil _ hne
          rw [← hsz c0 hc0, hnw c0 hc0]
        subst hsz2
        rw [hm] at hl
        subst hl
        have at_ : ∀ j, j < m * i.size → ∃ el cl, news[j / i.size]? = some el ∧ el.cells[j % i.size]? = some cl := by
          intro j hj
          have hq : j / i.size < m := Nat.div_lt_of_lt_mul (by rw [Nat.mul_comm]; exact hj)
          have hq' : j / i.size < news.length := by omega
          refine ⟨news[j / i.size], _, List.getElem?_eq_getElem hq', List.getElem?_eq_getElem ?_⟩
          rw [hnw _ (List.getElem_mem hq')]
          exact Nat.mod_lt _ h0
        have hidx : ∀ j, j / i.size * i.size + j % i.size = j := fun j => by rw [Nat.mul_comm]; exact Nat.div_add_mod j i.size
        refine ⟨⟨b, o, none⟩, cap, (List.range (m * i.size)).map (fun j => vals (j / i.size) (j % i.size)), rfl, by simp, ?_, ?_, ?_⟩
        · intro j u hu
          rw [List.getElem?_map] at hu
          cases hr' : (List.range (m * i.size))[j]? with
          | none => rw [hr'] at hu; cases hu
          | some j' =>
            have hj := (List.getElem?_eq_some_iff.1 hr').1
            simp only [List.length_range] at hj
            rw [List.getElem?_range hj] at hr'
            injection hr' with hr'
            subst hr'
            rw [List.getElem?_range hj] at hu
            simp only [Option.map_some, Option.some.injEq] at hu
            subst hu
            obtain ⟨el, cl, h1, h2⟩ := at_ j hj
            have := (hc _ _ _ _ h1 h2).1
            rw [hidx] at this
            rw [add_addr]
            exact this
        · intro u hu
          obtain ⟨j, hj, rfl⟩ := List.mem_map.1 hu
          simp only [List.mem_range] at hj
          obtain ⟨el, cl, h1, h2⟩ := at_ j hj
          exact one_of (hr _ _ _ _ h1 h2) (List.all_eq_true.1 (hone el (List.mem_of_getElem? h1)) cl (List.mem_of_getElem? h2))
        · intro k j el cl h1 h2
          have hk : k < m := by rw [← hm]; exact (List.getElem?_eq_some_iff.1 h1).1
          have hj : j < i.size := by rw [← hnw el (List.mem_of_getElem? h1)]; exact (List.getElem?_eq_some_iff.1 h2).1
          have hlt : k * i.size + j < m * i.size := by
            have : (k + 1) * i.size ≤ m * i.size := Nat.mul_le_mul_right _ hk
            rw [Nat.add_mul] at this
            omega
          have e1 : (k * i.size + j) / i.size = k := by rw [Nat.mul_comm, Nat.mul_add_div h0, Nat.div_eq_of_lt hj, Nat.add_zero]
          have e2 : (k * i.size + j) % i.size = j := by rw [Nat.mul_comm, Nat.mul_add_mod, Nat.mod_eq_of_lt hj]
          rw [List.getD_eq_getElem?_getD, List.getElem?_map, List.getElem?_range hlt]
          simp only [Option.map_some, Option.getD_some, e1, e2]
          exact hr k el j cl h1 h2
    obtain ⟨ad, c, ns, rfl, hnsl, hnsc, hns1, hnsr⟩ := hnewsY
    obtain ⟨v', w', hrun, hown', hgr, hwhere⟩ := append3 (P := P) w g.base t ty e i z ht.1 hinfo hzero hzc h0 ux n xs hown ad m c ns hnsl hnsc hns1 hm0 hbd.2 hbd.1 hi.base
    have hxl : xs.length = n * i.size := hown.1
    obtain ⟨g0, cap', cur', rfl, hb0, hg0, hnc', hcm', hcs', htk'⟩ : ∃ g0 cap cur, v' = .slice (some ⟨g0, 0, none⟩) (n + m) cap ∧ g.base ≤ g0 ∧ w'.heap[g0]? = some (.cells cur e (0, 0)) ∧ n + m ≤ cap ∧ cap ≤ maxLen ∧ cur.size = cap * i.size ∧ cur.toList.take ((n + m) * i.size) = xs ++ ns := by
      rcases hown'.2 with ⟨_, h⟩ | h
      · omega
      · exact h
    have hblk : (Value.slice (some ⟨g0, 0, none⟩) (n + m) cap').ownBlock = some g0 := rfl
    let g' : Gh := { g with sy := fun t => if t = s' then .val (.slice (some ⟨g0, 0, none⟩) (n + m) cap') else g.sy t, imm := fun b off => g.imm b off ∨ (b = g0 ∧ off < (n + m) * i.size) }
    have hcells : ∀ j u, (xs ++ ns)[j]? = some u → w'.cell? ⟨g0, j, none⟩ = some u := by
      intro j u hu
      have := hown'.cells hblk j u hu
      rw [add_addr, Nat.zero_add] at this
      exact this
    have hsame : ∀ b off, g.imm b off → w'.cell? ⟨b, off, none⟩ = w.cell? ⟨b, off, none⟩ := by
      intro b off hbo
      have hlt := hi.lt b off hbo
      by_cases hbv : some b = ux.ownBlock
      · rcases hwhere with hw | ⟨_, hw⟩
        · have hb : b = g0 := by rw [← hw, hblk] at hbv; injection hbv
          subst hb
          have hoff : off < n * i.size := by
            rcases Nat.lt_or_ge off (n * i.size) with h | h
            · exact h
            · exact absurd hbo (himm b off hbv.symm h)
          have h1 := hown.cells hbv.symm off _ (List.getElem?_eq_getElem (by omega))
          rw [add_addr, Nat.zero_add] at h1
          rw [h1]
          exact hcells off _ (by rw [List.getElem?_append_left (by omega)]; exact List.getElem?_eq_getElem (by omega))
        · simp only [World.cell?, hw b hlt]
      · simp only [World.cell?, hgr.block b hlt hbv]
    have hstab : Stab (some s') g w g' w' := by
      refine ⟨rfl, (Below.refl _ _).grown hgr hi.base (fun k hk => (hown.lt k hk).1), fun b off hbo => ⟨.inl hbo, hsame b off hbo⟩, fun t ht' hf => ?_, fun t ht' => by injection ht' with ht'; subst ht'; exact hsy⟩
      show (if t = s' then _ else g.sy t) = g.sy t
      rw [if_neg (fun e => ht' (by rw [e]))]
    have hsy' : g'.sy s' = .val (.slice (some ⟨g0, 0, none⟩) (n + m) cap') := by show (if s' = s' then _ else _) = _; rw [if_pos rfl]
    have hother : ∀ (k : Nat) ek b, mem[k]? = some ek → k ≠ p → ek.block g = some b → b ≠ g0 ∧ w'.heap[b]? = w.heap[b]? := by
      intro k ek b hk hne hbk
      have hlt := (hi.ok ek (List.mem_of_getElem? hk)).block_lt hbk
      have hnv : some b ≠ ux.ownBlock := by
        intro e'
        refine hne (hi.apart k p ek _ b hk hrow hbk ?_)
        simp only [Ent.block, hv0, symBlock]
        exact e'.symm
      refine ⟨?_, hgr.block b hlt.2 hnv⟩
      rcases hwhere with hw | ⟨hw, _⟩
      · intro e'
        subst e'
        exact hnv (by rw [← hw, hblk])
      · rw [hblk] at hw
        injection hw with hw
        omega
    refine ⟨.slice (some ⟨g0, 0, none⟩) (n + m) cap', w', g', ?_, hstab, ?_, ?_⟩
    · simp [execOp, resolve, invoke, builtin, hux, huy, hrun]
    · refine hi.set hstab p _ ?_ ?_ ?_ (put_room hi.room)
      · intro k ek b hk hne hbk
        obtain ⟨h1, h2⟩ := hother k ek b hk hne hbk
        refine ⟨h2, fun off ho => ?_, ?_⟩
        · rcases ho with ho | ho
          · exact ho
          · exact absurd ho.1 h1
        · simp only [Ent.block, hsy', symBlock, hblk]
          intro e'
          injection e' with e'
          exact h1 e'.symm
      · refine ⟨_, xs ++ ns, hsy', hown', fun b off hb' hoff ho => ?_⟩
        rw [hblk] at hb'
        injection hb' with hb'
        subst hb'
        rcases ho with ho | ho
        · by_cases hbv : some g0 = ux.ownBlock
          · refine himm g0 off hbv.symm ?_ ho
            rw [Nat.add_mul] at hoff
            omega
          · rcases hwhere with hw | ⟨hw, _⟩
            · rw [hblk] at hw; exact hbv hw
            · rw [hblk] at hw
              injection hw with hw
              have := hi.lt _ _ ho
              omega
        · omega
      · intro b off ho
        rcases ho with ho | ho
        · exact Nat.lt_of_lt_of_le (hi.lt b off ho) hgr.size
        · rw [ho.1]; exact (Array.getElem?_eq_some_iff.1 hg0).1
    · intro d' v'' e'
      injection e' with e'
      injection e' with _ e'
      subst e'
      refine .slice g0 0 (fun k j => (xs ++ ns).getD (k * i.size + j) undef) (sz := i.size) (by simp [hn, hm]) (fun _ => rfl) ?_ ?_ ?_ hnc' (fun t ht' => by injection ht' with ht'; subst ht'; exact hsy')
      · intro el hel
        rcases List.mem_append.1 hel with h | h
        · exact hes el h
        · exact hnw el h
      · intro k el j cl h1 h2
        have hsz : el.cells.length = i.size := by
          rcases List.mem_append.1 (List.mem_of_getElem? h1) with h | h
          · exact hes el h
          · exact hnw el h
        have hj : j < i.size := by rw [← hsz]; exact (List.getElem?_eq_some_iff.1 h2).1
        have hk : k < n + m := by have := (List.getElem?_eq_some_iff.1 h1).1; rw [List.length_append] at this; omega
        have hlt : k * i.size + j < (n + m) * i.size := by
          have : (k + 1) * i.size ≤ (n + m) * i.size := Nat.mul_le_mul_right _ hk
          rw [Nat.add_mul] at this
          omega
        have hlt' : k * i.size + j < (xs ++ ns).length := by rw [List.length_append, hxl, hnsl, ← Nat.add_mul]; exact hlt
        rw [Nat.zero_add, List.getD_eq_getElem?_getD, List.getElem?_eq_getElem hlt']
        exact ⟨hcells _ _ (List.getElem?_eq_getElem hlt'), .inr ⟨rfl, hlt⟩⟩
      · intro k el j cl h1 h2
        by_cases hk : k < n
        · rw [List.getElem?_append_left (by omega)] at h1
          have hj : j < i.size := by rw [← hes el (List.mem_of_getElem? h1)]; exact (List.getElem?_eq_some_iff.1 h2).1
          have hlt : k * i.size + j < n * i.size := by
            have : (k + 1) * i.size ≤ n * i.size := Nat.mul_le_mul_right _ hk
            rw [Nat.add_mul] at this
            omega
          have hval : ∀ u, ux = u → Rep g w u (.slice es (some s)) → Rep g w (xs.getD (k * i.size + j) undef) cl := by
            intro u hu hr0
            cases hr0 with
            | slice b o vals hl hA hsz hc hr hle how =>
              rename_i A len cap sz2
              have hne : es ≠ [] := fun e => by rw [e] at h1; simp at h1
              have hAe := hA hne
              subst hAe
              have hsz2 : sz2 = i.size := by rw [← hsz el (List.mem_of_getElem? h1), hes el (List.mem_of_getElem? h1)]
              subst hsz2
              have hown0 := hown
              rw [hu] at hown0
              rcases hown0.2 with ⟨h, _⟩ | ⟨gg, cap2, cur2, h, _⟩
              · cases h
              · injection h with hAA _ _
                injection hAA with hAA
                injection hAA with hbb hoo _
                subst hbb
                subst hoo
                have hc1 := (hc k el j cl h1 h2).1
                have hc2 := hown0.cells (g := b) rfl (k * i.size + j) _ (List.getElem?_eq_getElem (by omega))
                rw [add_addr] at hc2
                rw [hc2] at hc1
                injection hc1 with hc1
                rw [List.getD_eq_getElem?_getD, List.getElem?_eq_getElem (by omega), Option.getD_some, hc1]
                exact hr k el j cl h1 h2
          have := (hval ux rfl (hux ▸ hx g w a hT.left)).stab hstab
          rw [List.getD_eq_getElem?_getD, List.getElem?_append_left (by omega), ← List.getD_eq_getElem?_getD]
          exact this
        · rw [List.getElem?_append_right (by omega)] at h1
          have := (hnsr _ j el cl h1 h2).stab hstab
          have hge : n * i.size ≤ k * i.size := Nat.mul_le_mul_right _ (by omega)
          rw [List.getD_eq_getElem?_getD, List.getElem?_append_right (by omega), ← List.getD_eq_getElem?_getD, hxl]
          have e1 : k * i.size + j - n * i.size = (k - es.length) * i.size + j := by rw [hn, Nat.sub_mul]; omega
          rw [e1]
          exact this
end
end Go.Proofs.Yteomgedahkpnlaa
end
section

namespace Go.Proofs.Yteomgedahkpnlaa
open Go.RowKit
section
variable {P : Program} {ops : Array Oper} {ty : TypeId} {pos : String} {aft : Array Edge} {d : Nat}
theorem s_indexS {t : TypeId} {x y : Operand} {s : ByteArray} {k : IntKind} {i : Int} {lx ly : List (Nat × AV)} (ht : P.underlying t = some .string) (hx : Opd x (.str s) lx) (hy : Opd y (.int k i) ly)
    (h : 0 ≤ i ∧ i < s.size) : Step P ops ⟨some d, .index t x y, ty, pos, aft, none⟩ { rT := lx ++ ly, wT := some (d, U (s.data.toList.getD i.toNat 0)) } :=
  Step.calc (rM := []) (by simp) fun g w a mem _ hT hM => by
    have hxs := str_of (hx g w a hT.left)
    have hyi := int_of (hy g w a hT.right)
    have hlt : i.toNat < s.size := by omega
    have hlt' : i.toNat < s.data.size := hlt
    have hb : s[i.toNat]? = some (s.data.toList.getD i.toNat 0) := by
      rw [getElem?_pos s i.toNat hlt, List.getD_eq_getElem?_getD, Array.getElem?_toList, Array.getElem?_eq_getElem hlt']
      rfl
    refine ⟨_, ?_, .int .u8 _⟩
    simp only [execOp, hxs, hyi, Instr.index, asIntOf, Sem.run_bind, Sem.run_pure, Result.andThen_ok, run_underlying ht, h.1, if_true, hb]
theorem s_buildSlice' {t e : TypeId} {n len : Nat} {z : Value} {os : List (Nat × Operand)} {vs lx : List (Nat × AV)} {es : List AV} (hz : Zero P e z) (ht : SliceT P t e n) (hn : Nat.ble (len * n) 1000 = true) (hl : es.length = len) (h : Parts os vs lx)
    (hf : fillA (fun i => some (i * n, n)) (List.replicate (len * n) .top) vs = some (es.flatMap AV.cells)) (hs : es.all (fun e => Nat.beq e.cells.length n) = true) :
    Step P ops ⟨some d, .buildSlice t len os.toArray, ty, pos, aft, none⟩ { rT := lx, wT := some (d, .slice es none) } :=
  s_buildSlice hz ht hn hl h hf fun e he => Nat.eq_of_beq_eq_true (List.all_eq_true.1 hs e he)
theorem s_buildSliceOwn {t e : TypeId} {n len : Nat} {z : Value} {os : List (Nat × Operand)} {vs lx : List (Nat × AV)} {es : List AV} (p s : Nat) (hz : Zero P e z) (hzc : z.cells.size = n) (ht : SliceT P t e n) (hn : Nat.ble (len * n) 1000 = true) (h0 : Nat.blt 0 (len * n) = true) (hl : es.length = len) (h : Parts os vs lx)
    (hf : fillA (fun i => some (i * n, n)) (List.replicate (len * n) .top) vs = some (es.flatMap AV.cells)) (hs : es.all (fun e => Nat.beq e.cells.length n) = true) :
    Step P ops ⟨some d, .buildSlice t len os.toArray, ty, pos, aft, none⟩ { rT := lx, wT := some (d, .slice es (some s)), wM := some (p, .row s len e n), sym := some s } :=
  Step.value rfl rfl (by simp) fun g w a mem hi hT hM hsy hp => by
    have hn' := Nat.le_of_ble_eq_true hn
    have hsz : ∀ e ∈ es, e.cells.length = n := fun e he => Nat.eq_of_beq_eq_true (List.all_eq_true.1 hs e he)
    have hsy := hsy s rfl
    have hpos : len * n ≠ 0 := by simp [Nat.blt_eq] at h0; omega
    have hn0 : 0 < n := Nat.pos_of_ne_zero (fun e => hpos (by rw [e, Nat.mul_zero]))
    let arr0 : Array Value := (Array.range (len * n)).map (z.cells[· % z.cells.size]!)
    have h0 : RepCells g w arr0 (List.replicate (len * n) .top) := by
      have := rep_top g w arr0
      simpa [arr0] using this
    obtain ⟨arr, h1, h2⟩ := h.fill hT arr0 _ _ h0 hf
    let v' : Value := .slice (some ⟨w.heap.size, 0, none⟩) len len
    let g' : Gh := { g.put s (.val v') with imm := fun b o => g.imm b o ∨ (b = w.heap.size ∧ o < len * n) }
    have hbig : ¬ (16777216 < len * n) := by omega
    have hmap : (os.toArray.map fun (i, x) => (i, a.eval x)).toList = os.map fun x => (x.1, a.eval x.2) := by simp
    have hrun : (execOp a.eval ⟨some d, .buildSlice t len os.toArray, ty, pos, aft, none⟩).run P w = .ok (.value v') (w.alloc (.cells arr e)) := by
      simp only [arr0] at h1
      simp [execOp, Instr.buildSlice, run_underlying ht.1, run_size ht.2, hbig, hpos, run_zero hz, newRow] at h1 ⊢
      rw [h1]
      simp [v']
    have hsy' : g'.sy s = .val v' := by show (if s = s then _ else _) = _; rw [if_pos rfl]
    have hstab : Stab (some s) g w g' (w.alloc (.cells arr e)) := by
      refine ⟨rfl, (Below.refl _ _).alloc hi.base _, fun b o ho => ⟨.inl ho, by simp only [World.cell?, alloc_old w _ (hi.lt b o ho)]⟩, fun t ht' hf' => ?_, fun t ht' => by injection ht' with ht'; subst ht'; exact hsy⟩
      show (if t = s then _ else g.sy t) = g.sy t
      rw [if_neg (fun e => ht' (by rw [e]))]
    have hflat : (es.flatMap AV.cells).length = len * n := by rw [flat_length hsz, hl]
    have hasz : arr.size = len * n := by rw [h2.1, hflat]
    have hml : len ≤ maxLen := by
      have : len ≤ len * n := Nat.le_mul_of_pos_right _ hn0
      simp only [maxLen]; omega
    refine ⟨v', w.alloc (.cells arr e), g', hrun, hstab, ?_, fun d' u e' => ?_⟩
    · refine hi.set hstab p _ ?_ ?_ (fun b o ho => by
        rcases ho with ho | ho
        · have := hi.lt b o ho; simp; omega
        · simp; omega) (put_room hi.room)
      · intro k ek b hk hne hbk
        have hlt := (hi.ok ek (List.mem_of_getElem? hk)).block_lt hbk
        refine ⟨alloc_old w _ hlt.2, fun o ho => ?_, ?_⟩
        · rcases ho with ho | ho
          · exact ho
          · omega
        · simp only [Ent.block, hsy', symBlock, v', Value.ownBlock]
          intro e'
          injection e' with e'
          omega
      · refine ⟨v', arr.toList, hsy', ⟨by simp [hasz], .inr ⟨w.heap.size, len, arr, rfl, hi.base, alloc_new w _, Nat.le_refl _, hml, hasz, by rw [List.take_of_length_le (by simp [hasz])]⟩⟩, fun b o hb ho him => ?_⟩
        simp only [v', Value.ownBlock, Option.some.injEq] at hb
        subst hb
        rcases him with him | him
        · have := hi.lt _ _ him; omega
        · omega
    · injection e' with e'
      injection e' with _ e'
      subst e'
      have hst2 := h2.stab hstab
      subst hl
      exact rep_row (alloc_new w _) hsz hst2.2 (by rw [h2.1]; exact Nat.le_refl _) (fun o ho => .inr ⟨rfl, by rw [← hflat]; exact ho⟩) (Nat.le_refl _) (fun s' hs' => by injection hs' with hs'; subst hs'; exact hsy')
theorem s_appendM {α : Type} {l l2 : List α} {f : α → AV} {t e : TypeId} {x y : Operand} {sz bytes s : Nat} {z : Value} {lx ly : List (Nat × AV)} (p s' : Nat) (ht : SliceT P t e sz) (hz : Zero P e z) (hb : BytesT P e bytes) (hzc : z.cells.size = sz) (h0 : 0 < sz)
    (hx : Opd x (.slice (l.map f) (some s)) lx) (hy : Opd y (.slice (l2.map f) none) ly) (hm0 : 0 < l2.length) (hf : ∀ a, (f a).cells.length = sz) (hone : ∀ a, (f a).cells.all AV.one = true)
    (hbd : (l.length + l2.length) * bytes ≤ 140737488355328 ∧ l.length + l2.length ≤ 9223372036854775807) :
    Step P ops ⟨some d, .call { callee := .builtin .append, args := #[x, y], argTypes := #[t, t] }, ty, pos, aft, none⟩
      { rT := lx ++ ly, rM := [(p, .row s l.length e sz)], wT := some (d, .slice ((l ++ l2).map f) (some s')), wM := some (p, .row s' (l ++ l2).length e sz), sym := some s' } := by
  have := s_append (ops := ops) (ty := ty) (pos := pos) (aft := aft) (d := d) p s' ht hz hb hzc h0 hx hy (List.length_map _) (List.length_map _) hm0 (by intro c hc; obtain ⟨a, _, rfl⟩ := List.mem_map.1 hc; exact hf a)
    (by intro c hc; obtain ⟨a, _, rfl⟩ := List.mem_map.1 hc; exact hf a) (by intro c hc; obtain ⟨a, _, rfl⟩ := List.mem_map.1 hc; exact hone a) (by simpa [maxLen] using hbd)
  rw [← List.map_append, ← List.length_append] at this
  exact this
end
theorem res_free {P : Program} {nt : Nat} {S : St} {rv : ResultVar} {es : List AV} {own : Option Nat} (h : ResOK P nt S rv (.slice es own)) : ResOK P nt S rv (.slice es none) := fun g w a hid hr => by
  obtain ⟨u, h1, h2⟩ := h g w a hid hr
  refine ⟨u, h1, ?_⟩
  cases h2 with
  | slice b o vals hl hA hsz hc hr hle how => exact .slice b o vals hl hA hsz hc hr hle (fun s hs => by cases hs)
theorem res_nils {P : Program} {nt : Nat} {S : St} {rv : ResultVar} (h : ResOK P nt S rv .nils) : ResOK P nt S rv (.slice [] none) := fun g w a hid hr => by
  obtain ⟨u, h1, h2⟩ := h g w a hid hr
  refine ⟨u, h1, ?_⟩
  cases h2
  exact .slice 0 0 (fun _ _ => undef) rfl (fun h => absurd rfl h) (sz := 0) (fun e he => by cases he) (fun i e j c h => by simp at h) (fun i e j c h => by simp at h) (Nat.le_refl _) (fun s hs => by cases hs)
section
variable {F : Fence} {P : Program} {nt : Nat} {S : St} {Q : Exit → St → Prop}
def ACL (F : Fence) (P : Program) (nt : Nat) (c : Code) (S : St) (Q : Exit → St → Prop) : Prop :=
  ∀ g w a hid, Rel nt g w a S hid → ∀ (b : Frame) (k : List Item) (cs : List Frame), b.roundOf = F.round → F.fn b.fn → F.room (cs.length + 1 + 0) →
    ∃ e a' w', (∃ g' S' hid', Rel nt g' w' a' S' hid' ∧ Ext g w g' w' ∧ Q e S') ∧ ArrivesIn (Machine.fenced P F) P (lone (b.atR a (.code c :: .inLoop c :: k)) cs w) b k cs e a' w'
theorem ACL.turn {c : Code} (h : AC F P nt c S (thenQ (fun S' => ACL F P nt c S' Q) Q)) : ACL F P nt c S Q := by
  intro g w a hid hr b k cs hro hb hroom
  obtain ⟨e, a₁, w₁, ⟨g₁, S₁, hid₁, hr₁, he₁, hq⟩, harr⟩ := h g w a hid hr b (.inLoop c :: k) cs hro hb hroom
  cases e with
  | normal =>
    obtain ⟨e₂, a₂, w₂, ⟨g₂, S₂, hid₂, hr₂, he₂, hq₂⟩, harr₂⟩ := hq g₁ w₁ a₁ hid₁ hr₁ b k cs hro hb hroom
    exact ⟨e₂, a₂, w₂, ⟨g₂, S₂, hid₂, hr₂, he₁.trans he₂, hq₂⟩, .of_steps (StepsIn.trans harr (.one (fenced_calm hb hroom rfl) stepR_inLoop)) harr₂⟩
  | exit id => exact ⟨_, a₁, w₁, ⟨g₁, S₁, hid₁, hr₁, he₁, hq⟩, .pass (x := .inLoop c) rfl (fun _ _ => .inl (by simp)) harr⟩
  | goto l => exact ⟨_, a₁, w₁, ⟨g₁, S₁, hid₁, hr₁, he₁, hq⟩, .pass (x := .inLoop c) rfl (fun _ _ => .inl (by simp)) harr⟩
  | ret => exact ⟨_, a₁, w₁, ⟨g₁, S₁, hid₁, hr₁, he₁, hq⟩, .pass (x := .inLoop c) rfl (fun _ _ => .inl (by simp)) harr⟩
  | panic ch => exact ⟨_, a₁, w₁, ⟨g₁, S₁, hid₁, hr₁, he₁, hq⟩, .pass (x := .inLoop c) rfl (fun _ _ => .inl (by simp)) harr⟩
  | outgrown => exact ⟨_, a₁, w₁, ⟨g₁, S₁, hid₁, hr₁, he₁, hq⟩, .pass (x := .inLoop c) rfl (fun _ _ => .inl (by simp)) harr⟩
theorem AC.turns {c : Code} (h : ACL F P nt c S Q) : AC F P nt (.loop c) S Q := by
  intro g0 w0 a0 hid0 hr0 b k cs hro hb hroom
  obtain ⟨e, a', w', hq, harr⟩ := h g0 w0 a0 hid0 hr0 b k cs hro hb hroom
  exact ⟨e, a', w', hq, .of_steps (.one (fenced_calm hb hroom rfl) stepR_loop) harr⟩
theorem AC.claim {c : Code} (t p : Nat) (e : TypeId) (sz : Nat) (h : getT S.env t = .nils) (hp : (S.mem[p]?).isSome = true) (k : ∀ s, AC F P nt c ⟨(t, .slice [] (some s)) :: S.env, S.mem.set p (.row s 0 e sz)⟩ Q) : AC F P nt c S Q := by
  intro g w a hid hr
  obtain ⟨N, hN⟩ := hr.inv.room
  have hpl : p < S.mem.length := by
    rw [Option.isSome_iff_exists] at hp
    obtain ⟨y, hy⟩ := hp
    exact (List.getElem?_eq_some_iff.1 hy).1
  let g' : Gh := g.put N (.val (.slice none 0 0))
  have hsy : g'.sy N = .val (.slice none 0 0) := by show (if N = N then _ else _) = _; rw [if_pos rfl]
  have hext : Ext g w g' w := ⟨rfl, Below.refl _ _, fun b o ho => ⟨ho, rfl⟩, fun s _ hs => by
    show (if s = N then _ else g.sy s) = g.sy s
    rw [if_neg (fun e => hs (by rw [e]; exact hN N (Nat.le_refl _)))], fun s hs => by cases hs⟩
  obtain ⟨R1, R2, R3, R4⟩ := hr
  have hinv := R4.set hext p (.row N 0 e sz) (fun i ei b hi hne hb => ⟨rfl, fun _ h => h, by simp [Ent.block, hsy, symBlock, Value.ownBlock]⟩)
    ⟨_, [], hsy, World.ownsRow_nil _ _ _ _, fun b o hb => by simp [Value.ownBlock] at hb⟩ R4.lt (put_room ⟨N, hN⟩)
  rw [List.set_append_left _ _ hpl] at hinv
  have hr' : Rel nt g' w a ⟨(t, .slice [] (some N)) :: S.env, S.mem.set p (.row N 0 e sz)⟩ hid := by
    refine ⟨R1, R2, fun x u hx => ?_, hinv⟩
    show Rep g' w u (if x = t then _ else getT S.env x)
    have h0 := R3 x u hx
    split
    · rename_i hxt
      rw [hxt, h] at h0
      cases h0
      exact .slice 0 0 (fun _ _ => undef) rfl (fun h => absurd rfl h) (sz := 0) (fun e he => by cases he) (fun i e j c h => by simp at h) (fun i e j c h => by simp at h) (Nat.le_refl _) (fun s hs => by injection hs with hs; subst hs; exact hsy)
    · exact h0.stab hext
  refine wpIn_mono (k N g' w a hid hr') fun ex a' w' ⟨g2, S2, hid2, h1, h2, h3⟩ => ⟨g2, S2, hid2, h1, hext.trans h2, h3⟩
end
end Go.Proofs.Yteomgedahkpnlaa
end
section

namespace Go.Proofs.Yteomgedahkpnlaa
open Go.RowKit
theorem Inv.perm {g : Gh} {w : World} {l l' : List Ent} (h : Inv g w l) (hp : l.Perm l') : Inv g w l' := by
  refine ⟨fun e he => h.ok e (hp.mem_iff.2 he), ?_, h.base, h.lt, h.room⟩
  have h1 : l.Pairwise (fun e e' => ∀ b, e.block g = some b → e'.block g ≠ some b) := by
    rw [List.pairwise_iff_getElem]
    intro i j hi hj hij b h1 h2
    have := h.apart i j _ _ b (List.getElem?_eq_getElem hi) (List.getElem?_eq_getElem hj) h1 h2
    omega
  have h2 := (hp.pairwise_iff (R := fun e e' => ∀ b, Ent.block g e = some b → Ent.block g e' ≠ some b) (fun {x y} hxy b h1 h2 => hxy b h2 h1)).1 h1
  rw [List.pairwise_iff_getElem] at h2
  intro i j ei ej b hi hj bi bj
  obtain ⟨hi1, hi2⟩ := List.getElem?_eq_some_iff.1 hi
  obtain ⟨hj1, hj2⟩ := List.getElem?_eq_some_iff.1 hj
  rcases Nat.lt_trichotomy i j with h3 | h3 | h3
  · exact absurd (by rw [hj2]; exact bj) (h2 i j hi1 hj1 h3 b (by rw [hi2]; exact bi))
  · exact h3
  · exact absurd (by rw [hi2]; exact bi) (h2 j i hj1 hi1 h3 b (by rw [hj2]; exact bj))
theorem perm_mid (H m t : List Ent) : (H ++ (m ++ t)).Perm (m ++ (H ++ t)) := by
  rw [← List.append_assoc, ← List.append_assoc]
  exact List.Perm.append_right t (List.perm_append_comm)
def Move (L new L' : List Ent) : Prop := ∀ g w tail, Inv g w (new ++ (L ++ tail)) → Inv g w (L' ++ tail)
theorem Move.nil (L : List Ent) : Move L [] L := fun g w tail h => h
theorem set_perm {L : List Ent} {p : Nat} {e x : Ent} (h : L[p]? = some x) : (e :: L).Perm (x :: L.set p e) := by
  induction L generalizing p with
  | nil => simp at h
  | cons a r ih =>
    cases p with
    | zero => simp at h; subst h; exact List.Perm.swap _ _ _
    | succ p =>
      simp only [List.getElem?_cons_succ] at h
      simp only [List.set_cons_succ]
      exact (List.Perm.swap _ _ _).trans (((ih h).cons a).trans (List.Perm.swap _ _ _))
theorem Inv.tail {g : Gh} {w : World} {e : Ent} {l : List Ent} (h : Inv g w (e :: l)) : Inv g w l := h.drop 1
theorem Move.cons {L new L' : List Ent} {e : Ent} (p : Nat) (hp : L[p]? = some .hole) (h : Move (L.set p e) new L') : Move L (e :: new) L' := by
  intro g w tail hi
  refine h g w tail ?_
  have hlt : p < L.length := (List.getElem?_eq_some_iff.1 hp).1
  have h1 : (e :: new ++ (L ++ tail)).Perm (Ent.hole :: (new ++ (L.set p e ++ tail))) := by
    have h2 : (e :: (L ++ tail)).Perm (.hole :: (L.set p e ++ tail)) := by
      rw [← List.set_append_left _ _ hlt]
      exact set_perm (by rw [List.getElem?_append_left hlt]; exact hp)
    have h3 : (e :: new ++ (L ++ tail)).Perm (new ++ (e :: (L ++ tail))) := (List.perm_middle (l₁ := new) (l₂ := L ++ tail) (a := e)).symm
    exact h3.trans ((List.Perm.append_left new h2).trans (List.perm_middle (l₁ := new) (l₂ := L.set p e ++ tail) (a := .hole)))
  exact (hi.perm h1).tail
def MeetsT (P : Program) (n : FuncId) (args : List AV) (m : List Ent) (R : AV → List Ent → Prop) : Prop :=
  ∀ tail, Meets P n args (m ++ tail) fun r mm => ∃ m', mm = m' ++ tail ∧ R r m'
def MeetsNew (P : Program) (n : FuncId) (args : List AV) (R : AV → List Ent → Prop) : Prop :=
  ∀ mem, Meets P n args mem fun r mm => ∃ new, mm = new ++ mem ∧ R r new
def Yields (P : Program) (l : Nat) (args : List AV) (m : List Ent) (R : AV → List Ent → Prop) : Prop :=
  ∀ tail g w vs, Inv g w (m ++ tail) → RepAll g w vs args → ∃ f tmps as_ bo, (Instr.yield l vs).run P w = .ok (.round l f tmps as_ bo) w ∧
    ∀ F, Fr F → RoundIn F 0 P l f tmps as_ bo w fun e w' => ∃ v r m' g', e = .returned v ∧ R r m' ∧ Rep g' w' v r ∧ Inv g' w' (m' ++ tail) ∧ Ext g w g' w'
theorem MeetsNew.body {P : Program} {f : FuncId} {fn : Func} {c : Code} {args : List AV} {R : AV → List Ent → Prop} (nh : Nat) (hf : P.funcs[f]? = some fn) (hb : fn.body = some c) (hn : Nat.ble args.length fn.ntmps = true)
    (h : ∀ mem, AC Fence.wide P fn.ntmps c ⟨argEnv 0 args, List.replicate nh .hole ++ mem⟩ (FinQ P fn 0 fun r mm => ∃ new, mm = new ++ mem ∧ R r new)) : MeetsNew P f args R := by
  intro mem g w vs hi ha
  have := Meets.of_body (P := P) (args := args) (mem := List.replicate nh .hole ++ mem) (R := fun r mm => ∃ new, mm = new ++ mem ∧ R r new) 0 hf hb hn (h mem)
  exact this g w vs (hi.holes nh) ha
def RunL (F : Fence) (P : Program) (nt : Nat) (ops : Array Oper) (l : List Oper) (S : St) (Q : Exit → St → Prop) : Prop :=
  ∀ g0 w0 g w a hid, Ext g0 w0 g w → Rel nt g w a S hid → wpListIn F 0 P ops (fun ex a' w' => ∃ g' S' hid', Rel nt g' w' a' S' hid' ∧ Ext g0 w0 g' w' ∧ Q ex S') l a w
def RegOKL (P : Program) (nt : Nat) (ops : Array Oper) (l : List Oper) (S : St) (σ : Nat → Nat) (next : St → Prop) : Prop :=
  ∃ sps ks Fin, Steps P ops l sps ∧ getsT sps S = wantsT sps ∧ getsM sps S = wantsM sps ∧ placesM sps S.mem = true ∧ needsM sps S ∧ chk nt false l sps = true ∧
    sps.map Spec.sym = symL (sps.map fun sp => sp.sym.isSome) σ 0 ∧ keepSt ks (finSt sps S) = Fin ∧ next Fin
theorem RegOKL.mk {P : Program} {nt : Nat} {ops : Array Oper} {l : List Oper} {S : St} {σ : Nat → Nat} {next : St → Prop} {sps : List Spec} (ks : List Nat) (Fin : St) (h1 : Steps P ops l sps) (h2 : getsT sps S = wantsT sps) (h3 : getsM sps S = wantsM sps)
    (h4 : placesM sps S.mem = true) (h4' : needsM sps S) (h5 : chk nt false l sps = true) (h6 : sps.map Spec.sym = symL (sps.map fun sp => sp.sym.isSome) σ 0) (h7 : keepSt ks (finSt sps S) = Fin) (h8 : next Fin) : RegOKL P nt ops l S σ next :=
  ⟨sps, ks, Fin, h1, h2, h3, h4, h4', h5, h6, h7, h8⟩
theorem way_app {P : Program} {ops : Array Oper} {F : Fence} (hF : Fr F) {nt : Nat} {g0 : Gh} {w0 : World} {hid : List Nat} {Fin : St} {Q : Exit → Act → World → Prop} {l2 : List Oper}
    (hQ : ∀ g w a S, Way nt g0 w0 g w a S hid [] → SEq S Fin → wpListIn F 0 P ops Q l2 a w) :
    ∀ (l : List Oper) (sps : List Spec), l.length = sps.length → (∀ (i : Nat) o sp, l[i]? = some o → sps[i]? = some sp → Step P ops o sp) →
      (∀ sp ∈ sps, ∀ x v, (x, v) ∈ sp.rT → x < nt) → sps.Pairwise (fun x y => ∀ s, x.sym = some s → y.sym ≠ some s) →
      ∀ g w a S, Way nt g0 w0 g w a S hid sps → valid sps S Fin → wpListIn F 0 P ops Q (l ++ l2) a w
  | [], [], _, _, _, _, g, w, a, S, h, hv => hQ g w a S h hv
  | o :: l, sp :: sps, hl, hst, hnt, hsy, g, w, a, S, h, hv => by
    rw [List.cons_append]
    unfold wpListIn
    refine h.step hF (hst 0 o sp rfl rfl) hv.1 (hnt sp List.mem_cons_self) (fun sp' s hm hs => (List.pairwise_cons.1 hsy).1 sp' hm s hs) _ Q ?_
    intro g' w' a' h'
    exact way_app hF hQ l sps (by simpa using hl) (fun i o sp h1 h2 => hst (i + 1) o sp (by simpa using h1) (by simpa using h2))
      (fun sp' hm => hnt sp' (List.mem_cons_of_mem _ hm)) (List.pairwise_cons.1 hsy).2 g' w' a' _ h' hv.2
section
variable {F : Fence} {P : Program} {nt : Nat} {ops : Array Oper} {S : St} {Q : Exit → St → Prop}
theorem RunL.region {id : Nat} (h : RunL F P nt ops ops.toList S Q) : AC F P nt (.region id ops false) S Q :=
  fun g w a hid hr => wpIn_region_list (h g w g w a hid (Stab.refl g w) hr)
theorem RunL.nil (h : Q .normal S) : RunL F P nt ops [] S Q := fun g0 w0 g w a hid he hr => ⟨g, S, hid, hr, he, h⟩
theorem RunL.weaken {l : List Oper} {S' : St} (k : Weak S S') (h : RunL F P nt ops l S' Q) : RunL F P nt ops l S Q := fun g0 w0 g w a hid he hr => h g0 w0 g w a hid he (hr.weak k)
theorem RunL.chunk (hF : Fr F) {l : List Oper} (k : Nat) (h : ∀ σ, RegOKL P nt ops (l.take k) S σ (fun S' => RunL F P nt ops (l.drop k) S' Q)) : RunL F P nt ops l S Q := by
  intro g0 w0 g w a hid he hr
  obtain ⟨N, hN⟩ := hr.inv.room
  obtain ⟨sps, ks, Fin, hst, ht, hmm, hp, hnd, hc, hsy, hk, hq⟩ := h (fun i => N + i)
  have hlen := hst.length
  simp only [chk, Bool.and_eq_true, List.all_eq_true, Bool.or_eq_true, Bool.not_eq_true'] at hc
  have hnt : ∀ sp ∈ sps, ∀ x v, (x, v) ∈ sp.rT → x < nt := fun sp hsp x v hx => by
    have := hc.1 sp hsp (x, v) hx
    simpa [Nat.blt_eq] using this
  have hsym : ∀ (i : Nat) sp s, sps[i]? = some sp → sp.sym = some s → s = N + i ∧ i < sps.length := by
    intro i sp s hi hs
    have h1 : (sps.map Spec.sym)[i]? = some (some s) := by rw [List.getElem?_map, hi, ← hs]; rfl
    rw [hsy] at h1
    have := symL_at _ _ 0 i s h1
    exact ⟨by simpa using this, (List.getElem?_eq_some_iff.1 hi).1⟩
  let g1 := g.hold N sps.length
  have hext : Ext g w g1 w := ⟨rfl, Below.refl _ _, fun b o hi => ⟨hi, rfl⟩, fun s _ hs => by
    show (if N ≤ s ∧ s < N + sps.length then Sym.held else g.sy s) = g.sy s
    rw [if_neg]
    intro hlt
    exact hs (hN s hlt.1), fun s hs => by cases hs⟩
  have hinv : Inv g1 w (S.mem ++ hid.map Ent.mark) := hr.inv.keep hext (fun e b _ _ => rfl) (fun e b o _ _ hi => hi) hr.inv.lt
    ⟨N + sps.length, fun s hs => by
      show (if N ≤ s ∧ s < N + sps.length then Sym.held else g.sy s) = Sym.free
      rw [if_neg (by omega)]
      exact hN s (by omega)⟩
  have hway : Way nt g w g1 w a S hid sps := ⟨hext, ⟨hr.size, hr.defers, EnvOK.stab hext hr.env, hinv⟩, fun sp s hsp hs => by
    obtain ⟨i, hi⟩ := List.getElem?_of_mem hsp
    obtain ⟨h1, h2⟩ := hsym i sp s hi hs
    subst h1
    refine ⟨?_, hN _ (by omega)⟩
    show (if N ≤ N + i ∧ N + i < N + sps.length then Sym.held else g.sy (N + i)) = Sym.held
    rw [if_pos (by omega)]⟩
  have hval := valid_of sps S ht hmm hp hnd
  rw [← List.take_append_drop k l]
  refine way_app hF (hid := hid) (Fin := finSt sps S) (g0 := g) (w0 := w) (nt := nt) ?_ (l.take k) sps hlen hst.at_ hnt ?_ g1 w a S hway hval
  · intro g' w' a' S' hw hs
    refine hq g0 w0 g' w' a' hid (he.trans hw.ext) (hw.rel.weak ⟨fun x => ?_, ?_, fun i e he => ?_⟩)
    · rw [← hk, hs.t x]
      exact getT_keep ks (getT (finSt sps S).env) x
    · rw [← hk, hs.m]; rfl
    · rw [← hk] at he
      rw [hs.m]
      exact .inr he
  · rw [List.pairwise_iff_getElem]
    intro i j hi hj hij s h1 h2
    have e1 := (hsym i _ s (List.getElem?_eq_getElem hi) h1).1
    have e2 := (hsym j _ s (List.getElem?_eq_getElem hj) h2).1
    omega
def Want (ops : Array Oper) (o : Oper) (S : St) : Prop := ∀ g w (a : Act), (∀ x u, a.tmps[x]? = some u → Rep g w u (getT S.env x)) → a.tmps.size = a.tmps.size → Region.wanted o (yielded ops a.tmps) = true
theorem Want.none {o : Oper} (h : o.guard = none) : Want ops o S := fun g w a _ _ => by simp only [Region.wanted, h]
def putT (dst : Option Nat) (r : AV) (env : List (Nat × AV)) : List (Nat × AV) := match dst with | none => env | some d => (d, r) :: env
theorem Rel.put {g g' : Gh} {w w' : World} {a : Act} {hid : List Nat} (hr : Rel nt g w a S hid) (he : Ext g w g' w') {m' : List Ent} (hi : Inv g' w' (m' ++ hid.map Ent.mark)) {dst : Option Nat} {v : Value} {r : AV} (hv : Rep g' w' v r) :
    Rel nt g' w' (a.put dst v) ⟨putT dst r S.env, m'⟩ hid := by
  refine ⟨?_, ?_, ?_, hi⟩
  · cases dst <;> simp [Act.put, hr.size]
  · cases dst <;> simp [Act.put, hr.defers]
  · intro x u hx
    cases dst with
    | none => exact (hr.env x u hx).stab he
    | some d =>
      simp only [Act.put, Array.getElem?_setIfInBounds] at hx
      show Rep g' w' u (if x = d then r else getT S.env x)
      by_cases hxd : x = d
      · subst hxd
        rw [if_pos rfl] at hx ⊢
        split at hx
        · injection hx with hx
          subst hx
          exact hv
        · cases hx
      · rw [if_neg (fun e => hxd e.symm)] at hx
        rw [if_neg hxd]
        exact (hr.env x u hx).stab he
theorem Rel.hasT {g : Gh} {w : World} {a : Act} {hid : List Nat} (hr : Rel nt g w a S hid) {l : List (Nat × AV)} (h : ∀ x v, (x, v) ∈ l → getT S.env x = v ∧ x < nt) : HasT g w a l := by
  intro x v hx
  obtain ⟨h1, h2⟩ := h x v hx
  have hlt : x < a.tmps.size := by rw [hr.size]; exact h2
  exact ⟨_, Array.getElem?_eq_getElem hlt, by rw [← h1]; exact hr.env x _ (Array.getElem?_eq_getElem hlt)⟩
def okT (nt : Nat) (l : List (Nat × AV)) (env : List (Nat × AV)) : Prop := l.map (fun x => getT env x.1) = l.map (·.2) ∧ l.all (fun x => Nat.blt x.1 nt) = true
theorem okT.all {l env : List (Nat × AV)} (h : okT nt l env) : ∀ x v, (x, v) ∈ l → getT env x = v ∧ x < nt := fun x v hx => by
  refine ⟨List.map_inj_left.1 h.1 _ hx, ?_⟩
  have := List.all_eq_true.1 h.2 _ hx
  simpa [Nat.blt_eq] using this
theorem RunL.yield (hF : Fr F) {l2 : List Oper} {dst : Option Nat} {f : Operand} {as_ : List Operand} {ts : Array TypeId} {ty : TypeId} {pos : String} {aft : Array Edge} {gd : Option (Nat × Bool)} {l : Nat} {avs : List AV} {lf la : List (Nat × AV)} {R : AV → List Ent → Prop}
    (H m tl : List Ent) (hm : S.mem = H ++ (m ++ tl)) (hf : Opd f (.yieldf l) lf) (ha : Opds as_ avs la) (hT : okT nt (lf ++ la) S.env)
    (hw : ∀ g w a hid, Rel nt g w a S hid → Region.wanted ⟨dst, .call { callee := .value f, args := as_.toArray, argTypes := ts }, ty, pos, aft, gd⟩ (yielded ops a.tmps) = true) (hy : Yields P l avs m R)
    (k : ∀ r m', R r m' → RunL F P nt ops l2 ⟨putT dst r S.env, H ++ (m' ++ tl)⟩ Q) : RunL F P nt ops (⟨dst, .call { callee := .value f, args := as_.toArray, argTypes := ts }, ty, pos, aft, gd⟩ :: l2) S Q := by
  intro g0 w0 g w a hid he hr
  unfold wpListIn
  rw [hw g w a hid hr]
  have hTT := hr.hasT hT.all
  have h := hf g w a hTT.left
  have hargs := ha.rep hTT.right
  refine ⟨fun f _ => hF.fn f, ?_⟩
  rw [Oper.semAt_eq _ _ _ (by simp)]
  generalize hu : a.eval f = u at h
  cases h with
  | yieldf =>
    have hi0 : Inv g w (m ++ (H ++ (tl ++ hid.map Ent.mark))) := by
      have := hr.inv
      rw [hm] at this
      refine this.perm ?_
      simp only [List.append_assoc]
      exact perm_mid H m _
    obtain ⟨f', tmps, as', bo, hrun, hround⟩ := hy _ g w _ hi0 hargs
    have hexec : (execOp a.eval ⟨dst, .call { callee := .value f, args := as_.toArray, argTypes := ts }, ty, pos, aft, gd⟩).run P w = .ok (.round l f' tmps as' bo) w := by
      simp only [execOp, resolve, hu, Deferred.ofValue, invoke, Sem.run_bind, Sem.run_pure, Result.andThen_ok]
      simpa using hrun
    rw [hexec, Oper.uponIn_round]
    refine ⟨fun hd => by rw [hF.depth] at hd; simp at hd, (hround F hF).mono ?_⟩
    rintro e w' ⟨v, r, m', g', rfl, hR, hv, hinv, hext⟩
    refine k r m' hR g0 w0 g' w' _ hid (he.trans hext) (hr.put hext ?_ hv)
    refine hinv.perm ?_
    rw [List.append_assoc, List.append_assoc]
    exact (perm_mid H m' _).symm
theorem RunL.callNew (hF : Fr F) {l2 : List Oper} {dst : Option Nat} {n : FuncId} {f : Operand} {as_ : List Operand} {ts : Array TypeId} {ty : TypeId} {pos : String} {aft : Array Edge} {fa ca avs : List AV} {lf la : List (Nat × AV)} {R : AV → List Ent → Prop}
    (hf : Opd f (.func n fa ca) lf) (ha : Opds as_ avs la) (hc : Callable P n) (hT : okT nt (lf ++ la) S.env) (hm : MeetsNew P n (fa ++ avs ++ ca) R)
    (k : ∀ r new, R r new → ∃ L', Move S.mem new L' ∧ RunL F P nt ops l2 ⟨putT dst r S.env, L'⟩ Q) : RunL F P nt ops (⟨dst, .call { callee := .value f, args := as_.toArray, argTypes := ts }, ty, pos, aft, none⟩ :: l2) S Q := by
  intro g0 w0 g w a hid he hr
  unfold wpListIn
  simp only [Region.wanted, if_true]
  have hTT := hr.hasT hT.all
  have h := hf g w a hTT.left
  have hargs := ha.rep hTT.right
  refine ⟨fun f _ => hF.fn f, ?_⟩
  rw [Oper.semAt_eq _ _ _ (by simp)]
  generalize hu : a.eval f = u at h
  cases h with
  | func h1 h2 r1 r2 =>
    rename_i first caps
    have hall : RepAll g w (first ++ (as_.map a.eval).toArray ++ caps) (fa ++ avs ++ ca) := RepAll.append (RepAll.append ⟨h1, r1⟩ hargs) ⟨h2, r2⟩
    have hrun : (execOp a.eval ⟨dst, .call { callee := .value f, args := as_.toArray, argTypes := ts }, ty, pos, aft, none⟩).run P w = .ok (.enter n (first ++ (as_.map a.eval).toArray ++ caps)) w := by
      simp [execOp, resolve, hu, Deferred.ofValue, invoke, run_callFunc hc]
    rw [hrun, Oper.uponIn_enter]
    refine ⟨fun hd => by rw [hF.depth] at hd; simp at hd, Calls.inF hF ?_ _⟩
    refine (hm _ g w _ hr.inv hall).mono ?_
    rintro e w' ⟨v, r', mem', g', rfl, ⟨new, rfl, hR⟩, h3, h4, h5⟩
    obtain ⟨L', hmv, hk⟩ := k r' new hR
    exact hk g0 w0 g' w' _ hid (he.trans h5) (hr.put h5 (hmv g' w' _ h4) h3)
end
end Go.Proofs.Yteomgedahkpnlaa
end
section

namespace Go.Proofs.Yteomgedahkpnlaa
open Go.RowKit
section
variable {F : Fence} {P : Program} {nt : Nat} {ops : Array Oper} {S : St} {Q : Exit → St → Prop}
theorem yielded_bool {j gt : Nat} {b : Bool} (hj : (ops[j]?).bind (·.dst) = some gt) (hb : getT S.env gt = .bool b) (hgt : Nat.blt gt nt = true) {g : Gh} {w : World} {a : Act} {hid : List Nat} (hr : Rel nt g w a S hid) : yielded ops a.tmps j = some b := by
  have h := hr.eval (c := gt) (by simpa [Nat.blt_eq] using hgt)
  rw [hb] at h
  have hlt : gt < a.tmps.size := by rw [hr.size]; simpa [Nat.blt_eq] using hgt
  unfold yielded
  rw [hj]
  simp only [Option.bind_some]
  have he : a.eval (.tmp gt) = a.tmps[gt] := by simp [Act.eval, hlt]
  rw [he] at h
  generalize hu : a.tmps[gt] = u at h
  cases h
  rw [Array.getElem?_eq_getElem hlt, hu]
theorem want_gd {j gt : Nat} {b want : Bool} {d : Option Nat} {op : Op} {ty : TypeId} {pos : String} {aft : Array Edge} (hj : (ops[j]?).bind (·.dst) = some gt) (hb : getT S.env gt = .bool b) (hgt : Nat.blt gt nt = true) (e : b = want) {g : Gh} {w : World} {a : Act} {hid : List Nat} (hr : Rel nt g w a S hid) :
    Region.wanted ⟨d, op, ty, pos, aft, some (j, want)⟩ (yielded ops a.tmps) = true := by
  simp only [Region.wanted, yielded_bool hj hb hgt hr]
  subst e
  simp
theorem unwant_gd {j gt : Nat} {b want : Bool} {d : Option Nat} {op : Op} {ty : TypeId} {pos : String} {aft : Array Edge} (hj : (ops[j]?).bind (·.dst) = some gt) (hb : getT S.env gt = .bool b) (hgt : Nat.blt gt nt = true) (e : b = !want) {g : Gh} {w : World} {a : Act} {hid : List Nat} (hr : Rel nt g w a S hid) :
    Region.wanted ⟨d, op, ty, pos, aft, some (j, want)⟩ (yielded ops a.tmps) = false := by
  simp only [Region.wanted, yielded_bool hj hb hgt hr]
  subst e
  cases want <;> rfl
theorem RunL.cases {l : List Oper} (b : Bool) (h1 : b = true → RunL F P nt ops l S Q) (h2 : b = false → RunL F P nt ops l S Q) : RunL F P nt ops l S Q := by
  cases b with
  | true => exact h1 rfl
  | false => exact h2 rfl
theorem RunL.skip (hF : Fr F) {l2 : List Oper} {o : Oper} {b : Bool} (v : AV) (hb : b = false) (hw : ∀ g w a hid, Rel nt g w a S hid → Region.wanted o (yielded ops a.tmps) = false) (h : RunL F P nt ops l2 ⟨putT o.dst (.cond b v) S.env, S.mem⟩ Q) : RunL F P nt ops (o :: l2) S Q := by
  intro g0 w0 g w a hid he hr
  unfold wpListIn
  rw [hw g w a hid hr]
  exact ⟨fun f _ => hF.fn f, h g0 w0 g w _ hid he (hr.put (Stab.refl g w) hr.inv (.condF hb))⟩
end
theorem Fr.inRound {F : Fence} (hF : Fr F) (l : Nat) : Fr (F.inRound l) := ⟨hF.fn, hF.depth, fun P => hF.wide P⟩
def World.putO (w : World) (l : Nat) (o : Obj) : World := { w with heap := w.heap.setIfInBounds l o }
theorem Inv.setLoop {g : Gh} {w : World} {mem : List Ent} (h : Inv g w mem) {p l : Nat} {st : LoopState} {pend : Option Code} {ps : Array Tmp} {as_ bo : Code} {env : List (Nat × AV)} {nt : Nat}
    (hm : mem[p]? = some (.loop l st pend ps as_ bo env nt)) (st' : LoopState) (pend' : Option Code) :
    ∃ fn tmps d, w.heap[l]? = some (.loop { state := st, pending := pend, fn := fn, tmps := tmps, params := ps, assign := as_, body := bo, defers := d }) ∧ tmps.size = nt ∧ EnvOK g w env tmps ∧
      (let w' := World.putO w l (.loop { state := st', pending := pend', fn := fn, tmps := tmps, params := ps, assign := as_, body := bo, defers := d })
       Ext g w g w' ∧ Inv g w' (mem.set p (.loop l st' pend' ps as_ bo env nt))) := by
  obtain ⟨hb, ⟨fn, tmps, d, hl, hsz, henv⟩, him⟩ := h.ok _ (List.mem_of_getElem? hm)
  refine ⟨fn, tmps, d, hl, hsz, henv, ?_⟩
  intro w'
  have hlt : l < w.heap.size := (Array.getElem?_eq_some_iff.1 hl).1
  have hheap : ∀ b, b ≠ l → w'.heap[b]? = w.heap[b]? := fun b hne => by
    show (w.heap.setIfInBounds l _)[b]? = _
    rw [Array.getElem?_setIfInBounds_ne (Ne.symm hne)]
  have hst : Ext g w g w' := ⟨rfl, ⟨rfl, rfl, rfl, by simp [w', World.putO], fun k hk => hheap k (by omega)⟩, fun b o hi => ⟨hi, by
    have hne : b ≠ l := fun e => by subst e; exact him o hi
    simp only [World.cell?, hheap b hne]⟩, fun _ _ _ => rfl, fun s hs => by cases hs⟩
  refine ⟨hst, h.set hst p _ ?_ ?_ (fun b o hi => by simpa [w', World.putO] using h.lt b o hi) h.room⟩
  · intro i e b hi hne hbk
    have hbl : b ≠ l := by
      intro e'
      subst e'
      exact hne (h.apart i p e _ b hi hm hbk rfl)
    exact ⟨hheap b hbl, fun _ h => h, by simp only [Ent.block, ne_eq, Option.some.injEq]; exact fun e => hbl e.symm⟩
  · refine ⟨hb, ⟨fn, tmps, d, ?_, hsz, henv.stab hst⟩, him⟩
    show (w.heap.setIfInBounds l _)[l]? = _
    rw [Array.getElem?_setIfInBounds_self_of_lt hlt]
theorem run_newObj' {P : Program} (w : World) (o : Obj) : (newObj o).run P w = .ok w.heap.size (w.alloc o) := by
  unfold newObj Sem.run
  rfl
theorem run_getLoop {P : Program} {w : World} {l : Nat} {r : Loop} (h : w.heap[l]? = some (.loop r)) : (Instr.getLoop l).run P w = .ok r w := by
  simp [Instr.getLoop, getObj, Sem.run, h, Result.andThen]
theorem run_setLoop {P : Program} {w : World} {l : Nat} {r : Loop} {o' : Obj} (h : w.heap[l]? = some (.loop r)) : (setObj l o').run P w = .ok () (World.putO w l o') := by
  have hlt := (Array.getElem?_eq_some_iff.1 h).1
  simp [setObj, Sem.run, World.putO, h]
theorem run_begin {P : Program} {w : World} {l : Nat} {r : Loop} (h : w.heap[l]? = some (.loop r)) (hr : r.state = .ready) : (Instr.beginRound l).run P w = .ok () (World.putO w l (.loop { r with state := .busy })) := by
  simp [Instr.beginRound, run_getLoop h, run_setLoop h, hr, Result.andThen]
theorem run_endRound {P : Program} {w : World} {l : Nat} {r : Loop} (j : Option Code) (h : w.heap[l]? = some (.loop r)) :
    (Instr.endRound l j).run P w = .ok (.bool j.isNone) (World.putO w l (.loop { r with state := if j.isNone then .ready else .done, pending := j })) := by
  simp [Instr.endRound, run_getLoop h, run_setLoop h, Result.andThen]
theorem run_endLoop {P : Program} {w : World} {l : Nat} {r : Loop} (h : w.heap[l]? = some (.loop r)) (hr : r.state ≠ .busy) :
    (Instr.endLoop l).run P w = .ok r.pending (World.putO w l (.loop { r with state := .exhausted })) := by
  have : (r.state == LoopState.busy) = false := by cases hs : r.state <;> simp_all
  simp [Instr.endLoop, run_getLoop h, run_setLoop h, this, Result.andThen]
  exact fun h => absurd h hr
def parEnv : List Tmp → List AV → List (Nat × AV) → List (Nat × AV)
  | p :: ps, a :: as_, env => parEnv ps as_ ((p, a) :: env)
  | _, _, env => env
theorem env_par {g : Gh} {w : World} : ∀ (ps : List Tmp) (vs : List Value) (as_ : List AV) (env : List (Nat × AV)) (tmps : Array Value), ps.length = vs.length → vs.length = as_.length →
    (∀ (i : Nat) v a, vs[i]? = some v → as_[i]? = some a → Rep g w v a) → EnvOK g w env tmps → EnvOK g w (parEnv ps as_ env) ((ps.zip vs).foldl (fun tmps (t, a) => tmps.setIfInBounds t a) tmps)
  | [], [], [], env, tmps, _, _, _, he => he
  | p :: ps, v :: vs, a :: as_, env, tmps, h1, h2, hr, he => by
    simp only [parEnv, List.zip_cons_cons, List.foldl_cons]
    refine env_par ps vs as_ _ _ (by simpa using h1) (by simpa using h2) (fun i v a x y => hr (i + 1) v a (by simpa using x) (by simpa using y)) ?_
    intro x u hx
    rw [Array.getElem?_setIfInBounds] at hx
    show Rep g w u (if x = p then a else getT env x)
    by_cases hxp : p = x
    · subst hxp
      rw [if_pos rfl] at hx ⊢
      split at hx
      · injection hx with hx
        subst hx
        exact hr 0 v a rfl rfl
      · cases hx
    · rw [if_neg hxp] at hx
      rw [if_neg (fun e => hxp e.symm)]
      exact he x u hx
theorem size_par : ∀ (ps : List Tmp) (vs : List Value) (tmps : Array Value), ((ps.zip vs).foldl (fun tmps (t, a) => tmps.setIfInBounds t a) tmps).size = tmps.size
  | [], _, _ => rfl
  | _ :: _, [], _ => rfl
  | p :: ps, v :: vs, tmps => by
    simp only [List.zip_cons_cons, List.foldl_cons]
    rw [size_par ps vs]
    simp
section
variable {P : Program} {nt : Nat}
def roundR (l p : Nat) (ps : Array Tmp) (as_ bo : Code) (env : List (Nat × AV)) (nt : Nat) (tail : List Ent) (R : AV → List Ent → Prop) (ex : Exit) (S : St) : Prop :=
  ∃ T, Weak S T ∧ ∃ m', T.mem = m' ++ tail ∧ m'[p]? = some (.loop l .busy none ps as_ bo env nt) ∧
    match ex with
    | .normal => R (.bool true) (m'.set p (.loop l .ready none ps as_ bo env nt))
    | .ret => R (.bool false) (m'.set p (.loop l .done (some .ret) ps as_ bo env nt))
    | .exit id => R (.bool false) (m'.set p (.loop l .done (some (.exit id)) ps as_ bo env nt))
    | _ => False
theorem Yields.round {l p : Nat} {ps : Array Tmp} {as_ bo : Code} {env : List (Nat × AV)} {args : List AV} {m : List Ent} {R : AV → List Ent → Prop} (hm : m[p]? = some (.loop l .ready none ps as_ bo env nt)) (hps : ps.size = args.length)
    (h : ∀ (F : Fence), Fr F → F.round = some l → ∀ tail, AC F P nt as_ ⟨parEnv ps.toList args env, m ++ tail⟩ (thenQ (fun S => ∃ m1, S.mem = m1 ++ tail ∧ m1[p]? = some (.loop l .ready none ps as_ bo env nt) ∧
      AC F P nt bo ⟨S.env, m1.set p (.loop l .busy none ps as_ bo env nt) ++ tail⟩ (roundR l p ps as_ bo env nt tail R)) (fun _ _ => False))) : Yields P l args m R := by
  intro tail g w vs hi hr
  have hmt : (m ++ tail)[p]? = some (.loop l .ready none ps as_ bo env nt) := by rw [List.getElem?_append_left (List.getElem?_eq_some_iff.1 hm).1]; exact hm
  obtain ⟨hb, ⟨fn, tmps, d, hl, hsz, henv⟩, him⟩ := hi.ok _ (List.mem_of_getElem? hmt)
  have hvs : ps.size = vs.size := by rw [hps, hr.1]
  refine ⟨fn, (ps.zip vs).foldl (fun tmps (t, a) => tmps.setIfInBounds t a) tmps, as_, bo, ?_, ?_⟩
  · simp [Instr.yield, run_getLoop hl, hvs, Result.andThen]
  intro F hF
  refine roundIn_of_wpIn (hF.fn fn) ?_
  have hfold : (ps.zip vs).foldl (fun tmps (t, a) => tmps.setIfInBounds t a) tmps = (ps.toList.zip vs.toList).foldl (fun tmps (t, a) => tmps.setIfInBounds t a) tmps := by
    rw [← Array.foldl_toList, Array.toList_zip]
  have hrel : Rel nt g w { tmps := (ps.zip vs).foldl (fun tmps (t, a) => tmps.setIfInBounds t a) tmps, defers := [] } ⟨parEnv ps.toList args env, m ++ tail⟩ [] := by
    refine ⟨?_, rfl, ?_, by simpa using hi⟩
    · show Array.size _ = nt
      rw [hfold, size_par, hsz]
    · show EnvOK g w (parEnv ps.toList args env) ((ps.zip vs).foldl (fun tmps (t, a) => tmps.setIfInBounds t a) tmps)
      rw [hfold]
      exact env_par ps.toList vs.toList args env tmps (by simpa using hvs) (by simpa using hr.1) (fun i v a x y => hr.2 i v a (by simpa using x) y) henv
  refine wpIn_mono (h (F.inRound l) (hF.inRound l) rfl tail g w _ [] hrel) ?_
  rintro ex a1 w1 ⟨g1, S1, hid1, h1, h2, h3⟩
  cases ex with
  | normal =>
    obtain ⟨m1, hm1, hp1, hbody⟩ := h3
    have hlt1 := (List.getElem?_eq_some_iff.1 hp1).1
    have hat : (S1.mem ++ hid1.map Ent.mark)[p]? = some (.loop l .ready none ps as_ bo env nt) := by
      rw [hm1, List.append_assoc, List.getElem?_append_left hlt1]; exact hp1
    obtain ⟨fn1, tmps1, d1, hl1, hsz1, henv1, hext, hinv⟩ := h1.inv.setLoop hat .busy none
    refine ⟨_, run_begin hl1 rfl, ?_⟩
    have hrel2 : Rel nt g1 (World.putO w1 l (.loop { state := .busy, pending := none, fn := fn1, tmps := tmps1, params := ps, assign := as_, body := bo, defers := d1 })) a1 ⟨S1.env, m1.set p (.loop l .busy none ps as_ bo env nt) ++ tail⟩ hid1 := by
      refine ⟨h1.size, h1.defers, EnvOK.stab hext h1.env, ?_⟩
      rw [hm1, List.append_assoc, List.set_append_left _ _ hlt1, ← List.append_assoc] at hinv
      exact hinv
    refine wpIn_mono (hbody g1 (World.putO w1 l (.loop { state := .busy, pending := none, fn := fn1, tmps := tmps1, params := ps, assign := as_, body := bo, defers := d1 })) a1 hid1 hrel2) ?_
    rintro ex2 a2 w2 ⟨g2, S20, hid2, k10, k2, S2, kw, m2, k3, k4, k5⟩
    have k1 := k10.weak kw
    have hlt2 := (List.getElem?_eq_some_iff.1 k4).1
    have hat2 : (S2.mem ++ hid2.map Ent.mark)[p]? = some (.loop l .busy none ps as_ bo env nt) := by
      rw [k3, List.append_assoc, List.getElem?_append_left hlt2]; exact k4
    have fin : ∀ (st : LoopState) (j : Option Code), ∃ fn d tmps, w2.heap[l]? = some (.loop { state := .busy, pending := none, fn := fn, tmps := tmps, params := ps, assign := as_, body := bo, defers := d }) ∧
        Ext g w g2 (World.putO w2 l (.loop { state := st, pending := j, fn := fn, tmps := tmps, params := ps, assign := as_, body := bo, defers := d })) ∧
        Inv g2 (World.putO w2 l (.loop { state := st, pending := j, fn := fn, tmps := tmps, params := ps, assign := as_, body := bo, defers := d })) (m2.set p (.loop l st j ps as_ bo env nt) ++ tail) := by
      intro st j
      obtain ⟨fn2, tmps2, d2, hl2, hsz2, henv2, hext2, hinv2⟩ := k1.inv.setLoop hat2 st j
      refine ⟨fn2, d2, tmps2, hl2, h2.trans (hext.trans (k2.trans hext2)), ?_⟩
      rw [k3, List.append_assoc, List.set_append_left _ _ hlt2, ← List.append_assoc] at hinv2
      have := hinv2.take (m2.set p (.loop l st j ps as_ bo env nt) ++ tail).length
      rw [List.take_left] at this
      exact this
    cases ex2 with
    | normal =>
      obtain ⟨fn2, d2, tmps2, f1, f2, f3⟩ := fin .ready none
      exact ⟨_, _, run_endRound none f1, _, _, _, g2, rfl, k5, .bool _, f3, f2⟩
    | ret =>
      obtain ⟨fn2, d2, tmps2, f1, f2, f3⟩ := fin .done (some .ret)
      exact ⟨_, _, run_endRound (some .ret) f1, _, _, _, g2, rfl, k5, .bool _, f3, f2⟩
    | exit id =>
      obtain ⟨fn2, d2, tmps2, f1, f2, f3⟩ := fin .done (some (.exit id))
      exact ⟨_, _, run_endRound (some (.exit id)) f1, _, _, _, g2, rfl, k5, .bool _, f3, f2⟩
    | goto t => exact k5.elim
    | panic ch => exact k5.elim
    | outgrown => exact k5.elim
  | ret => exact h3.elim
  | exit id => exact h3.elim
  | goto t => exact h3.elim
  | panic ch => exact h3.elim
  | outgrown => exact h3.elim
def roundL (l p : Nat) (ps : Array Tmp) (as_ bo : Code) (env : List (Nat × AV)) (nt : Nat) (L Lb : Ent) (tail : List Ent) (R : AV → List Ent → Prop) (ex : Exit) (S : St) : Prop :=
  ∃ T, Weak S T ∧ ∃ m', T.mem = m' ++ tail ∧ m'[p]? = some Lb ∧
    match ex with
    | .normal => R (.bool true) (m'.set p L)
    | .ret => R (.bool false) (m'.set p (.loop l .done (some .ret) ps as_ bo env nt))
    | .exit id => R (.bool false) (m'.set p (.loop l .done (some (.exit id)) ps as_ bo env nt))
    | _ => False
theorem set_same {m : List Ent} {p : Nat} {e : Ent} (h : m[p]? = some e) : m.set p e = m := by
  apply List.ext_getElem?
  intro i
  rw [List.getElem?_set]
  split
  · rename_i hip
    subst hip
    rw [if_pos (List.getElem?_eq_some_iff.1 h).1, h]
  · rfl
theorem Yields.roundL {l p : Nat} {ps : Array Tmp} {as_ bo : Code} {env : List (Nat × AV)} {args : List AV} {m : List Ent} {R : AV → List Ent → Prop} (hm : m[p]? = some (.loop l .ready none ps as_ bo env nt)) (hps : ps.size = args.length)
    (h : ∀ L Lb : Ent, L = .loop l .ready none ps as_ bo env nt → Lb = .loop l .busy none ps as_ bo env nt → ∀ (F : Fence), Fr F → F.round = some l → ∀ tail, AC F P nt as_ ⟨parEnv ps.toList args env, m.set p L ++ tail⟩ (thenQ (fun S => ∃ m1, S.mem = m1 ++ tail ∧ m1[p]? = some L ∧
      AC F P nt bo ⟨S.env, m1.set p Lb ++ tail⟩ (Go.Proofs.Yteomgedahkpnlaa.roundL l p ps as_ bo env nt L Lb tail R)) (fun _ _ => False))) : Yields P l args m R := by
  refine .round hm hps fun F hF hr tail => ?_
  have := h _ _ rfl rfl F hF hr tail
  rw [set_same hm] at this
  exact this
def RoundOK (F : Fence) (mem : List Ent) : Prop := F.round = none ∨ ∃ (l q : Nat) (st : LoopState) (pend : Option Code) (ps : Array Tmp) (as_ bo : Code) (env : List (Nat × AV)) (nt : Nat), F.round = some l ∧ mem[q]? = some (Ent.loop l st pend ps as_ bo env nt)
theorem Inv.newLoop {g : Gh} {w : World} {mem : List Ent} (h : Inv g w mem) {p : Nat} (hp : mem[p]? = some .hole) {fn : FuncId} {tmps : Array Value} {ps : Array Tmp} {as_ bo : Code} {d : Nat} {env : List (Nat × AV)} {nt : Nat} (hsz : tmps.size = nt) (he : EnvOK g w env tmps) :
    let w' := w.alloc (Obj.loop { state := .ready, pending := none, fn := fn, tmps := tmps, params := ps, assign := as_, body := bo, defers := d })
    Ext g w g w' ∧ Inv g w' (mem.set p (Ent.loop w.heap.size .ready none ps as_ bo env nt)) := by
  intro w'
  have hst : Ext g w g w' := ⟨rfl, (Below.refl _ _).alloc h.base _, fun b o hi => ⟨hi, by simp only [World.cell?, w', alloc_old w _ (h.lt b o hi)]⟩, fun _ _ _ => rfl, fun s hs => by cases hs⟩
  refine ⟨hst, h.set hst p _ ?_ ?_ (fun b o hi => by have := h.lt b o hi; simp [w']; omega) h.room⟩
  · intro i e b hi hne hb
    have hlt := (h.ok e (List.mem_of_getElem? hi)).block_lt hb
    refine ⟨alloc_old w _ hlt.2, fun _ hh => hh, ?_⟩
    simp only [Ent.block, ne_eq, Option.some.injEq]
    omega
  · exact ⟨h.base, ⟨fn, tmps, d, alloc_new w _, hsz, he.stab hst⟩, fun o ho => by have := h.lt _ _ ho; omega⟩
theorem Inv.newMark {g : Gh} {w : World} {mem : List Ent} (h : Inv g w mem) : Ext g w g (w.alloc (.deferred (some []))) ∧ Inv g (w.alloc (.deferred (some []))) (Ent.mark w.heap.size :: mem) := by
  have hst : Ext g w g (w.alloc (.deferred (some []))) := ⟨rfl, (Below.refl _ _).alloc h.base _, fun b o hi => ⟨hi, by simp only [World.cell?, alloc_old w _ (h.lt b o hi)]⟩, fun _ _ _ => rfl, fun s hs => by cases hs⟩
  refine ⟨hst, ?_⟩
  have h1 : Inv g w (.hole :: mem) := by simpa using h.holes 1
  have := h1.set hst 0 (.mark w.heap.size) ?_ ?_ (fun b o hi => by have := h.lt b o hi; simp; omega) h.room
  · simpa using this
  · intro i e b hi hne hb
    have hlt := (h1.ok e (List.mem_of_getElem? hi)).block_lt hb
    refine ⟨alloc_old w _ hlt.2, fun _ hh => hh, ?_⟩
    simp only [Ent.block, ne_eq, Option.some.injEq]
    omega
  · exact ⟨h.base, alloc_new w _, fun o ho => by have := h.lt _ _ ho; omega⟩
def jumpQ (Q : Exit → St → Prop) (S : St) : Option Code → Prop
  | none => Q .normal S
  | some .ret => Q .ret S
  | some (.exit id) => Q (.exit id) S
  | _ => False
theorem AC.range {F : Fence} (hF : Fr F) {x : Nat} {ps : Array Tmp} {as_ bo : Code} {S : St} {Q : Exit → St → Prop} (p : Nat) {n : FuncId} {fs caps : List AV} (hx : getT S.env x = .func n fs caps) (hxn : Nat.blt x nt = true) (hc : Callable P n)
    (hp : S.mem[p]? = some .hole) (hR : RoundOK F S.mem)
    (h : ∀ l, ∃ R, MeetsT P n (fs ++ [.yieldf l] ++ caps) (S.mem.set p (.loop l .ready none ps as_ bo S.env nt)) R ∧
      ∀ r m', R r m' → ∃ st pend, m'[p]? = some (.loop l st pend ps as_ bo S.env nt) ∧ st ≠ .busy ∧ jumpQ Q ⟨S.env, m'.set p .hole⟩ pend) : AC F P nt (.rangeFunc (.tmp x) ps as_ bo) S Q := by
  intro g w a hid hr
  refine wpIn_rangeFunc fun fn hfn => ?_
  have hlt : p < S.mem.length := (List.getElem?_eq_some_iff.1 hp).1
  have hent : ∃ (mark : List Nat) (w1 : World) (l : Nat) (d : Nat), (Instr.enterLoop fn a.tmps ps as_ bo F.round).run P w = .ok (l, mark.map markDefer) w1 ∧ Ext g w g w1 ∧
      Inv g w1 (S.mem.set p (.loop l .ready none ps as_ bo S.env nt) ++ (mark ++ hid).map Ent.mark) := by
    rcases hR with hR | ⟨l0, q, st, pend, ps', as', bo', env', nt', hR, hq⟩
    · obtain ⟨e1, i1⟩ := hr.inv.newMark
      have hset : (Ent.mark w.heap.size :: (S.mem ++ hid.map Ent.mark))[p + 1]? = some .hole := by
        rw [List.getElem?_cons_succ, List.getElem?_append_left hlt]; exact hp
      obtain ⟨e2, i2⟩ := i1.newLoop hset (fn := fn) (ps := ps) (as_ := as_) (bo := bo) (d := w.heap.size) hr.size (EnvOK.stab e1 hr.env)
      refine ⟨[w.heap.size], _, (w.alloc (Obj.deferred (some []))).heap.size, w.heap.size, ?_, e1.trans e2, ?_⟩
      · simp [Instr.enterLoop, hR, run_newObj', Result.andThen, markDefer]
      · rw [List.set_cons_succ, List.set_append_left _ _ hlt] at i2
        refine i2.perm ?_
        rw [List.singleton_append, List.map_cons]
        exact (List.perm_middle (l₁ := S.mem.set p _) (l₂ := hid.map Ent.mark) (a := Ent.mark w.heap.size)).symm
    · have hq' : (S.mem ++ hid.map Ent.mark)[q]? = some (.loop l0 st pend ps' as' bo' env' nt') := by
        rw [List.getElem?_append_left (List.getElem?_eq_some_iff.1 hq).1]; exact hq
      obtain ⟨_, ⟨fn0, tmps0, d0, hl0, _⟩, _⟩ := hr.inv.ok _ (List.mem_of_getElem? hq')
      have hset : (S.mem ++ hid.map Ent.mark)[p]? = some .hole := by rw [List.getElem?_append_left hlt]; exact hp
      obtain ⟨e2, i2⟩ := hr.inv.newLoop hset (fn := fn) (ps := ps) (as_ := as_) (bo := bo) (d := d0) hr.size hr.env
      refine ⟨[], _, w.heap.size, d0, ?_, e2, ?_⟩
      · simp [Instr.enterLoop, hR, run_getLoop hl0, run_newObj', Result.andThen]
      · rw [List.set_append_left _ _ hlt] at i2
        exact i2
  obtain ⟨mark, w1, l, d, hrun, hext, hinv⟩ := hent
  obtain ⟨R, hmeets, hend⟩ := h l
  have hxv := hr.eval (c := x) (by simpa [Nat.blt_eq] using hxn)
  rw [hx] at hxv
  generalize hu : a.eval (.tmp x) = u at hxv
  cases hxv with
  | func h1 h2 r1 r2 =>
    rename_i first cs
    have hall : RepAll g w1 (first ++ #[.func (.yield l) #[] #[]] ++ cs) (fs ++ [.yieldf l] ++ caps) :=
      RepAll.append (RepAll.append ⟨h1, fun i v a x y => (r1 i v a x y).stab hext⟩ ⟨rfl, fun i v a x y => by
        match i with
        | 0 => simp at x y; subst x; subst y; exact .yieldf l
        | i + 1 => simp at x⟩) ⟨h2, fun i v a x y => (r2 i v a x y).stab hext⟩
    refine ⟨l, mark.map markDefer, w1, { target := .fn (.func n) cs, args := first ++ #[.func (.yield l) #[] #[]] }, w1, n, first ++ #[.func (.yield l) #[] #[]] ++ cs, w1, hrun, ?_, fun f' _ => hF.fn f', ?_, fun hd => by rw [hF.depth] at hd; simp at hd, ?_⟩
    · simp only [rangeCall, resolve, hu, Deferred.ofValue]
      simp [Act.eval]
    · simp [invoke, run_callFunc hc]
    refine Calls.inF hF ?_ _
    refine (hmeets _ g w1 _ hinv hall).mono ?_
    rintro e w2 ⟨v, r, mm, g2, rfl, ⟨m', rfl, hRr⟩, k1, k2, k3⟩
    obtain ⟨st, pend, hpm, hst, hj⟩ := hend r m' hRr
    have hltm := (List.getElem?_eq_some_iff.1 hpm).1
    have hat : (m' ++ (mark ++ hid).map Ent.mark)[p]? = some (.loop l st pend ps as_ bo S.env nt) := by rw [List.getElem?_append_left hltm]; exact hpm
    obtain ⟨fn3, tmps3, d3, hl3, _, _, hext3, hinv3⟩ := k2.setLoop hat .exhausted pend
    refine ⟨pend, _, run_endLoop hl3 hst, ?_⟩
    have hinv4 : Inv g2 (World.putO w2 l (.loop { state := .exhausted, pending := pend, fn := fn3, tmps := tmps3, params := ps, assign := as_, body := bo, defers := d3 })) (m'.set p .hole ++ (mark ++ hid).map Ent.mark) := by
      have h5 := hinv3.set (o := none) (Stab.refl g2 _) p .hole (fun i e b hi hne hb => ⟨rfl, fun _ h => h, by simp [Ent.block]⟩) trivial hinv3.lt hinv3.room
      rw [List.set_set, List.set_append_left _ _ hltm] at h5
      exact h5
    have hext4 := hext.trans (k3.trans hext3)
    have hrel : Rel nt g2 (World.putO w2 l (.loop { state := .exhausted, pending := pend, fn := fn3, tmps := tmps3, params := ps, assign := as_, body := bo, defers := d3 })) { a with defers := mark.map markDefer ++ a.defers } ⟨S.env, m'.set p .hole⟩ (mark ++ hid) :=
      ⟨hr.size, by simp [hr.defers], EnvOK.stab hext4 hr.env, hinv4⟩
    match pend, hj with
    | none, hj => exact ⟨g2, _, _, hrel, hext4, hj⟩
    | some .ret, hj => exact wpIn_ret ⟨g2, _, _, hrel, hext4, hj⟩
    | some (.exit id), hj => exact wpIn_exit ⟨g2, _, _, hrel, hext4, hj⟩
end
end Go.Proofs.Yteomgedahkpnlaa
end
section

namespace Go.Proofs.Yteomgedahkpnlaa
open Go.RowKit
theorem maxL_fold : ∀ (l : List Int) (x : Int), maxL x l = l.foldl max x
  | [], x => rfl
  | y :: r, x => by
    simp only [maxL, List.foldl_cons]
    rw [maxL_fold r]
    congr 1
    split <;> omega
section
variable {P : Program} {ops : Array Oper} {ty : TypeId} {pos : String} {aft : Array Edge} {d : Nat}
theorem s_maxF {os : List Operand} {k : IntKind} {x : Int} {l : List Int} {ts : Array TypeId} {lx : List (Nat × AV)} (h : Opds os ((x :: l).map (AV.int k)) lx) :
    Step P ops ⟨some d, .call { callee := .builtin .max, args := os.toArray, argTypes := ts }, ty, pos, aft, none⟩ { rT := lx, wT := some (d, .int k (l.foldl max x)) } := by
  rw [← maxL_fold]; exact s_max h
end
theorem jumpQ_none {Q : Exit → St → Prop} {S : St} (h : Q .normal S) : jumpQ Q S none := h
theorem mulB {a b : Int} (A B : Int) (ha : -A ≤ a ∧ a ≤ A) (hb : -B ≤ b ∧ b ≤ B) : -(A * B) ≤ a * b ∧ a * b ≤ A * B := by
  have h1 : a.natAbs ≤ A.natAbs := by omega
  have h2 : b.natAbs ≤ B.natAbs := by omega
  have h3 := Nat.mul_le_mul h1 h2
  rw [← Int.natAbs_mul, ← Int.natAbs_mul] at h3
  have h4 : 0 ≤ A * B := Int.mul_nonneg (by omega) (by omega)
  omega
theorem mulN {a b : Int} (A B : Int) (ha : 0 ≤ a ∧ a ≤ A) (hb : 0 ≤ b ∧ b ≤ B) : 0 ≤ a * b ∧ a * b ≤ A * B :=
  ⟨Int.mul_nonneg ha.1 hb.1, Int.mul_le_mul ha.2 hb.2 hb.1 (by omega)⟩
end Go.Proofs.Yteomgedahkpnlaa
end
section

namespace Go.Proofs.Yteomgedahkpnlaa
open Go.RowKit
theorem run_eq_int {P : Program} {t : TypeId} {k : IntKind} (h : P.underlying t = some (.int k)) (d : Nat) (k' : IntKind) (a b : Int) (w : World) : (Op.equalIn (d + 1) t (.int k' a) (.int k' b)).run P w = .ok (a == b) w := by
  simp [Op.equalIn, run_underlying h]
theorem run_eq_bool {P : Program} {t : TypeId} (h : P.underlying t = some .bool) (d : Nat) (a b : Bool) (w : World) : (Op.equalIn (d + 1) t (.bool a) (.bool b)).run P w = .ok (a == b) w := by
  simp [Op.equalIn, run_underlying h]
end Go.Proofs.Yteomgedahkpnlaa
end
section

namespace Go.Proofs.Yteomgedahkpnlaa
open Go.RowKit
def g0 (w : World) : Gh := { base := w.heap.size, imm := fun b _ => b < w.heap.size, sy := fun _ => .free }
theorem inv0 (w : World) : Inv (g0 w) w [] := ⟨fun e he => (by cases he), fun i j ei ej b h => (by simp at h), Nat.le_refl _, fun b o h => h, 0, fun _ _ => rfl⟩
def RepL (w : World) (cs : List Value) (l : List AV) : Prop := cs.length = l.length ∧ ∀ (i : Nat) v a, cs[i]? = some v → l[i]? = some a → Rep (g0 w) w v a
section
variable {H : Type} {enc : TypeId × Value → H} {P : Program} {w : World}
def Opens (enc : TypeId × Value → H) (P : Program) (w : World) (t n : Nat) (α : Type) (f : α → List AV) (ok : α → Prop) : Prop :=
  P.cellsOf t = n ∧ ∀ fuel cs x, DataW.trod enc P w 0 (fun _ => true) true fuel t cs = some x → ∃ a, ok a ∧ RepL w cs (f a)
theorem RepL.one {v : Value} {a : AV} (h : Rep (g0 w) w v a) : RepL w [v] [a] := ⟨rfl, fun i v' a' h1 h2 => by
  match i with
  | 0 => simp at h1 h2; subst h1; subst h2; exact h
  | i + 1 => simp at h1⟩
theorem RepL.app {c1 c2 : List Value} {l1 l2 : List AV} (h : RepL w c1 l1) (k : RepL w c2 l2) : RepL w (c1 ++ c2) (l1 ++ l2) := by
  refine ⟨by rw [List.length_append, List.length_append, h.1, k.1], fun i v a h1 h2 => ?_⟩
  by_cases hi : i < c1.length
  · rw [List.getElem?_append_left hi] at h1
    rw [List.getElem?_append_left (by rw [← h.1]; exact hi)] at h2
    exact h.2 i v a h1 h2
  · rw [List.getElem?_append_right (by omega)] at h1
    rw [List.getElem?_append_right (by rw [← h.1]; omega), ← h.1] at h2
    exact k.2 _ v a h1 h2
theorem Opens.int {t : TypeId} {k : IntKind} (ht : P.underlying t = some (.int k)) (hc : P.cellsOf t = 1) : Opens enc P w t 1 Int (fun n => [.int k n]) (fun n => (Lit.int k n).wf = true) :=
  ⟨hc, fun fuel cs x h => by
    obtain ⟨n, rfl, _, hw⟩ := DataW.trod_int ht h
    exact ⟨n, hw, .one (.int k n)⟩⟩
theorem Opens.bool {t : TypeId} (ht : P.underlying t = some .bool) (hc : P.cellsOf t = 1) : Opens enc P w t 1 Bool (fun b => [.bool b]) (fun _ => True) :=
  ⟨hc, fun fuel cs x h => by
    obtain ⟨n, rfl, _⟩ := DataW.trod_bool ht h
    exact ⟨n, trivial, .one (.bool n)⟩⟩
theorem Opens.str {t : TypeId} (ht : P.underlying t = some .string) (hc : P.cellsOf t = 1) : Opens enc P w t 1 ByteArray (fun s => [.str s]) (fun s => s.size ≤ maxLen) :=
  ⟨hc, fun fuel cs x h => by
    obtain ⟨n, rfl, _, hw⟩ := DataW.trod_string ht h
    exact ⟨n, hw, .one (.str n)⟩⟩
theorem Opens.map {t n : Nat} {α β : Type} {f : α → List AV} {ok : α → Prop} (h : Opens enc P w t n α f ok) (φ : α → β) (f' : β → List AV) (ok' : β → Prop) (hf : ∀ a, f a = f' (φ a)) (hok : ∀ a, ok a → ok' (φ a)) : Opens enc P w t n β f' ok' :=
  ⟨h.1, fun fuel cs x hx => by
    obtain ⟨a, h1, h2⟩ := h.2 fuel cs x hx
    exact ⟨φ a, hok a h1, by rw [← hf]; exact h2⟩⟩
inductive OpensF (enc : TypeId × Value → H) (P : Program) (w : World) : List Field → Nat → (α : Type) → (α → List AV) → (α → Prop) → Prop
  | nil (off : Nat) : OpensF enc P w [] off Unit (fun _ => []) (fun _ => True)
  | cons {fd : Field} {fs : List Field} {off n : Nat} {α β : Type} {f : α → List AV} {f' : β → List AV} {ok : α → Prop} {ok' : β → Prop} (ho : fd.offset = off) (h : Opens enc P w fd.type n α f ok)
      (r : OpensF enc P w fs (off + n) β f' ok') : OpensF enc P w (fd :: fs) off (α × β) (fun x => f x.1 ++ f' x.2) (fun x => ok x.1 ∧ ok' x.2)
theorem OpensF.get {fs : List Field} {off : Nat} {α : Type} {f : α → List AV} {ok : α → Prop} (h : OpensF enc P w fs off α f ok) : ∀ (cs : List Value),
    (∀ (i : Nat) fd, fs[i]? = some fd → ∃ fuel x, DataW.trod enc P w 0 (fun _ => true) true fuel fd.type ((cs.drop fd.offset).take (P.cellsOf fd.type)) = some x) → ∃ a k, ok a ∧ (f a).length = k ∧ RepL w ((cs.drop off).take k) (f a) := by
  induction h with
  | nil off => exact fun cs _ => ⟨(), 0, trivial, rfl, by rw [List.take_zero]; exact ⟨rfl, fun i v a h => by simp at h⟩⟩
  | cons ho h r ih =>
    rename_i fd fs off n α β f f' ok ok'
    intro cs hcs
    obtain ⟨fuel, x, hx⟩ := hcs 0 fd rfl
    rw [ho, h.1] at hx
    obtain ⟨a, h1, h2⟩ := h.2 fuel _ x hx
    obtain ⟨b, k, h3, h4, h5⟩ := ih cs (fun i fd' hi => hcs (i + 1) fd' (by simpa using hi))
    refine ⟨(a, b), (f a).length + k, ⟨h1, h3⟩, by simp [h4], ?_⟩
    have hl : ((cs.drop off).take n).length = (f a).length := h2.1
    have hsplit : (cs.drop off).take ((f a).length + k) = (cs.drop off).take n ++ (cs.drop (off + n)).take k := by
      rcases Nat.lt_or_ge (cs.drop off).length n with hlt | hge
      ·
        have hlen : (f a).length = (cs.drop off).length := by rw [← hl, List.length_take]; omega
        have hnil : cs.drop (off + n) = [] := by
          apply List.drop_eq_nil_of_le
          rw [List.length_drop] at hlt
          omega
        have hk : k = 0 := by
          have := h5.1
          rw [hnil, List.take_nil] at this
          rw [← h4]; simpa using this.symm
        rw [hnil, hk, List.take_nil, List.append_nil, Nat.add_zero, hlen, List.take_length, List.take_of_length_le (by omega)]
      · have hlen : (f a).length = n := by rw [← hl, List.length_take]; omega
        rw [hlen, List.take_add, List.drop_drop]
    rw [hsplit]
    exact h2.app h5
theorem Opens.struct {t n : Nat} {fs : Array Field} {α : Type} {f : α → List AV} {ok : α → Prop} (ht : P.underlying t = some (.struct fs)) (hc : P.cellsOf t = n) (h : OpensF enc P w fs.toList 0 α f ok) (hn : ∀ a, (f a).length = n) : Opens enc P w t n α f ok :=
  ⟨hc, fun fuel cs x hx => by
    obtain ⟨xs, m, rfl, rfl, hl, hlen, hf⟩ := DataW.trod_struct ht hx
    obtain ⟨a, k, h1, h2, h3⟩ := h.get cs fun i fd hi => by
      rw [Array.getElem?_toList] at hi
      have := hf i fd hi
      have hlt : i < xs.length := by rw [hlen]; exact (Array.getElem?_eq_some_iff.1 hi).1
      exact ⟨m, xs[i], by rw [this]; exact List.getElem?_eq_getElem hlt⟩
    refine ⟨a, h1, ?_⟩
    rw [hn] at h2
    subst h2
    rw [List.drop_zero, List.take_of_length_le (by rw [hl, hc]; exact Nat.le_refl _)] at h3
    exact h3⟩
theorem Opens.slice {t e n : Nat} {α : Type} {f : α → List AV} {ok : α → Prop} (g : α → AV) (ht : P.underlying t = some (.slice e)) (hc : P.cellsOf t = 1) (h : Opens enc P w e n α f ok) (hn : 0 < n) (hg : ∀ a, (g a).cells = f a) (hfl : ∀ a, (f a).length = n) :
    Opens enc P w t 1 (List α) (fun l => [.slice (l.map g) none]) (fun l => l.length ≤ maxLen ∧ ∀ a ∈ l, ok a) := by
  refine ⟨hc, fun fuel cs x hx => ?_⟩
  rcases DataW.trod_slice ht hx with ⟨rfl, _⟩ | ⟨a, len, cap, elems, rest, m, _, rfl, _, hb, hl, hm, hlen, hel, _⟩
  · exact ⟨[], ⟨by simp, fun a ha => by cases ha⟩, .one (.slice 0 0 (fun _ _ => undef) rfl (fun h => absurd rfl h) (sz := 0) (fun e he => by cases he) (fun i e j c h => by simp at h) (fun i e j c h => by simp at h) (Nat.le_refl _) (fun s hs => by cases hs))⟩
  ·
    have each : ∀ i, i < len → ∃ (a' : α) (cs' : List Value), ok a' ∧ RepL w cs' (f a') ∧ cs'.length = n ∧ ∀ j, j < n → w.cell? ((a.add (i * n)).add j) = cs'[j]? := by
      intro i hi
      have h1 := hel i hi
      rw [List.getElem?_eq_getElem (by omega), h.1, Option.bind_eq_some_iff] at h1
      obtain ⟨cs', h2, h3⟩ := h1
      obtain ⟨a', h4, h5⟩ := h.2 m cs' _ h3
      obtain ⟨h6, h7, h8⟩ := World.cells?_some h2
      exact ⟨a', cs', h4, h5, h7, h8⟩
    have hlist : ∀ k, k ≤ len → ∃ L : List (α × List Value), L.length = k ∧ ∀ (i : Nat) p, L[i]? = some p → ok p.1 ∧ RepL w p.2 (f p.1) ∧ p.2.length = n ∧ ∀ j, j < n → w.cell? ((a.add (i * n)).add j) = p.2[j]? := by
      intro k
      induction k with
      | zero => exact fun _ => ⟨[], rfl, fun i p h => by simp at h⟩
      | succ k ih =>
        intro hk
        obtain ⟨L, h1, h2⟩ := ih (by omega)
        obtain ⟨a', cs', h3⟩ := each k (by omega)
        refine ⟨L ++ [(a', cs')], by simp [h1], fun i p hp => ?_⟩
        rw [List.getElem?_append] at hp
        split at hp
        · exact h2 i p hp
        · rename_i hge
          have hi : i - L.length = 0 := by
            rcases Nat.eq_zero_or_pos (i - L.length) with h | h
            · exact h
            · rw [List.getElem?_eq_none (by simp; omega)] at hp; cases hp
          have hik : i = k := by omega
          rw [hi] at hp
          simp at hp
          subst hp
          rw [hik]
          exact h3
    obtain ⟨L, hL1, hL2⟩ := hlist len (Nat.le_refl _)
    have spot : 0 < len → a = ⟨a.block, a.off, none⟩ := by
      intro h0
      obtain ⟨a0, c0, _, _, h3, h4⟩ := each 0 h0
      have h5 := h4 0 hn
      rw [List.getElem?_eq_getElem (by omega), Nat.zero_mul] at h5
      have h6 : w.cell? a = some c0[0] := by simpa [Addr.add] using h5
      unfold World.cell? at h6
      split at h6
      · split at h6
        · cases h6
        · rename_i hs
          have : a.spot = none := by cases hs' : a.spot <;> simp_all
          cases a
          simp_all
      · cases h6
    refine ⟨L.map (·.1), ⟨by simp [hL1]; omega, fun x hx => ?_⟩, .one ?_⟩
    · obtain ⟨p, hp, rfl⟩ := List.mem_map.1 hx
      obtain ⟨i, hi⟩ := List.getElem?_of_mem hp
      exact (hL2 i p hi).1
    · have getp : ∀ (i : Nat) el, ((L.map (·.1)).map g)[i]? = some el → ∃ p, L[i]? = some p ∧ el = g p.1 := by
        intro i el h1
        rw [List.getElem?_map, List.getElem?_map] at h1
        cases hp : L[i]? with
        | none => rw [hp] at h1; cases h1
        | some p => rw [hp] at h1; simp at h1; exact ⟨p, rfl, h1.symm⟩
      refine .slice a.block a.off (fun i j => (((L[i]?).map (·.2)).getD []).getD j undef) (sz := n) (by simp [hL1]) (fun h => congrArg some (spot ?_)) (fun e he => ?_) (fun i el j c h1 h2 => ?_) (fun i el j c h1 h2 => ?_) hl (fun s hs => by cases hs)
      · rcases Nat.eq_zero_or_pos len with h0 | h0
        · exfalso
          apply h
          have : L = [] := List.eq_nil_of_length_eq_zero (by omega)
          rw [this]; rfl
        · exact h0
      · obtain ⟨x, _, rfl⟩ := List.mem_map.1 he
        rw [hg, hfl]
      · obtain ⟨p, hp, rfl⟩ := getp i el h1
        obtain ⟨k1, k2, k3, k4⟩ := hL2 i p hp
        rw [hg] at h2
        have hj : j < n := by rw [← hfl p.1]; exact (List.getElem?_eq_some_iff.1 h2).1
        have hlen0 : 0 < len := by have := (List.getElem?_eq_some_iff.1 hp).1; omega
        have h5 := k4 j hj
        rw [List.getElem?_eq_getElem (by omega)] at h5
        have hsp := spot hlen0
        rw [hsp, add_addr, add_addr] at h5
        refine ⟨?_, ?_⟩
        · rw [show a.off + (i * n + j) = a.off + i * n + j from by omega, h5, hp]
          simp [List.getD_eq_getElem?_getD, List.getElem?_eq_getElem (show j < p.2.length by omega)]
        · show a.block < w.heap.size
          have h9 := World.block_lt_of_cell? w _ h5
          exact h9
      · obtain ⟨p, hp, rfl⟩ := getp i el h1
        obtain ⟨k1, k2, k3, k4⟩ := hL2 i p hp
        rw [hg] at h2
        have hj : j < n := by rw [← hfl p.1]; exact (List.getElem?_eq_some_iff.1 h2).1
        rw [hp]
        refine k2.2 j _ c ?_ h2
        simp [List.getD_eq_getElem?_getD, List.getElem?_eq_getElem (show j < p.2.length by omega)]
theorem Opens.array {t e n m : Nat} {α : Type} {f : α → List AV} {ok : α → Prop} (ht : P.underlying t = some (.array m e)) (hc : P.cellsOf t = m * n) (h : Opens enc P w e n α f ok) (hfl : ∀ a, (f a).length = n) :
    Opens enc P w t (m * n) (List α) (fun l => l.flatMap f) (fun l => l.length = m ∧ ∀ a ∈ l, ok a) :=
  ⟨hc, fun fuel cs x hx => by
    obtain ⟨xs, k, rfl, rfl, hl, hlen, hf⟩ := DataW.trod_array ht hx
    have key : ∀ j, j ≤ m → ∃ l : List α, (l.length = j ∧ ∀ a ∈ l, ok a) ∧ RepL w (cs.take (j * n)) (l.flatMap f) := by
      intro j
      induction j with
      | zero => exact fun _ => ⟨[], ⟨rfl, fun a ha => (by cases ha)⟩, by rw [Nat.zero_mul, List.take_zero]; exact ⟨rfl, fun i v a h => by simp at h⟩⟩
      | succ j ih =>
        intro hj
        obtain ⟨l, ⟨h1, h2⟩, h3⟩ := ih (by omega)
        have h4 := hf j (by omega)
        rw [h.1, List.getElem?_eq_getElem (by omega)] at h4
        obtain ⟨a, h5, h6⟩ := h.2 k _ _ h4
        refine ⟨l ++ [a], ⟨by simp [h1], fun b hb => ?_⟩, ?_⟩
        · rcases List.mem_append.1 hb with hb | hb
          · exact h2 b hb
          · rw [List.mem_singleton.1 hb]; exact h5
        · rw [Nat.add_mul, Nat.one_mul, List.take_add, List.flatMap_append, List.flatMap_singleton]
          exact h3.app h6
    obtain ⟨l, h1, h2⟩ := key m (Nat.le_refl _)
    rw [List.take_of_length_le (by rw [hl, hc]; exact Nat.le_refl _)] at h2
    exact ⟨l, h1, h2⟩⟩
theorem Opens.agg {t n : Nat} {α : Type} {f : α → List AV} {ok : α → Prop} (h : Opens enc P w t n α f ok) {fs : Array Field} (ht : P.underlying t = some (.struct fs)) {W : World} {r : Reach} {b0 : Nat} {v : Value} {d : DataW H} {ps : List MemPlace}
    (hval : Value.okWide P W r b0 t v) (hd : DataW.Trod enc P w 0 (fun _ => true) true t v d ps) : ∃ a, ok a ∧ Rep (g0 w) w v (.agg (f a)) := by
  obtain ⟨fuel, hf⟩ := hd
  obtain ⟨a, h1, h2⟩ := h.2 fuel _ _ hf
  unfold Value.okWide at hval
  rw [ht] at hval
  obtain ⟨cs, rfl, _⟩ := hval
  refine ⟨a, h1, .agg ?_ fun i v c hv hc => ?_⟩
  · have := h2.1
    simpa [Value.cells] using this
  · exact h2.2 i v c (by simpa [Value.cells] using hv) hc
theorem walk_of {f : FuncId} {args : List AV} {vs : Array Value} (h : Pure P f args (.bool true)) (ha : RepAll (g0 w) w vs args) : Calls P f vs w fun e w' => e = .returned (.bool true) ∧ Below w.heap.size w w' :=
  (h [] (g0 w) w vs (inv0 w) ha).mono fun e w' ⟨v, r, mem', g', he, ⟨hr, _⟩, hv, _, hx⟩ => by
    subst hr
    cases hv
    exact ⟨he, hx.below⟩
end
end Go.Proofs.Yteomgedahkpnlaa
end
section

namespace Go.Proofs.Yteomgedahkpnlaa
open Go.RowKit
section
variable {H : Type} {enc : TypeId × Value → H} {P : Program} {w : World}
theorem Opens.one {t n : Nat} {α : Type} {a1 : α → AV} {ok : α → Prop} (h : Opens enc P w t n α (fun a => [a1 a]) ok) {e : TypeId} (ht : P.underlying t = some (.slice e)) {W : World} {r : Reach} {b0 : Nat} {v : Value} {d : DataW H} {ps : List MemPlace}
    (hval : Value.okWide P W r b0 t v) (hd : DataW.Trod enc P w 0 (fun _ => true) true t v d ps) : ∃ a, ok a ∧ Rep (g0 w) w v (a1 a) := by
  obtain ⟨A, len, cap, rfl⟩ := Go.WideShapes.okWide_slice ht hval
  obtain ⟨fuel, hf⟩ := hd
  obtain ⟨a, h1, h2⟩ := h.2 fuel _ _ hf
  exact ⟨a, h1, h2.2 0 _ _ rfl rfl⟩
end
end Go.Proofs.Yteomgedahkpnlaa
end
section

namespace Go.Proofs.Yteomgedahkpnlaa
def lowU (c : UInt8) : Bool := decide (97 ≤ (c.toNat : Int)) && decide ((c.toNat : Int) ≤ 122)
def digU (c : UInt8) : Bool := decide (48 ≤ (c.toNat : Int)) && decide ((c.toNat : Int) ≤ 57)
def okU (c : UInt8) : Bool := lowU c || digU c || decide ((c.toNat : Int) = 45)
def nameL (l : List UInt8) : Bool := decide (1 ≤ (l.length : Int)) && decide ((l.length : Int) ≤ 24) && lowU (l.getD 0 0) && l.all okU
def nameOK (s : ByteArray) : Bool := nameL s.data.toList
theorem all_getD {l : List UInt8} {p : UInt8 → Bool} (h : ∀ j : Nat, j < l.length → p (l.getD j 0) = true) : l.all p = true := by
  rw [List.all_eq_true]
  intro x hx
  obtain ⟨j, hj⟩ := List.getElem?_of_mem hx
  have := h j (List.getElem?_eq_some_iff.1 hj).1
  rwa [List.getD_eq_getElem?_getD, hj, Option.getD_some] at this
theorem not_all_getD {l : List UInt8} {p : UInt8 → Bool} (j : Nat) (hj : j < l.length) (h : p (l.getD j 0) = false) : l.all p = false := by
  rw [List.all_eq_false]
  exact ⟨l.getD j 0, by rw [List.getD_eq_getElem?_getD, List.getElem?_eq_getElem hj]; exact List.getElem_mem hj, by rw [h]; simp⟩
def okAt (c : Int) (j : Nat) : Prop := (97 ≤ c ∧ c ≤ 122) ∨ (j ≠ 0 ∧ ((48 ≤ c ∧ c ≤ 57) ∨ c = 45))
theorem okAt_ok {c : UInt8} {j : Nat} (h : okAt (c.toNat : Int) j) : okU c = true := by
  simp only [okU, lowU, digU, Bool.or_eq_true, Bool.and_eq_true, decide_eq_true_eq]
  unfold okAt at h; omega
theorem okAt_low {c : UInt8} (h : okAt (c.toNat : Int) 0) : lowU c = true := by
  simp only [lowU, Bool.and_eq_true, decide_eq_true_eq]
  unfold okAt at h; omega
theorem name18 {s : ByteArray} (h : ∀ j : Nat, j < s.data.toList.length → okAt ((s.data.toList.getD j 0).toNat : Int) j) : (decide (s ≠ ⟨#[]⟩) && decide ((s.size : Int) ≤ 24)) = nameOK s := by
  have hl : (s.size : Int) = (s.data.toList.length : Int) := by rw [Array.length_toList]; rfl
  have hall : s.data.toList.all okU = true := all_getD fun j hj => okAt_ok (h j hj)
  have hne : decide (s ≠ ⟨#[]⟩) = decide (1 ≤ (s.data.toList.length : Int)) := by
    rw [Bool.eq_iff_iff, decide_eq_true_iff, decide_eq_true_iff]
    constructor
    · intro hn
      rcases Nat.eq_zero_or_pos s.data.toList.length with h0 | h0
      · exfalso
        apply hn
        have : s.data = #[] := by
          rw [Array.length_toList] at h0
          exact Array.size_eq_zero_iff.1 h0
        cases s
        simp_all
      · omega
    · rintro hn rfl
      simp at hn
  rw [hl, hne]
  unfold nameOK nameL
  rw [hall, Bool.and_true]
  by_cases h1 : (1 : Int) ≤ (s.data.toList.length : Int)
  · rw [okAt_low (h 0 (by omega)), Bool.and_true]
  · rw [decide_eq_false h1]; simp
theorem name18f {s : ByteArray} {k : Nat} (hk : k < s.data.toList.length) (h : ¬ okAt ((s.data.toList.getD k 0).toNat : Int) k) : false = nameOK s := by
  unfold nameOK nameL
  by_cases h0 : k = 0
  · subst h0
    have : lowU (s.data.toList.getD 0 0) = false := by
      rw [Bool.eq_false_iff]
      intro hl
      simp only [lowU, Bool.and_eq_true, decide_eq_true_eq] at hl
      exact h (.inl hl)
    rw [this]; simp
  · have : okU (s.data.toList.getD k 0) = false := by
      rw [Bool.eq_false_iff]
      intro hl
      simp only [okU, lowU, digU, Bool.or_eq_true, Bool.and_eq_true, decide_eq_true_eq] at hl
      unfold okAt at h
      omega
    rw [not_all_getD k hk this]; simp
theorem name19 {s : ByteArray} (h0 : ¬ ((s.size : Int) < 1)) (h1 : ¬ (24 < (s.size : Int))) (h2 : 97 ≤ ((s.data.toList.getD 0 0).toNat : Int)) (h3 : ((s.data.toList.getD 0 0).toNat : Int) ≤ 122) (h : ∀ j : Nat, j < s.data.toList.length → okU (s.data.toList.getD j 0) = true) : true = nameOK s := by
  have hl : (s.size : Int) = (s.data.toList.length : Int) := by rw [Array.length_toList]; rfl
  unfold nameOK nameL
  rw [all_getD h]
  simp only [lowU]
  rw [decide_eq_true (by omega : (1:Int) ≤ (s.data.toList.length : Int)), decide_eq_true (by omega : (s.data.toList.length : Int) ≤ 24), decide_eq_true h2, decide_eq_true h3]
  rfl
theorem name19a {s : ByteArray} (h : (s.size : Int) < 1 ∨ 24 < (s.size : Int) ∨ ((s.data.toList.getD 0 0).toNat : Int) < 97 ∨ 122 < ((s.data.toList.getD 0 0).toNat : Int)) : false = nameOK s := by
  have hl : (s.size : Int) = (s.data.toList.length : Int) := by rw [Array.length_toList]; rfl
  symm
  rw [Bool.eq_false_iff]
  unfold nameOK nameL lowU
  simp only [ne_eq, Bool.and_eq_true, decide_eq_true_eq]
  omega
theorem name19f {s : ByteArray} {k : Nat} (hk : k < s.data.toList.length) (h : okU (s.data.toList.getD k 0) = false) : false = nameOK s := by
  unfold nameOK nameL
  rw [not_all_getD k hk h]; simp
def up (a b : Int) : Int := -((-a) / b)
theorem getD_mem {α : Type} {l : List α} {d : α} {j : Nat} (h : j < l.length) : l.getD j d ∈ l := by
  rw [List.getD_eq_getElem?_getD, List.getElem?_eq_getElem h]; exact List.getElem_mem h
theorem any_of {α : Type} {l : List α} {p : α → Bool} (d : α) {j : Nat} (hj : j < l.length) (h : p (l.getD j d) = true) : l.any p = true := List.any_eq_true.2 ⟨_, getD_mem hj, h⟩
theorem any_not {α : Type} {l : List α} {p : α → Bool} (d : α) (h : ∀ j : Nat, j < l.length → p (l.getD j d) = false) : l.any p = false := by
  rw [List.any_eq_false]
  intro x hx
  obtain ⟨j, hj⟩ := List.getElem?_of_mem hx
  have := h j (List.getElem?_eq_some_iff.1 hj).1
  rw [List.getD_eq_getElem?_getD, hj, Option.getD_some] at this
  rw [this]; simp
def idxI {α : Type} (p : α → Bool) (l : List α) : Int := if l.any p = true then (l.findIdx p : Int) else -1
theorem idx_found {α : Type} {p : α → Bool} {l : List α} (d : α) {k : Nat} (hk : k < l.length) (hn : ∀ j : Nat, j < k → p (l.getD j d) = false) (h : p (l.getD k d) = true) : (k : Int) = idxI p l := by
  unfold idxI
  rw [if_pos (any_of d hk h)]
  congr 1
  symm
  have e : ∀ j, (hj : j < l.length) → l.getD j d = l[j] := fun j hj => by rw [List.getD_eq_getElem?_getD, List.getElem?_eq_getElem hj]; rfl
  rw [List.findIdx_eq hk]
  refine ⟨by rw [← e k hk]; exact h, fun j hj => ?_⟩
  rw [← e j (by omega)]
  exact hn j hj
theorem idx_none {α : Type} {p : α → Bool} {l : List α} (d : α) (hn : ∀ j : Nat, j < l.length → p (l.getD j d) = false) : (-1 : Int) = idxI p l := by
  unfold idxI
  rw [if_neg]
  rw [any_not d hn]; simp
theorem idx_any {α : Type} (p : α → Bool) (l : List α) : decide (0 ≤ idxI p l) = l.any p := by
  unfold idxI
  split
  · rename_i h
    rw [h]
    exact decide_eq_true (by omega)
  · rename_i h
    rw [Bool.eq_false_iff.2 h]
    rfl
def errOf (name : ByteArray) (twice : Bool) (e : Int) : Int := if ¬ (nameOK name = true) then 6 else if twice = true then 5 else e
def firstErr (e : Nat → Int) : Nat → Nat → Int × Int
  | 0, _ => (0, 0)
  | n + 1, i => if e i ≠ 0 then ((i : Int), e i) else firstErr e n (i + 1)
theorem firstErr_found {e : Nat → Int} {k : Nat} (h : e k ≠ 0) : ∀ (n i : Nat), i ≤ k → k < i + n → (∀ j : Nat, i ≤ j → j < k → e j = 0) → firstErr e n i = ((k : Int), e k)
  | 0, i, h1, h2, _ => by omega
  | n + 1, i, h1, h2, h3 => by
    unfold firstErr
    by_cases hik : i = k
    · subst hik; rw [if_pos h]
    · rw [if_neg (by rw [h3 i (Nat.le_refl _) (by omega)]; simp)]
      exact firstErr_found h n (i + 1) (by omega) (by omega) (fun j h1 h2 => h3 j (by omega) h2)
theorem firstErr_none {e : Nat → Int} : ∀ (n i : Nat), (∀ j : Nat, i ≤ j → j < i + n → e j = 0) → firstErr e n i = (0, 0)
  | 0, i, _ => rfl
  | n + 1, i, h => by
    unfold firstErr
    rw [if_neg (by rw [h i (Nat.le_refl _) (by omega)]; simp)]
    exact firstErr_none n (i + 1) (fun j h1 h2 => h j (by omega) (by omega))
theorem firstErr_zero {e : Nat → Int} : ∀ (n i : Nat), (firstErr e n i).2 = 0 → ∀ j : Nat, i ≤ j → j < i + n → e j = 0
  | 0, i, _, j, h1, h2 => by omega
  | n + 1, i, h, j, h1, h2 => by
    unfold firstErr at h
    split at h
    · rename_i hne; exact absurd h hne
    · rename_i hne
      rcases Nat.eq_or_lt_of_le h1 with rfl | h3
      · exact Decidable.not_not.1 hne
      · exact firstErr_zero n (i + 1) h j h3 (by omega)
theorem take_getD {α : Type} {l : List α} {d : α} {i j : Nat} (h : j < i) : (l.take i).getD j d = l.getD j d := by
  rw [List.getD_eq_getElem?_getD, List.getD_eq_getElem?_getD, List.getElem?_take, if_pos h]
theorem take_any_not {α : Type} {l : List α} {p : α → Bool} (d : α) {i : Nat} (h : ∀ j : Nat, j < i → p (l.getD j d) = false) : (l.take i).any p = false :=
  any_not d fun j hj => by
    rw [List.length_take] at hj
    rw [take_getD (by omega)]
    exact h j (by omega)
theorem take_any_of {α : Type} {l : List α} {p : α → Bool} (d : α) {i j : Nat} (hj : j < i) (hi : i ≤ l.length) (h : p (l.getD j d) = true) : (l.take i).any p = true :=
  any_of d (j := j) (by rw [List.length_take]; omega) (by rw [take_getD hj]; exact h)
end Go.Proofs.Yteomgedahkpnlaa
end
section

namespace Go.Proofs.Yteomgedahkpnlaa
open Go.Proofs
theorem mixed : Try.prog.follows .mixedOrders = true := by kernel_rfl
theorem tyS3 : TyS Try.prog 3 := ⟨_, Try.underlying3, rfl⟩
theorem tyS4 : TyS Try.prog 4 := ⟨_, Try.underlying4, rfl⟩
theorem tyS5 : TyS Try.prog 5 := ⟨_, Try.underlying5, rfl⟩
theorem tyS9 : TyS Try.prog 9 := ⟨_, Try.underlying9, rfl⟩
theorem tyS22 : TyS Try.prog 22 := ⟨_, Try.underlying22, rfl⟩
theorem tyS23 : TyS Try.prog 23 := ⟨_, Try.underlying23, rfl⟩
theorem tyS24 : TyS Try.prog 24 := ⟨_, Try.underlying24, rfl⟩
theorem tyS31 : TyS Try.prog 31 := ⟨_, Try.underlying31, rfl⟩
theorem tyS83 : TyS Try.prog 83 := ⟨_, Try.underlying83, rfl⟩
theorem tyS86 : TyS Try.prog 86 := ⟨_, Try.underlying86, rfl⟩
theorem tyS90 : TyS Try.prog 90 := ⟨_, Try.underlying90, rfl⟩
theorem tyS92 : TyS Try.prog 92 := ⟨_, Try.underlying92, rfl⟩
theorem tyS109 : TyS Try.prog 109 := ⟨_, Try.underlying109, rfl⟩
theorem tyS113 : TyS Try.prog 113 := ⟨_, Try.underlying113, rfl⟩
theorem tyS116 : TyS Try.prog 116 := ⟨_, Try.underlying116, rfl⟩
theorem tyS119 : TyS Try.prog 119 := ⟨_, Try.underlying119, rfl⟩
theorem tyA26 : TyA Try.prog 26 2 := ⟨_, Try.underlying26, rfl, SzT.mk (by kernel_rfl)⟩
theorem tyA28 : TyA Try.prog 28 9 := ⟨_, Try.underlying28, rfl, SzT.mk (by kernel_rfl)⟩
theorem tyA45 : TyA Try.prog 45 6 := ⟨_, Try.underlying45, rfl, SzT.mk (by kernel_rfl)⟩
theorem tyA47 : TyA Try.prog 47 11 := ⟨_, Try.underlying47, rfl, SzT.mk (by kernel_rfl)⟩
theorem tyA58 : TyA Try.prog 58 2 := ⟨_, Try.underlying58, rfl, SzT.mk (by kernel_rfl)⟩
theorem tyA64 : TyA Try.prog 64 2 := ⟨_, Try.underlying64, rfl, SzT.mk (by kernel_rfl)⟩
theorem tyA71 : TyA Try.prog 71 6 := ⟨_, Try.underlying71, rfl, SzT.mk (by kernel_rfl)⟩
theorem tyA94 : TyA Try.prog 94 3 := ⟨_, Try.underlying94, rfl, SzT.mk (by kernel_rfl)⟩
theorem tyA96 : TyA Try.prog 96 5 := ⟨_, Try.underlying96, rfl, SzT.mk (by kernel_rfl)⟩
theorem tyA141 : TyA Try.prog 141 3 := ⟨_, Try.underlying141, rfl, SzT.mk (by kernel_rfl)⟩
theorem sz3 : SzT Try.prog 3 1 := SzT.mk (by kernel_rfl)
theorem sz4 : SzT Try.prog 4 1 := SzT.mk (by kernel_rfl)
theorem sz26 : SzT Try.prog 26 2 := SzT.mk (by kernel_rfl)
theorem sz28 : SzT Try.prog 28 9 := SzT.mk (by kernel_rfl)
theorem sz31 : SzT Try.prog 31 1 := SzT.mk (by kernel_rfl)
theorem sz45 : SzT Try.prog 45 6 := SzT.mk (by kernel_rfl)
theorem sz47 : SzT Try.prog 47 11 := SzT.mk (by kernel_rfl)
theorem sz58 : SzT Try.prog 58 2 := SzT.mk (by kernel_rfl)
theorem sz64 : SzT Try.prog 64 2 := SzT.mk (by kernel_rfl)
theorem sz71 : SzT Try.prog 71 6 := SzT.mk (by kernel_rfl)
theorem sz86 : SzT Try.prog 86 1 := SzT.mk (by kernel_rfl)
theorem sz90 : SzT Try.prog 90 1 := SzT.mk (by kernel_rfl)
theorem sz94 : SzT Try.prog 94 3 := SzT.mk (by kernel_rfl)
theorem sz96 : SzT Try.prog 96 5 := SzT.mk (by kernel_rfl)
theorem sz109 : SzT Try.prog 109 1 := SzT.mk (by kernel_rfl)
theorem sz141 : SzT Try.prog 141 3 := SzT.mk (by kernel_rfl)
theorem zero3 : Zero Try.prog 3 (.int .i64 0) := Zero.mk (by kernel_rfl)
theorem zero4 : Zero Try.prog 4 (.bool false) := Zero.mk (by kernel_rfl)
theorem zero26 : Zero Try.prog 26 (.agg #[.int .i64 0, .int .i64 0]) := Zero.mk (by kernel_rfl)
theorem zero28 : Zero Try.prog 28 (.agg #[.slice none 0 0, .slice none 0 0, .slice none 0 0, .int .i64 0, .int .i64 0, .int .i64 0, .int .i64 0, .int .i64 0, .int .i64 0]) := Zero.mk (by kernel_rfl)
theorem zero41 : Zero Try.prog 41 (.agg #[.int .i64 0, .int .i64 0, .int .i64 0]) := Zero.mk (by kernel_rfl)
theorem zero45 : Zero Try.prog 45 (.agg #[.int .i64 0, .int .i64 0, .int .i64 0, .int .i64 0, .int .i64 0, .int .i64 0]) := Zero.mk (by kernel_rfl)
theorem zero47 : Zero Try.prog 47 (.agg #[.string ⟨#[]⟩, .int .i64 0, .int .i64 0, .int .i64 0, .int .i64 0, .int .i64 0, .int .i64 0, .int .i64 0, .int .i64 0, .int .i64 0, .int .i64 0]) := Zero.mk (by kernel_rfl)
theorem zero58 : Zero Try.prog 58 (.agg #[.int .i64 0, .int .i64 0]) := Zero.mk (by kernel_rfl)
theorem zero64 : Zero Try.prog 64 (.agg #[.int .i64 0, .int .i64 0]) := Zero.mk (by kernel_rfl)
theorem zero71 : Zero Try.prog 71 (.agg #[.string ⟨#[]⟩, .int .i64 0, .int .i64 0, .int .i64 0, .int .i64 0, .int .i64 0]) := Zero.mk (by kernel_rfl)
theorem zero85 : Zero Try.prog 85 (.agg #[.slice none 0 0, .slice none 0 0, .slice none 0 0, .int .i64 0, .int .i64 0, .int .i64 0, .int .i64 0, .int .i64 0, .int .i64 0, .slice none 0 0]) := Zero.mk (by kernel_rfl)
theorem zero86 : Zero Try.prog 86 (.nilFunc) := Zero.mk (by kernel_rfl)
theorem zero87 : Zero Try.prog 87 (.agg #[.nilFunc, .nilFunc, .nilFunc]) := Zero.mk (by kernel_rfl)
theorem zero90 : Zero Try.prog 90 (.slice none 0 0) := Zero.mk (by kernel_rfl)
theorem zero94 : Zero Try.prog 94 (.agg #[.string ⟨#[]⟩, .int .i64 0, .slice none 0 0]) := Zero.mk (by kernel_rfl)
theorem zero96 : Zero Try.prog 96 (.agg #[.int .i64 0, .string ⟨#[]⟩, .int .i64 0, .slice none 0 0, .int .i64 0]) := Zero.mk (by kernel_rfl)
theorem zero109 : Zero Try.prog 109 (.map none) := Zero.mk (by kernel_rfl)
theorem zero130 : Zero Try.prog 130 (.agg #[.bool false, .bool false]) := Zero.mk (by kernel_rfl)
theorem zero139 : Zero Try.prog 139 (.agg #[.int .i64 0, .int .i64 0, .int .i64 0, .int .i64 0]) := Zero.mk (by kernel_rfl)
theorem zero141 : Zero Try.prog 141 (.agg #[.int .i64 0, .int .i64 0, .int .i64 0]) := Zero.mk (by kernel_rfl)
theorem fld26_0 : Fld Try.prog 26 0 0 := ⟨_, _, 1, Try.underlying26, rfl, rfl, SzT.mk (by kernel_rfl), by decide⟩
theorem fld26_1 : Fld Try.prog 26 1 1 := ⟨_, _, 1, Try.underlying26, rfl, rfl, SzT.mk (by kernel_rfl), by decide⟩
theorem fld28_0 : Fld Try.prog 28 0 0 := ⟨_, _, 1, Try.underlying28, rfl, rfl, SzT.mk (by kernel_rfl), by decide⟩
theorem fld28_1 : Fld Try.prog 28 1 1 := ⟨_, _, 1, Try.underlying28, rfl, rfl, SzT.mk (by kernel_rfl), by decide⟩
theorem fld28_2 : Fld Try.prog 28 2 2 := ⟨_, _, 1, Try.underlying28, rfl, rfl, SzT.mk (by kernel_rfl), by decide⟩
theorem fld28_3 : Fld Try.prog 28 3 3 := ⟨_, _, 2, Try.underlying28, rfl, rfl, SzT.mk (by kernel_rfl), by decide⟩
theorem fld28_4 : Fld Try.prog 28 4 5 := ⟨_, _, 2, Try.underlying28, rfl, rfl, SzT.mk (by kernel_rfl), by decide⟩
theorem fld28_5 : Fld Try.prog 28 5 7 := ⟨_, _, 1, Try.underlying28, rfl, rfl, SzT.mk (by kernel_rfl), by decide⟩
theorem fld28_6 : Fld Try.prog 28 6 8 := ⟨_, _, 1, Try.underlying28, rfl, rfl, SzT.mk (by kernel_rfl), by decide⟩
theorem fld47_0 : Fld Try.prog 47 0 0 := ⟨_, _, 1, Try.underlying47, rfl, rfl, SzT.mk (by kernel_rfl), by decide⟩
theorem fld47_1 : Fld Try.prog 47 1 1 := ⟨_, _, 1, Try.underlying47, rfl, rfl, SzT.mk (by kernel_rfl), by decide⟩
theorem fld47_2 : Fld Try.prog 47 2 2 := ⟨_, _, 1, Try.underlying47, rfl, rfl, SzT.mk (by kernel_rfl), by decide⟩
theorem fld47_3 : Fld Try.prog 47 3 3 := ⟨_, _, 1, Try.underlying47, rfl, rfl, SzT.mk (by kernel_rfl), by decide⟩
theorem fld47_4 : Fld Try.prog 47 4 4 := ⟨_, _, 1, Try.underlying47, rfl, rfl, SzT.mk (by kernel_rfl), by decide⟩
theorem fld47_5 : Fld Try.prog 47 5 5 := ⟨_, _, 6, Try.underlying47, rfl, rfl, SzT.mk (by kernel_rfl), by decide⟩
theorem fld58_0 : Fld Try.prog 58 0 0 := ⟨_, _, 1, Try.underlying58, rfl, rfl, SzT.mk (by kernel_rfl), by decide⟩
theorem fld58_1 : Fld Try.prog 58 1 1 := ⟨_, _, 1, Try.underlying58, rfl, rfl, SzT.mk (by kernel_rfl), by decide⟩
theorem fld71_0 : Fld Try.prog 71 0 0 := ⟨_, _, 1, Try.underlying71, rfl, rfl, SzT.mk (by kernel_rfl), by decide⟩
theorem fld71_1 : Fld Try.prog 71 1 1 := ⟨_, _, 2, Try.underlying71, rfl, rfl, SzT.mk (by kernel_rfl), by decide⟩
theorem fld71_2 : Fld Try.prog 71 2 3 := ⟨_, _, 2, Try.underlying71, rfl, rfl, SzT.mk (by kernel_rfl), by decide⟩
theorem fld71_3 : Fld Try.prog 71 3 5 := ⟨_, _, 1, Try.underlying71, rfl, rfl, SzT.mk (by kernel_rfl), by decide⟩
theorem fld85_0 : Fld Try.prog 85 0 0 := ⟨_, _, 9, Try.underlying85, rfl, rfl, SzT.mk (by kernel_rfl), by decide⟩
theorem fld85_1 : Fld Try.prog 85 1 9 := ⟨_, _, 1, Try.underlying85, rfl, rfl, SzT.mk (by kernel_rfl), by decide⟩
theorem fld94_0 : Fld Try.prog 94 0 0 := ⟨_, _, 1, Try.underlying94, rfl, rfl, SzT.mk (by kernel_rfl), by decide⟩
theorem fld94_1 : Fld Try.prog 94 1 1 := ⟨_, _, 1, Try.underlying94, rfl, rfl, SzT.mk (by kernel_rfl), by decide⟩
theorem fld94_2 : Fld Try.prog 94 2 2 := ⟨_, _, 1, Try.underlying94, rfl, rfl, SzT.mk (by kernel_rfl), by decide⟩
theorem fld96_0 : Fld Try.prog 96 0 0 := ⟨_, _, 1, Try.underlying96, rfl, rfl, SzT.mk (by kernel_rfl), by decide⟩
theorem fld96_1 : Fld Try.prog 96 1 1 := ⟨_, _, 3, Try.underlying96, rfl, rfl, SzT.mk (by kernel_rfl), by decide⟩
theorem fld96_2 : Fld Try.prog 96 2 4 := ⟨_, _, 1, Try.underlying96, rfl, rfl, SzT.mk (by kernel_rfl), by decide⟩
theorem fld141_0 : Fld Try.prog 141 0 0 := ⟨_, _, 1, Try.underlying141, rfl, rfl, SzT.mk (by kernel_rfl), by decide⟩
theorem fld141_1 : Fld Try.prog 141 1 1 := ⟨_, _, 2, Try.underlying141, rfl, rfl, SzT.mk (by kernel_rfl), by decide⟩
theorem slc22 : SliceT Try.prog 22 71 6 := ⟨Try.underlying22, SzT.mk (by kernel_rfl)⟩
theorem slc23 : SliceT Try.prog 23 94 3 := ⟨Try.underlying23, SzT.mk (by kernel_rfl)⟩
theorem slc24 : SliceT Try.prog 24 47 11 := ⟨Try.underlying24, SzT.mk (by kernel_rfl)⟩
theorem slc31 : SliceT Try.prog 31 41 3 := ⟨Try.underlying31, SzT.mk (by kernel_rfl)⟩
theorem slc48 : SliceT Try.prog 48 3 1 := ⟨Try.underlying48, SzT.mk (by kernel_rfl)⟩
theorem slc54 : SliceT Try.prog 54 58 2 := ⟨Try.underlying54, SzT.mk (by kernel_rfl)⟩
theorem slc90 : SliceT Try.prog 90 96 5 := ⟨Try.underlying90, SzT.mk (by kernel_rfl)⟩
theorem slc92 : SliceT Try.prog 92 141 3 := ⟨Try.underlying92, SzT.mk (by kernel_rfl)⟩
theorem slc160 : SliceT Try.prog 160 26 2 := ⟨Try.underlying160, SzT.mk (by kernel_rfl)⟩
theorem slc171 : SliceT Try.prog 171 5 1 := ⟨Try.underlying171, SzT.mk (by kernel_rfl)⟩
theorem arr45 : ArrT Try.prog 45 3 26 2 := ⟨Try.underlying45, SzT.mk (by kernel_rfl)⟩
theorem arr64 : ArrT Try.prog 64 2 3 1 := ⟨Try.underlying64, SzT.mk (by kernel_rfl)⟩
theorem arr87 : ArrT Try.prog 87 3 86 1 := ⟨Try.underlying87, SzT.mk (by kernel_rfl)⟩
theorem arr130 : ArrT Try.prog 130 2 4 1 := ⟨Try.underlying130, SzT.mk (by kernel_rfl)⟩
theorem arr139 : ArrT Try.prog 139 2 26 2 := ⟨Try.underlying139, SzT.mk (by kernel_rfl)⟩
theorem plc26 : Places Try.prog 26 [(0, 1), (1, 1)] := ⟨_, Try.underlying26, fun w => by kernel_rfl⟩
theorem plc28 : Places Try.prog 28 [(0, 1), (1, 1), (2, 1), (3, 2), (5, 2), (7, 1), (8, 1)] := ⟨_, Try.underlying28, fun w => by kernel_rfl⟩
theorem plc41 : Places Try.prog 41 [(0, 1), (1, 1), (2, 1)] := ⟨_, Try.underlying41, fun w => by kernel_rfl⟩
theorem plc47 : Places Try.prog 47 [(0, 1), (1, 1), (2, 1), (3, 1), (4, 1), (5, 6)] := ⟨_, Try.underlying47, fun w => by kernel_rfl⟩
theorem plc58 : Places Try.prog 58 [(0, 1), (1, 1)] := ⟨_, Try.underlying58, fun w => by kernel_rfl⟩
theorem plc71 : Places Try.prog 71 [(0, 1), (1, 2), (3, 2), (5, 1)] := ⟨_, Try.underlying71, fun w => by kernel_rfl⟩
theorem plc85 : Places Try.prog 85 [(0, 9), (9, 1)] := ⟨_, Try.underlying85, fun w => by kernel_rfl⟩
theorem plc94 : Places Try.prog 94 [(0, 1), (1, 1), (2, 1)] := ⟨_, Try.underlying94, fun w => by kernel_rfl⟩
theorem plc96 : Places Try.prog 96 [(0, 1), (1, 3), (4, 1)] := ⟨_, Try.underlying96, fun w => by kernel_rfl⟩
theorem plc141 : Places Try.prog 141 [(0, 1), (1, 2)] := ⟨_, Try.underlying141, fun w => by kernel_rfl⟩
theorem byt41 : BytesT Try.prog 41 24 := BytesT.mk (by kernel_rfl)
theorem byt3 : BytesT Try.prog 3 8 := BytesT.mk (by kernel_rfl)
theorem byt58 : BytesT Try.prog 58 16 := BytesT.mk (by kernel_rfl)
theorem byt96 : BytesT Try.prog 96 64 := BytesT.mk (by kernel_rfl)
theorem call15 : Callable Try.prog 15 := ⟨_, Try.func15, by kernel_rfl, by kernel_rfl⟩
theorem call16 : Callable Try.prog 16 := ⟨_, Try.func16, by kernel_rfl, by kernel_rfl⟩
theorem call18 : Callable Try.prog 18 := ⟨_, Try.func18, by kernel_rfl, by kernel_rfl⟩
theorem call19 : Callable Try.prog 19 := ⟨_, Try.func19, by kernel_rfl, by kernel_rfl⟩
theorem call23 : Callable Try.prog 23 := ⟨_, Try.func23, by kernel_rfl, by kernel_rfl⟩
theorem call25 : Callable Try.prog 25 := ⟨_, Try.func25, by kernel_rfl, by kernel_rfl⟩
theorem call26 : Callable Try.prog 26 := ⟨_, Try.func26, by kernel_rfl, by kernel_rfl⟩
theorem call27 : Callable Try.prog 27 := ⟨_, Try.func27, by kernel_rfl, by kernel_rfl⟩
theorem call32 : Callable Try.prog 32 := ⟨_, Try.func32, by kernel_rfl, by kernel_rfl⟩
theorem call36 : Callable Try.prog 36 := ⟨_, Try.func36, by kernel_rfl, by kernel_rfl⟩
theorem call37 : Callable Try.prog 37 := ⟨_, Try.func37, by kernel_rfl, by kernel_rfl⟩
theorem call42 : Callable Try.prog 42 := ⟨_, Try.func42, by kernel_rfl, by kernel_rfl⟩
theorem call43 : Callable Try.prog 43 := ⟨_, Try.func43, by kernel_rfl, by kernel_rfl⟩
theorem call44 : Callable Try.prog 44 := ⟨_, Try.func44, by kernel_rfl, by kernel_rfl⟩
theorem call45 : Callable Try.prog 45 := ⟨_, Try.func45, by kernel_rfl, by kernel_rfl⟩
theorem call46 : Callable Try.prog 46 := ⟨_, Try.func46, by kernel_rfl, by kernel_rfl⟩
theorem call47 : Callable Try.prog 47 := ⟨_, Try.func47, by kernel_rfl, by kernel_rfl⟩
theorem call48 : Callable Try.prog 48 := ⟨_, Try.func48, by kernel_rfl, by kernel_rfl⟩
theorem call49 : Callable Try.prog 49 := ⟨_, Try.func49, by kernel_rfl, by kernel_rfl⟩
theorem call50 : Callable Try.prog 50 := ⟨_, Try.func50, by kernel_rfl, by kernel_rfl⟩
theorem call51 : Callable Try.prog 51 := ⟨_, Try.func51, by kernel_rfl, by kernel_rfl⟩
theorem call52 : Callable Try.prog 52 := ⟨_, Try.func52, by kernel_rfl, by kernel_rfl⟩
theorem call53 : Callable Try.prog 53 := ⟨_, Try.func53, by kernel_rfl, by kernel_rfl⟩
theorem call54 : Callable Try.prog 54 := ⟨_, Try.func54, by kernel_rfl, by kernel_rfl⟩
theorem call55 : Callable Try.prog 55 := ⟨_, Try.func55, by kernel_rfl, by kernel_rfl⟩
theorem call57 : Callable Try.prog 57 := ⟨_, Try.func57, by kernel_rfl, by kernel_rfl⟩
theorem call58 : Callable Try.prog 58 := ⟨_, Try.func58, by kernel_rfl, by kernel_rfl⟩
theorem call59 : Callable Try.prog 59 := ⟨_, Try.func59, by kernel_rfl, by kernel_rfl⟩
theorem call60 : Callable Try.prog 60 := ⟨_, Try.func60, by kernel_rfl, by kernel_rfl⟩
theorem call61 : Callable Try.prog 61 := ⟨_, Try.func61, by kernel_rfl, by kernel_rfl⟩
theorem call62 : Callable Try.prog 62 := ⟨_, Try.func62, by kernel_rfl, by kernel_rfl⟩
theorem call63 : Callable Try.prog 63 := ⟨_, Try.func63, by kernel_rfl, by kernel_rfl⟩
theorem call64 : Callable Try.prog 64 := ⟨_, Try.func64, by kernel_rfl, by kernel_rfl⟩
theorem call65 : Callable Try.prog 65 := ⟨_, Try.func65, by kernel_rfl, by kernel_rfl⟩
theorem call66 : Callable Try.prog 66 := ⟨_, Try.func66, by kernel_rfl, by kernel_rfl⟩
theorem call67 : Callable Try.prog 67 := ⟨_, Try.func67, by kernel_rfl, by kernel_rfl⟩
theorem call68 : Callable Try.prog 68 := ⟨_, Try.func68, by kernel_rfl, by kernel_rfl⟩
theorem call69 : Callable Try.prog 69 := ⟨_, Try.func69, by kernel_rfl, by kernel_rfl⟩
theorem call70 : Callable Try.prog 70 := ⟨_, Try.func70, by kernel_rfl, by kernel_rfl⟩
theorem call71 : Callable Try.prog 71 := ⟨_, Try.func71, by kernel_rfl, by kernel_rfl⟩
theorem call72 : Callable Try.prog 72 := ⟨_, Try.func72, by kernel_rfl, by kernel_rfl⟩
theorem call73 : Callable Try.prog 73 := ⟨_, Try.func73, by kernel_rfl, by kernel_rfl⟩
theorem call74 : Callable Try.prog 74 := ⟨_, Try.func74, by kernel_rfl, by kernel_rfl⟩
theorem call75 : Callable Try.prog 75 := ⟨_, Try.func75, by kernel_rfl, by kernel_rfl⟩
theorem call76 : Callable Try.prog 76 := ⟨_, Try.func76, by kernel_rfl, by kernel_rfl⟩
theorem call77 : Callable Try.prog 77 := ⟨_, Try.func77, by kernel_rfl, by kernel_rfl⟩
theorem call78 : Callable Try.prog 78 := ⟨_, Try.func78, by kernel_rfl, by kernel_rfl⟩
theorem call85 : Callable Try.prog 85 := ⟨_, Try.func85, by kernel_rfl, by kernel_rfl⟩
theorem call89 : Callable Try.prog 89 := ⟨_, Try.func89, by kernel_rfl, by kernel_rfl⟩
theorem call90 : Callable Try.prog 90 := ⟨_, Try.func90, by kernel_rfl, by kernel_rfl⟩
theorem call92 : Callable Try.prog 92 := ⟨_, Try.func92, by kernel_rfl, by kernel_rfl⟩
theorem call93 : Callable Try.prog 93 := ⟨_, Try.func93, by kernel_rfl, by kernel_rfl⟩
theorem call94 : Callable Try.prog 94 := ⟨_, Try.func94, by kernel_rfl, by kernel_rfl⟩
theorem call95 : Callable Try.prog 95 := ⟨_, Try.func95, by kernel_rfl, by kernel_rfl⟩
theorem call96 : Callable Try.prog 96 := ⟨_, Try.func96, by kernel_rfl, by kernel_rfl⟩
theorem call97 : Callable Try.prog 97 := ⟨_, Try.func97, by kernel_rfl, by kernel_rfl⟩
theorem call100 : Callable Try.prog 100 := ⟨_, Try.func100, by kernel_rfl, by kernel_rfl⟩
theorem call101 : Callable Try.prog 101 := ⟨_, Try.func101, by kernel_rfl, by kernel_rfl⟩
theorem call102 : Callable Try.prog 102 := ⟨_, Try.func102, by kernel_rfl, by kernel_rfl⟩
theorem call103 : Callable Try.prog 103 := ⟨_, Try.func103, by kernel_rfl, by kernel_rfl⟩
theorem call104 : Callable Try.prog 104 := ⟨_, Try.func104, by kernel_rfl, by kernel_rfl⟩
theorem call105 : Callable Try.prog 105 := ⟨_, Try.func105, by kernel_rfl, by kernel_rfl⟩
theorem call106 : Callable Try.prog 106 := ⟨_, Try.func106, by kernel_rfl, by kernel_rfl⟩
theorem call107 : Callable Try.prog 107 := ⟨_, Try.func107, by kernel_rfl, by kernel_rfl⟩
theorem call108 : Callable Try.prog 108 := ⟨_, Try.func108, by kernel_rfl, by kernel_rfl⟩
theorem call109 : Callable Try.prog 109 := ⟨_, Try.func109, by kernel_rfl, by kernel_rfl⟩
theorem call110 : Callable Try.prog 110 := ⟨_, Try.func110, by kernel_rfl, by kernel_rfl⟩
theorem call111 : Callable Try.prog 111 := ⟨_, Try.func111, by kernel_rfl, by kernel_rfl⟩
theorem call112 : Callable Try.prog 112 := ⟨_, Try.func112, by kernel_rfl, by kernel_rfl⟩
theorem call113 : Callable Try.prog 113 := ⟨_, Try.func113, by kernel_rfl, by kernel_rfl⟩
theorem call114 : Callable Try.prog 114 := ⟨_, Try.func114, by kernel_rfl, by kernel_rfl⟩
theorem call116 : Callable Try.prog 116 := ⟨_, Try.func116, by kernel_rfl, by kernel_rfl⟩
theorem call117 : Callable Try.prog 117 := ⟨_, Try.func117, by kernel_rfl, by kernel_rfl⟩
theorem call120 : Callable Try.prog 120 := ⟨_, Try.func120, by kernel_rfl, by kernel_rfl⟩
theorem call121 : Callable Try.prog 121 := ⟨_, Try.func121, by kernel_rfl, by kernel_rfl⟩
theorem call122 : Callable Try.prog 122 := ⟨_, Try.func122, by kernel_rfl, by kernel_rfl⟩
theorem call123 : Callable Try.prog 123 := ⟨_, Try.func123, by kernel_rfl, by kernel_rfl⟩
theorem call124 : Callable Try.prog 124 := ⟨_, Try.func124, by kernel_rfl, by kernel_rfl⟩
theorem call126 : Callable Try.prog 126 := ⟨_, Try.func126, by kernel_rfl, by kernel_rfl⟩
theorem call127 : Callable Try.prog 127 := ⟨_, Try.func127, by kernel_rfl, by kernel_rfl⟩
theorem call128 : Callable Try.prog 128 := ⟨_, Try.func128, by kernel_rfl, by kernel_rfl⟩
theorem call129 : Callable Try.prog 129 := ⟨_, Try.func129, by kernel_rfl, by kernel_rfl⟩
theorem call130 : Callable Try.prog 130 := ⟨_, Try.func130, by kernel_rfl, by kernel_rfl⟩
theorem call131 : Callable Try.prog 131 := ⟨_, Try.func131, by kernel_rfl, by kernel_rfl⟩
end Go.Proofs.Yteomgedahkpnlaa
end
section

namespace Go.Proofs.Yteomgedahkpnlaa
open Go.Proofs
theorem AC.rq {nt : Nat} {S : St} {Q : Exit → St → Prop} {id : Nat} {ops : Array Oper} {draw : Bool} {y : Code} (h : ∀ σ, RegOK Try.prog nt ops draw S σ (fun S' => AC Fence.wide Try.prog nt y S' Q)) : AC Fence.wide Try.prog nt (.seq (.region id ops draw) y) S Q := .rseq Fr.plain mixed h
theorem AC.re {nt : Nat} {S : St} {Q : Exit → St → Prop} {id : Nat} {ops : Array Oper} {draw : Bool} (h : ∀ σ, RegOK Try.prog nt ops draw S σ (fun S' => Q .normal S')) : AC Fence.wide Try.prog nt (.region id ops draw) S Q := .rend Fr.plain mixed h
theorem RegOKL.m1 {P : Program} {nt : Nat} {ops : Array Oper} {l : List Oper} {S : St} {σ : Nat → Nat} {next : St → Prop} {sps : List Spec} (ks : List Nat) (Fin : St) (h1 : Steps P ops l sps) (h8 : next Fin) (h2 : getsT sps S = wantsT sps := by kernel_rfl) (h3 : getsM sps S = wantsM sps := by kernel_rfl)
    (h4 : placesM sps S.mem = true := by kernel_rfl) (h4' : noNeeds sps = true := by kernel_rfl) (h5 : chk nt false l sps = true := by kernel_rfl) (h6 : sps.map Spec.sym = symL (sps.map fun sp => sp.sym.isSome) σ 0 := by kernel_rfl) (h7 : keepSt ks (finSt sps S) = Fin := by kernel_rfl) : RegOKL P nt ops l S σ next := .mk ks Fin h1 h2 h3 h4 (noNeeds_of _ _ h4') h5 h6 h7 h8
theorem RegOK.m1 {P : Program} {nt : Nat} {ops : Array Oper} {draw : Bool} {S : St} {σ : Nat → Nat} {next : St → Prop} {sps : List Spec} (ks : List Nat) (Fin : St) (h1 : Steps P ops ops.toList sps) (h8 : next Fin)
    (h : (getsT sps S, getsM sps S, placesM sps S.mem && (noNeeds sps && chk nt draw ops.toList sps), sps.map Spec.sym, keepSt ks (finSt sps S)) = (wantsT sps, wantsM sps, true, symL (sps.map fun sp => sp.sym.isSome) σ 0, Fin) := by kernel_rfl) : RegOK P nt ops draw S σ next := .mk1 ks Fin h1 h h8
structure Cable where
  name : ByteArray
  coreLo : Int
  coreHi : Int
  earthLo : Int
  earthHi : Int
  rated : Int
abbrev Cable.av (x : Cable) : AV := .agg [.str x.name, I x.coreLo, I x.coreHi, I x.earthLo, I x.earthHi, I x.rated]
instance : Inhabited Cable := ⟨⟨⟨#[]⟩, 0, 0, 0, 0, 0⟩⟩
structure Point where
  cur : Int
  lo : Int
  hi : Int
abbrev Point.av (x : Point) : AV := .agg [I x.cur, I x.lo, I x.hi]
instance : Inhabited Point := ⟨⟨0, 0, 0⟩⟩
structure Fuse where
  name : ByteArray
  rated : Int
  points : List Point
abbrev Fuse.av (x : Fuse) : AV := .agg [.str x.name, I x.rated, .slice (x.points.map Point.av) none]
instance : Inhabited Fuse := ⟨⟨⟨#[]⟩, 0, []⟩⟩
structure Node where
  name : ByteArray
  parent : Int
  cable : Int
  length : Int
  fuse : Int
  lo0 : Int
  hi0 : Int
  lo1 : Int
  hi1 : Int
  lo2 : Int
  hi2 : Int
abbrev Node.av (x : Node) : AV := .agg [.str x.name, I x.parent, I x.cable, I x.length, I x.fuse, I x.lo0, I x.hi0, I x.lo1, I x.hi1, I x.lo2, I x.hi2]
instance : Inhabited Node := ⟨⟨⟨#[]⟩, 0, 0, 0, 0, 0, 0, 0, 0, 0, 0⟩⟩
structure Feeder where
  cables : List Cable
  fuses : List Fuse
  nodes : List Node
  vLo : Int
  vHi : Int
  sLo : Int
  sHi : Int
  drop : Int
  limit : Int
abbrev Feeder.av (x : Feeder) : AV := .agg [.slice (x.cables.map Cable.av) none, .slice (x.fuses.map Fuse.av) none, .slice (x.nodes.map Node.av) none, I x.vLo, I x.vHi, I x.sLo, I x.sHi, I x.drop, I x.limit]
structure Guard where
  node : Int
  fuse : Fuse
  bes : Int
abbrev Guard.av (x : Guard) : AV := .agg [I x.node, .str x.fuse.name, I x.fuse.rated, .slice (x.fuse.points.map Point.av) none, I x.bes]
instance : Inhabited Guard := ⟨⟨0, default, 0⟩⟩
abbrev fc (x : Feeder) : List AV := (Feeder.av x).cells
abbrev inB (n lo hi : Int) : Bool := decide (lo ≤ n) && decide (n ≤ hi)
abbrev wiB (a b lo hi : Int) : Bool := (decide (a ≤ b) && (decide (lo ≤ a) && decide (a ≤ hi))) && (decide (lo ≤ b) && decide (b ≤ hi))
abbrev wvB (a b lo hi : Int) : Bool := (decide (lo ≤ a) && decide (a ≤ b)) && decide (b ≤ hi)
theorem wvB_i {a b lo hi : Int} : wvB a b lo hi = true ↔ (lo ≤ a ∧ a ≤ b) ∧ b ≤ hi := iA (iA iD iD) iD
theorem inB_i {n lo hi : Int} : inB n lo hi = true ↔ lo ≤ n ∧ n ≤ hi := iA iD iD
theorem wiB_i {a b lo hi : Int} : wiB a b lo hi = true ↔ (a ≤ b) ∧ (lo ≤ a ∧ a ≤ hi) ∧ (lo ≤ b ∧ b ≤ hi) := by
  rw [← and_assoc]
  exact iA (iA iD (iA iD iD)) (iA iD iD)
abbrev triA (e : Int × Int × Int) : AV := .agg [I e.1, I e.2.1, I e.2.2]
abbrev encA (e : Int × Int) : AV := .agg [I e.1, I e.2]
def Cable.ok (x : Cable) : Prop := (x.name.size : Int) ≤ 9223372036854775807
def Fuse.ok (x : Fuse) : Prop := (x.name.size : Int) ≤ 9223372036854775807 ∧ (x.points.length : Int) ≤ 9223372036854775807
def Node.ok (x : Node) : Prop := (x.name.size : Int) ≤ 9223372036854775807
def Feeder.ok (f : Feeder) : Prop := (f.cables.length : Int) ≤ 9223372036854775807 ∧ (f.fuses.length : Int) ≤ 9223372036854775807 ∧ (f.nodes.length : Int) ≤ 9223372036854775807 ∧
  (∀ x ∈ f.cables, x.ok) ∧ (∀ x ∈ f.fuses, x.ok) ∧ (∀ x ∈ f.nodes, x.ok)
theorem Feeder.ok.cab {f : Feeder} (h : f.ok) {i : Nat} (hi : i < f.cables.length) : (f.cables.getD i default).ok := h.2.2.2.1 _ (getD_mem hi)
theorem Feeder.ok.fus {f : Feeder} (h : f.ok) {i : Nat} (hi : i < f.fuses.length) : (f.fuses.getD i default).ok := h.2.2.2.2.1 _ (getD_mem hi)
theorem Feeder.ok.nod {f : Feeder} (h : f.ok) {i : Nat} (hi : i < f.nodes.length) : (f.nodes.getD i default).ok := h.2.2.2.2.2 _ (getD_mem hi)
abbrev within (a b lo hi : Int) : Prop := lo ≤ a ∧ a ≤ b ∧ b ≤ hi
def cableErr (x : Cable) : Int := if ¬ (within x.coreLo x.coreHi 1 1000000) ∨ ¬ (within x.earthLo x.earthHi 1 1000000) ∨ ¬ (1 ≤ x.rated ∧ x.rated ≤ 100000000) then 7 else 0
def wildP (p : Point) : Bool := !(decide (1 ≤ p.cur) && decide (p.cur ≤ 100000000)) || !((decide (1 ≤ p.lo) && decide (p.lo ≤ p.hi)) && decide (p.hi ≤ 100000000))
def badP (a b : Point) : Bool := (decide (b.cur ≤ a.cur) || decide (a.lo < b.lo)) || decide (a.hi < b.hi)
def badPs (l : List Point) : Bool := (List.range (l.length - 1)).any fun i => badP (l.getD i default) (l.getD (i + 1) default)
def fuseErr (x : Fuse) : Int :=
  if ¬ (1 ≤ (x.points.length : Int) ∧ (x.points.length : Int) ≤ 8) then 3
  else if ¬ (1 ≤ x.rated ∧ x.rated ≤ 100000000) ∨ x.points.any wildP = true then 7
  else if badPs x.points = true then 2 else 0
def nodeErr (f : Feeder) (i : Nat) (x : Node) : Int :=
  if i = 0 then (if x.parent = -1 ∧ x.cable = -1 ∧ x.length = 0 ∧ x.fuse = -1 ∧ x.lo0 = 0 ∧ x.hi0 = 0 ∧ x.lo1 = 0 ∧ x.hi1 = 0 ∧ x.lo2 = 0 ∧ x.hi2 = 0 then 0 else 2)
  else if ¬ (0 ≤ x.parent ∧ x.parent ≤ (i : Int) - 1) ∨ ¬ (0 ≤ x.cable ∧ x.cable ≤ (f.cables.length : Int) - 1) ∨ ¬ (-1 ≤ x.fuse ∧ x.fuse ≤ (f.fuses.length : Int) - 1) then 4
  else if ¬ (1 ≤ x.length ∧ x.length ≤ 5000) ∨ ¬ (within x.lo0 x.hi0 0 1000000) ∨ ¬ (within x.lo1 x.hi1 0 1000000) ∨ ¬ (within x.lo2 x.hi2 0 1000000) then 7 else 0
def cabE (l : List Cable) (i : Nat) : Int := errOf (l.getD i default).name ((l.take i).any fun y => decide (y.name = (l.getD i default).name)) (cableErr (l.getD i default))
def fusE (l : List Fuse) (i : Nat) : Int := errOf (l.getD i default).name ((l.take i).any fun y => decide (y.name = (l.getD i default).name)) (fuseErr (l.getD i default))
def nodE (f : Feeder) (l : List Node) (i : Nat) : Int := errOf (l.getD i default).name ((l.take i).any fun y => decide (y.name = (l.getD i default).name)) (nodeErr f i (l.getD i default))
abbrev cabsE (l : List Cable) : Int × Int := firstErr (cabE l) l.length 0
abbrev fussE (l : List Fuse) : Int × Int := firstErr (fusE l) l.length 0
abbrev nodsE (f : Feeder) (l : List Node) : Int × Int := firstErr (nodE f l) l.length 0
def headErr (f : Feeder) : Int :=
  if 10 < (f.cables.length : Int) ∨ 10 < (f.fuses.length : Int) ∨ 40 < (f.nodes.length : Int) then 3
  else if (f.nodes.length : Int) = 0 then 4
  else if ¬ (within f.vLo f.vHi 1 1000000) ∨ ¬ (within f.sLo f.sHi 1 1000000000) ∨ ¬ (0 ≤ f.drop ∧ f.drop ≤ 1000000) ∨ ¬ (1 ≤ f.limit ∧ f.limit ≤ 100000000) then 7 else 0
def check (f : Feeder) : Int × Int × Int :=
  if headErr f ≠ 0 then (0, 0, headErr f)
  else if (cabsE f.cables).2 ≠ 0 then (1, (cabsE f.cables).1, (cabsE f.cables).2)
  else if (fussE f.fuses).2 ≠ 0 then (2, (fussE f.fuses).1, (fussE f.fuses).2)
  else if (nodsE f f.nodes).2 ≠ 0 then (3, (nodsE f f.nodes).1, (nodsE f f.nodes).2)
  else (0, 0, 0)
end Go.Proofs.Yteomgedahkpnlaa
end
