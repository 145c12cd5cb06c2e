/- A small program logic over abstract values (slices as lists by value, local variables as owned boxes): values, ghost state, what is kept from world to world. -/
import Derived.WalkKit
import Derived.OrdersIn
import Derived.RangeFuncLeaves
import Derived.KernelRfl
set_option linter.unusedVariables false
set_option linter.unusedSimpArgs false
namespace Go.Proofs.Ytjhecgiipajdpaa
open Go.RowKit

/-- Abstract values. -/
inductive AV where
  | top
  | int (k : IntKind) (n : Int)
  | bool (b : Bool)
  | str (s : ByteArray)
  | ptr (s : Nat) (off : Nat)
  | eptr (e : AV) (off : Nat)
  | nils
  | slice (es : List AV) (own : Option Nat)
  | func (f : FuncId) (first caps : List AV)
  | yieldf (y : Nat)
  | mp (s : Nat)
  | agg (cs : List AV)
  | tuple (vs : List AV)
  | cond (b : Bool) (v : AV)

def AV.cells : AV → List AV
  | .agg cs => cs
  | v => [v]
def AV.one : AV → Bool
  | .top | .agg _ | .tuple _ | .cond _ _ => false
  | _ => true
/-- Not unknown: its cells are the value's. -/
def AV.solid : AV → Bool
  | .top | .tuple _ | .cond _ _ => false
  | _ => true

inductive Sym where
  | free
  | held
  | blk (b : Nat)
  | val (v : Value)

/-- The ghost: the first block of the call's own; which cells are for ever; what the symbols stand for. -/
structure Gh where
  base : Nat
  imm : Nat → Nat → Prop
  sy : Nat → Sym

inductive Rep (g : Gh) (w : World) : Value → AV → Prop
  | top (v : Value) : Rep g w v .top
  | int (k : IntKind) (n : Int) : Rep g w (.int k n) (.int k n)
  | bool (b : Bool) : Rep g w (.bool b) (.bool b)
  | str (s : ByteArray) : Rep g w (.string s) (.str s)
  | ptr {s b off : Nat} (h : g.sy s = .blk b) : Rep g w (.pointer (some ⟨b, off, none⟩)) (.ptr s off)
  | eptr {b o off : Nat} {e : AV} (vals : Nat → Value)
      (hc : ∀ j c, e.cells[j]? = some c → w.cell? ⟨b, o + j, none⟩ = some (vals j) ∧ g.imm b (o + j))
      (hr : ∀ j c, e.cells[j]? = some c → Rep g w (vals j) c) : Rep g w (.pointer (some ⟨b, o + off, none⟩)) (.eptr e off)
  | nils : Rep g w (.slice none 0 0) .nils
  | slice {A : Option Addr} {len cap sz : Nat} {es : List AV} {own : Option Nat} (b o : Nat) (vals : Nat → Nat → Value)
      (hl : es.length = len) (hA : es ≠ [] → A = some ⟨b, o, none⟩) (hsz : ∀ e ∈ es, e.cells.length = sz)
      (hc : ∀ i e j c, es[i]? = some e → e.cells[j]? = some c → w.cell? ⟨b, o + (i * sz + j), none⟩ = some (vals i j) ∧ g.imm b (o + (i * sz + j)))
      (hr : ∀ i e j c, es[i]? = some e → e.cells[j]? = some c → Rep g w (vals i j) c)
      (hle : len ≤ cap)
      (how : ∀ s, own = some s → g.sy s = .val (.slice A len cap)) : Rep g w (.slice A len cap) (.slice es own)
  | func {f : FuncId} {first caps : Array Value} {fa ca : List AV} (h1 : first.size = fa.length) (h2 : caps.size = ca.length)
      (r1 : ∀ (i : Nat) v a, first[i]? = some v → fa[i]? = some a → Rep g w v a)
      (r2 : ∀ (i : Nat) v a, caps[i]? = some v → ca[i]? = some a → Rep g w v a) : Rep g w (.func (.func f) first caps) (.func f fa ca)
  | yieldf (l : Nat) : Rep g w (.func (.yield l) #[] #[]) (.yieldf l)
  | mp {s b : Nat} (h : g.sy s = .blk b) : Rep g w (.map (some b)) (.mp s)
  | agg {cs : Array Value} {l : List AV} (h : cs.size = l.length) (hr : ∀ (i : Nat) v a, cs[i]? = some v → l[i]? = some a → Rep g w v a) : Rep g w (.agg cs) (.agg l)
  | tuple {cs : Array Value} {l : List AV} (h : cs.size = l.length) (hr : ∀ (i : Nat) v a, cs[i]? = some v → l[i]? = some a → Rep g w v a) : Rep g w (.tuple cs) (.tuple l)
  | condT {v : Value} {b : Bool} {a : AV} (hb : b = true) (h : Rep g w v a) : Rep g w v (.cond b a)
  | condF {b : Bool} {a : AV} (hb : b = false) : Rep g w undef (.cond b a)

/-- What was for ever is so; what the symbols stood for they stand for: but for one, which was held. -/
structure Stab (o : Option Nat) (g : Gh) (w : World) (g' : Gh) (w' : World) : Prop where
  base : g'.base = g.base
  below : Below g.base w w'
  imm : ∀ b o, g.imm b o → g'.imm b o ∧ w'.cell? ⟨b, o, none⟩ = w.cell? ⟨b, o, none⟩
  sy : ∀ s, some s ≠ o → g.sy s ≠ .free → g'.sy s = g.sy s
  held : ∀ s, o = some s → g.sy s = .held

abbrev Ext (g : Gh) (w : World) (g' : Gh) (w' : World) : Prop := Stab none g w g' w'

theorem Stab.keeps {o : Option Nat} {g g' : Gh} {w w' : World} (h : Stab o g w g' w') {s : Nat} {x : Sym} (hx : g.sy s = x) (h1 : x ≠ .free) (h2 : x ≠ .held) : g'.sy s = x := by
  rw [h.sy s ?_ (by rw [hx]; exact h1), hx]
  intro e
  exact h2 (by rw [← hx]; exact h.held s e.symm)

theorem Rep.stab {o : Option Nat} {g g' : Gh} {w w' : World} (h : Stab o g w g' w') {v : Value} {a : AV} (hr : Rep g w v a) : Rep g' w' v a := by
  induction hr with
  | top v => exact .top v
  | int k n => exact .int k n
  | bool b => exact .bool b
  | str s => exact .str s
  | ptr hs => exact .ptr (h.keeps hs (by simp) (by simp))
  | eptr vals hc hr ih => exact .eptr vals (fun j c hj => ⟨((h.imm _ _ (hc j c hj).2).2).trans (hc j c hj).1, (h.imm _ _ (hc j c hj).2).1⟩) ih
  | nils => exact .nils
  | slice b o vals hl hA hsz hc hr hle how ih =>
    exact .slice b o vals hl hA hsz (fun i e j c h1 h2 => ⟨((h.imm _ _ (hc i e j c h1 h2).2).2).trans (hc i e j c h1 h2).1, (h.imm _ _ (hc i e j c h1 h2).2).1⟩) ih hle
      (fun s hs => h.keeps (how s hs) (by simp) (by simp))
  | func h1 h2 r1 r2 i1 i2 => exact .func h1 h2 i1 i2
  | yieldf l => exact .yieldf l
  | mp hs => exact .mp (h.keeps hs (by simp) (by simp))
  | agg h hr ih => exact .agg h ih
  | tuple h hr ih => exact .tuple h ih
  | condT hb _ ih => exact .condT hb ih
  | condF hb => exact .condF hb

theorem Stab.refl (g : Gh) (w : World) : Ext g w g w := ⟨rfl, Below.refl _ _, fun _ _ h => ⟨h, rfl⟩, fun _ _ _ => rfl, fun _ h => by cases h⟩
/-- Of steps that have followed a start where the symbol was free. -/
theorem Stab.step {o : Option Nat} {g0 g g' : Gh} {w0 w w' : World} (h : Ext g0 w0 g w) (k : Stab o g w g' w') (hf : ∀ s, o = some s → g0.sy s = .free) : Ext g0 w0 g' w' where
  base := k.base.trans h.base
  below := h.below.trans (by rw [← h.base]; exact k.below)
  imm b o hi := ⟨(k.imm b o (h.imm b o hi).1).1, ((k.imm b o (h.imm b o hi).1).2).trans (h.imm b o hi).2⟩
  sy s hs h0 := by
    have h1 := h.sy s hs h0
    rw [k.sy s ?_ (by rw [h1]; exact h0), h1]
    intro e
    exact h0 (hf s e.symm)
  held s hs := by cases hs
theorem Stab.trans {g0 g g' : Gh} {w0 w w' : World} (h : Ext g0 w0 g w) (k : Ext g w g' w') : Ext g0 w0 g' w' := h.step k (fun s hs => by cases hs)

/-- What is known of the temporaries. -/
def getT : List (Nat × AV) → Nat → AV
  | [], _ => .top
  | (k, v) :: r, x => if x = k then v else getT r x
def EnvOK (g : Gh) (w : World) (env : List (Nat × AV)) (tmps : Array Value) : Prop := ∀ x u, tmps[x]? = some u → Rep g w u (getT env x)

theorem EnvOK.stab {o : Option Nat} {g g' : Gh} {w w' : World} (h : Stab o g w g' w') {env : List (Nat × AV)} {t : Array Value} (he : EnvOK g w env t) : EnvOK g' w' env t :=
  fun x u hx => (he x u hx).stab h

/-- What the call owns in memory. -/
inductive Ent where
  | hole
  | box (s : Nat) (cs : List AV)
  | row (s : Nat) (n : Nat) (e : TypeId) (sz : Nat)
  | obj (s : Nat) (φ : Obj → Prop)
  | mark (r : Nat)
  | loop (l : Nat) (st : LoopState) (pend : Option Code) (ps : Array Tmp) (as bo : Code) (env : List (Nat × AV)) (nt : Nat)

def symBlock : Sym → Option Nat
  | .blk b => some b
  | .val v => v.ownBlock
  | _ => none
def Ent.block (g : Gh) : Ent → Option Nat
  | .hole => none
  | .box s _ | .row s _ _ _ | .obj s _ => symBlock (g.sy s)
  | .mark r => some r
  | .loop l _ _ _ _ _ _ _ => some l
def Ent.sym : Ent → Option Nat
  | .box s _ | .row s _ _ _ | .obj s _ => some s
  | _ => none

def EntOK (g : Gh) (w : World) : Ent → Prop
  | .hole => True
  | .box s cs => ∃ b arr t, g.sy s = .blk b ∧ g.base ≤ b ∧ w.heap[b]? = some (.cells arr t (0, 0)) ∧ arr.size = cs.length ∧
      (∀ (i : Nat) v a, arr[i]? = some v → cs[i]? = some a → Rep g w v a) ∧ ∀ o, ¬ g.imm b o
  | .row s n e sz => ∃ v xs, g.sy s = .val v ∧ w.ownsRow g.base e sz v n xs ∧ ∀ b o, v.ownBlock = some b → n * sz ≤ o → ¬ g.imm b o
  | .obj s φ => ∃ b o, g.sy s = .blk b ∧ g.base ≤ b ∧ w.heap[b]? = some o ∧ φ o ∧ ∀ o, ¬ g.imm b o
  | .mark r => g.base ≤ r ∧ w.heap[r]? = some (.deferred (some [])) ∧ ∀ o, ¬ g.imm r o
  | .loop l st pend ps as bo env nt => g.base ≤ l ∧ (∃ fn tmps d, w.heap[l]? = some (.loop { state := st, pending := pend, fn := fn, tmps := tmps, params := ps, assign := as, body := bo, defers := d }) ∧ tmps.size = nt ∧ EnvOK g w env tmps) ∧ ∀ o, ¬ g.imm l o

structure Inv (g : Gh) (w : World) (mem : List Ent) : Prop where
  ok : ∀ e ∈ mem, EntOK g w e
  apart : ∀ (i j : Nat) ei ej b, mem[i]? = some ei → mem[j]? = some ej → ei.block g = some b → ej.block g = some b → i = j
  base : g.base ≤ w.heap.size
  lt : ∀ b o, g.imm b o → b < w.heap.size
  room : ∃ N, ∀ s, N ≤ s → g.sy s = .free

theorem EntOK.block_lt {g : Gh} {w : World} {e : Ent} (h : EntOK g w e) {b : Nat} (hb : e.block g = some b) : g.base ≤ b ∧ b < w.heap.size := by
  cases e with
  | hole => simp [Ent.block] at hb
  | box s cs =>
    obtain ⟨b', arr, t, h1, h2, h3, _⟩ := h
    simp only [Ent.block, h1, symBlock, Option.some.injEq] at hb
    subst hb
    exact ⟨h2, (Array.getElem?_eq_some_iff.1 h3).1⟩
  | row s n e sz =>
    obtain ⟨v, xs, h1, h2, _⟩ := h
    simp only [Ent.block, h1, symBlock] at hb
    exact h2.lt _ hb
  | obj s φ =>
    obtain ⟨b', o, h1, h2, h3, _⟩ := h
    simp only [Ent.block, h1, symBlock, Option.some.injEq] at hb
    subst hb
    exact ⟨h2, (Array.getElem?_eq_some_iff.1 h3).1⟩
  | mark r =>
    obtain ⟨h1, h2, _⟩ := h
    simp only [Ent.block, Option.some.injEq] at hb
    subst hb
    exact ⟨h1, (Array.getElem?_eq_some_iff.1 h2).1⟩
  | loop l st pend ps as bo env nt =>
    obtain ⟨h1, ⟨fn, tmps, d, h2, _⟩, _⟩ := h
    simp only [Ent.block, Option.some.injEq] at hb
    subst hb
    exact ⟨h1, (Array.getElem?_eq_some_iff.1 h2).1⟩

/-- An entry lives on where its block is as it was. -/
theorem EntOK.kept {o : Option Nat} {g g' : Gh} {w w' : World} (h : Stab o g w g' w') {e : Ent} (he : EntOK g w e)
    (hb : ∀ b, e.block g = some b → w'.heap[b]? = w.heap[b]?) (hi : ∀ b o, e.block g = some b → g'.imm b o → g.imm b o) : EntOK g' w' e ∧ e.block g' = e.block g := by
  cases e with
  | hole => exact ⟨trivial, rfl⟩
  | box s cs =>
    obtain ⟨b, arr, t, h1, h2, h3, h4, h5, h6⟩ := he
    have hs := h.keeps h1 (by simp) (by simp)
    have hblk : (Ent.box s cs).block g = some b := by simp [Ent.block, h1, symBlock]
    refine ⟨⟨b, arr, t, hs, by rw [h.base]; exact h2, (hb b hblk).trans h3, h4, fun i v a x y => (h5 i v a x y).stab h, fun o ho => h6 o (hi b o hblk ho)⟩, ?_⟩
    simp [Ent.block, h1, hs, symBlock]
  | row s n e sz =>
    obtain ⟨v, xs, h1, h2, h3⟩ := he
    have hs := h.keeps h1 (by simp) (by simp)
    have hblk : (Ent.row s n e sz).block g = v.ownBlock := by simp [Ent.block, h1, symBlock]
    refine ⟨⟨v, xs, hs, ?_, fun b o hv ho hc => h3 b o hv ho (hi b o (hblk.trans hv) hc)⟩, ?_⟩
    · rw [h.base]
      refine ⟨h2.1, ?_⟩
      rcases h2.2 with hn | ⟨gg, cap, cur, rfl, hbb, hgg, rest⟩
      · exact .inl hn
      · exact .inr ⟨gg, cap, cur, rfl, hbb, by rw [hb gg (by rw [hblk]; rfl)]; exact hgg, rest⟩
    · simp [Ent.block, h1, hs, symBlock]
  | obj s φ =>
    obtain ⟨b, o, h1, h2, h3, h4, h5⟩ := he
    have hs := h.keeps h1 (by simp) (by simp)
    have hblk : (Ent.obj s φ).block g = some b := by simp [Ent.block, h1, symBlock]
    refine ⟨⟨b, o, hs, by rw [h.base]; exact h2, (hb b hblk).trans h3, h4, fun o ho => h5 o (hi b o hblk ho)⟩, ?_⟩
    simp [Ent.block, h1, hs, symBlock]
  | mark r =>
    obtain ⟨h1, h2, h3⟩ := he
    exact ⟨⟨by rw [h.base]; exact h1, (hb r rfl).trans h2, fun o ho => h3 o (hi r o rfl ho)⟩, rfl⟩
  | loop l st pend ps as bo env nt =>
    obtain ⟨h1, ⟨fn, tmps, d, h2, h3, h4⟩, h5⟩ := he
    exact ⟨⟨by rw [h.base]; exact h1, ⟨fn, tmps, d, (hb l rfl).trans h2, h3, h4.stab h⟩, fun o ho => h5 o (hi l o rfl ho)⟩, rfl⟩

structure St where
  env : List (Nat × AV)
  mem : List Ent

def markDefer (r : Nat) : Deferred := { target := .collected r, args := #[] }

/-- The state is as told. -/
structure Rel (nt : Nat) (g : Gh) (w : World) (a : Act) (S : St) (hid : List Nat) : Prop where
  size : a.tmps.size = nt
  defers : a.defers = hid.map markDefer
  env : EnvOK g w S.env a.tmps
  inv : Inv g w (S.mem ++ hid.map Ent.mark)

end Go.Proofs.Ytjhecgiipajdpaa
