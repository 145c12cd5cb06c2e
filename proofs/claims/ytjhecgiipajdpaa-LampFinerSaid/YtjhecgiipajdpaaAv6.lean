/- The operations on memory: what each does to an abstract state. -/
import Derived.Test.YtjhecgiipajdpaaAv5
set_option linter.unusedVariables false
set_option linter.unusedSimpArgs false
namespace Go.Proofs.Ytjhecgiipajdpaa
open Go.RowKit

/-! ### Facts on types -/
def TyS (P : Program) (t : TypeId) : Prop := ∃ d, P.underlying t = some d ∧ (match d with | .struct _ | .array _ _ => false | _ => true) = true
def SzT (P : Program) (t : TypeId) (n : Nat) : Prop := (P.info? t).map (·.size) = some n
def TyA (P : Program) (t : TypeId) (n : Nat) : Prop := ∃ d, P.underlying t = some d ∧ (match d with | .struct _ | .array _ _ => true | _ => false) = true ∧ SzT P t n
def Zero (P : Program) (t : TypeId) (z : Value) : Prop := (P.info? t).bind (·.zero) = some z
def Fld (P : Program) (t : TypeId) (i off : Nat) : Prop := ∃ fields f k, P.underlying t = some (.struct fields) ∧ fields[i]? = some f ∧ f.offset = off ∧ SzT P f.type k ∧ k ≠ 0
def SliceT (P : Program) (t e : TypeId) (n : Nat) : Prop := P.underlying t = some (.slice e) ∧ SzT P e n
def ArrT (P : Program) (t : TypeId) (len : Nat) (e : TypeId) (n : Nat) : Prop := P.underlying t = some (.array len e) ∧ SzT P e n
def Places (P : Program) (t : TypeId) (pl : List (Nat × Nat)) : Prop := ∃ fields, P.underlying t = some (.struct fields) ∧
  ∀ w, (fields.mapM (fun f => do pure (f.offset, ← sizeOf f.type)) : Sem (Array (Nat × Nat))).run P w = .ok pl.toArray w

theorem SzT.mk {P : Program} {t : TypeId} {n : Nat} (h : (P.info? t).map (·.size) = some n) : SzT P t n := h
theorem Zero.mk {P : Program} {t : TypeId} {z : Value} (h : (P.info? t).bind (·.zero) = some z) : Zero P t z := h
theorem run_size {P : Program} {t : TypeId} {n : Nat} (h : SzT P t n) (w : World) : (sizeOf t).run P w = .ok n w := by
  unfold SzT at h
  cases hi : P.info? t with
  | none => simp [hi] at h
  | some i => simp [hi] at h; simp [sizeOf, typeInfo, hi, h]
theorem run_zero {P : Program} {t : TypeId} {z : Value} (h : Zero P t z) (w : World) : (zeroValue t).run P w = .ok z w := by
  unfold Zero at h
  cases hi : P.info? t with
  | none => simp [hi] at h
  | some i => simp [hi] at h; simp [zeroValue, typeInfo, hi, h]
theorem run_single {P : Program} {t : TypeId} (h : TyS P t) (w : World) : (isAgg t).run P w = .ok false w := by
  obtain ⟨d, h1, h2⟩ := h
  cases d <;> simp at h2 <;> simp [isAgg, run_underlying h1]
theorem run_aggr {P : Program} {t : TypeId} {n : Nat} (h : TyA P t n) (w : World) : (isAgg t).run P w = .ok true w := by
  obtain ⟨d, h1, h2, _⟩ := h
  cases d <;> simp at h2 <;> simp [isAgg, run_underlying h1]

/-! ### Cells -/
def RepCells (g : Gh) (w : World) (arr : Array Value) (l : List AV) : Prop := arr.size = l.length ∧ ∀ (i : Nat) v a, arr[i]? = some v → l[i]? = some a → Rep g w v a
theorem RepCells.stab {o : Option Nat} {g g' : Gh} {w w' : World} (h : Stab o g w g' w') {arr : Array Value} {l : List AV} (k : RepCells g w arr l) : RepCells g' w' arr l := ⟨k.1, fun i v a h1 h2 => (k.2 i v a h1 h2).stab h⟩
theorem rep_cells {g : Gh} {w : World} {u : Value} {a : AV} (h : Rep g w u a) (hs : a.solid = true) : RepCells g w u.cells a.cells := by
  have single : ∀ {v : Value} {x : AV}, v.cells = #[v] → x.cells = [x] → Rep g w v x → RepCells g w v.cells x.cells := by
    intro v x h1 h2 h3
    rw [h1, h2]
    refine ⟨rfl, fun i v' a' h4 h5 => ?_⟩
    cases i with
    | zero => simp at h4 h5; subst h4; subst h5; exact h3
    | succ i => simp at h4
  cases h with
  | agg hl hr => exact ⟨hl, hr⟩
  | top => simp [AV.solid] at hs
  | tuple => simp [AV.solid] at hs
  | condT => simp [AV.solid] at hs
  | condF => simp [AV.solid] at hs
  | int k n => exact single rfl rfl (.int k n)
  | bool b => exact single rfl rfl (.bool b)
  | str s => exact single rfl rfl (.str s)
  | ptr h => exact single rfl rfl (.ptr h)
  | eptr vals hc hr => exact single rfl rfl (.eptr vals hc hr)
  | nils => exact single rfl rfl .nils
  | slice b o vals hl hA hsz hc hr hle how => exact single rfl rfl (.slice b o vals hl hA hsz hc hr hle how)
  | func h1 h2 r1 r2 => exact single rfl rfl (.func h1 h2 r1 r2)
  | yieldf h => exact single rfl rfl (.yieldf h)
  | mp h => exact single rfl rfl (.mp h)
theorem one_of {g : Gh} {w : World} {u : Value} {a : AV} (h : Rep g w u a) (hs : a.one = true) : u.oneCell' = true := by
  cases h <;> first | rfl | simp [AV.one] at hs
def av1 : Value → AV
  | .int k n => .int k n
  | .bool b => .bool b
  | .string s => .str s
  | .slice none 0 0 => .nils
  | _ => .top
theorem rep_av1 (g : Gh) (w : World) (v : Value) : Rep g w v (av1 v) := by
  unfold av1
  split
  · exact .int _ _
  · exact .bool _
  · exact .str _
  · exact .nils
  · exact .top _
def zeroA (z : Value) : List AV := z.cells.toList.map av1
theorem rep_zeroA (g : Gh) (w : World) (z : Value) : RepCells g w z.cells (zeroA z) := by
  refine ⟨by simp [zeroA], fun i v a h1 h2 => ?_⟩
  simp only [zeroA, List.getElem?_map, Array.getElem?_toList, h1, Option.map_some, Option.some.injEq] at h2
  subst h2
  exact rep_av1 g w v

def putA (cs : List AV) (off : Nat) (l : List AV) : List AV := cs.take off ++ l ++ cs.drop (off + l.length)
theorem putA_length {cs : List AV} {off : Nat} {l : List AV} (h : off + l.length ≤ cs.length) : (putA cs off l).length = cs.length := by
  simp only [putA, List.length_append, List.length_take, List.length_drop]; omega
theorem rep_put {g : Gh} {w : World} {arr : Array Value} {cs : List AV} {vs : Array Value} {l : List AV} {off : Nat} (h : RepCells g w arr cs) (k : RepCells g w vs l) (hl : off + l.length ≤ cs.length) :
    RepCells g w (arr.toList.take off ++ vs.toList ++ arr.toList.drop (off + vs.toList.length)).toArray (putA cs off l) := by
  have h1 := h.1
  have k1 := k.1
  refine ⟨?_, fun i v a hv ha => ?_⟩
  · simp only [List.size_toArray, List.length_append, List.length_take, List.length_drop, Array.length_toList, putA_length hl]
    omega
  · simp only [List.getElem?_toArray] at hv
    simp only [putA] at ha
    by_cases c1 : i < off
    · rw [List.append_assoc, List.getElem?_append_left (by simp; omega), List.getElem?_take, if_pos c1] at hv ha
      exact h.2 i v a (by simpa using hv) ha
    · by_cases c2 : i < off + l.length
      · rw [List.getElem?_append_left (by simp; omega), List.getElem?_append_right (by simp; omega)] at hv ha
        have e1 : (arr.toList.take off).length = off := by simp; omega
        have e2 : (cs.take off).length = off := by simp; omega
        rw [e1] at hv
        rw [e2] at ha
        exact k.2 (i - off) v a (by simpa using hv) ha
      · rw [List.getElem?_append_right (by simp; omega), List.getElem?_drop] at hv ha
        have e1 : (arr.toList.take off ++ vs.toList).length = off + l.length := by simp; omega
        have e2 : (cs.take off ++ l).length = off + l.length := by simp; omega
        have e3 : vs.toList.length = l.length := by simp [k1]
        rw [e1, e3] at hv
        rw [e2] at ha
        have e4 : off + l.length + (i - (off + l.length)) = i := by omega
        rw [e4] at hv ha
        exact h.2 i v a (by simpa using hv) ha

/-! ### New blocks -/
def Gh.put (g : Gh) (s : Nat) (x : Sym) : Gh := { g with sy := fun t => if t = s then x else g.sy t }
def Gh.sealed (g : Gh) (b : Nat) : Gh := { g with imm := fun c o => g.imm c o ∨ c = b }
theorem alloc_old (w : World) (o : Obj) {b : Nat} (h : b < w.heap.size) : (w.alloc o).heap[b]? = w.heap[b]? := Below.heap_alloc w o b h
theorem alloc_new (w : World) (o : Obj) : (w.alloc o).heap[w.heap.size]? = some o := heap_alloc_new w o
theorem put_room {g : Gh} {s : Nat} {x : Sym} (h : ∃ N, ∀ t, N ≤ t → g.sy t = .free) : ∃ N, ∀ t, N ≤ t → (g.put s x).sy t = .free := by
  obtain ⟨N, hN⟩ := h
  refine ⟨max N (s + 1), fun t ht => ?_⟩
  show (if t = s then x else g.sy t) = .free
  rw [if_neg (by omega)]
  exact hN t (by omega)

theorem stab_alloc {g : Gh} {w : World} {mem : List Ent} (h : Inv g w mem) {s : Nat} (hs : g.sy s = .held) (x : Sym) (o : Obj) : Stab (some s) g w (g.put s x) (w.alloc o) where
  base := rfl
  below := (Below.refl _ _).alloc h.base o
  imm b oo hi := ⟨hi, by simp only [World.cell?, alloc_old w o (h.lt b oo hi)]⟩
  sy t ht _ := by
    show (if t = s then x else g.sy t) = g.sy t
    rw [if_neg (fun e => ht (by rw [e]))]
  held t ht := by injection ht with ht; subst ht; exact hs

theorem Inv.newBox {g : Gh} {w : World} {mem : List Ent} (h : Inv g w mem) {s p : Nat} (hs : g.sy s = .held) (hp : p < mem.length) {arr : Array Value} {cs : List AV} (T : TypeId) (hc : RepCells g w arr cs) :
    Stab (some s) g w (g.put s (.blk w.heap.size)) (w.alloc (.cells arr T)) ∧ Inv (g.put s (.blk w.heap.size)) (w.alloc (.cells arr T)) (mem.set p (.box s cs)) ∧ (g.put s (.blk w.heap.size)).sy s = .blk w.heap.size := by
  have hst := stab_alloc h hs (.blk w.heap.size) (.cells arr T)
  have hsy : (g.put s (.blk w.heap.size)).sy s = .blk w.heap.size := by show (if s = s then _ else _) = _; rw [if_pos rfl]
  refine ⟨hst, h.set hst p _ ?_ ?_ (fun b o hi => by have := h.lt b o hi; simp; omega) (put_room h.room), hsy⟩
  · intro i e b hi hne hb
    have hlt := (h.ok e (List.mem_of_getElem? hi)).block_lt hb
    refine ⟨alloc_old w _ hlt.2, fun _ hh => hh, ?_⟩
    simp only [Ent.block, hsy, symBlock]
    intro e
    injection e with e
    omega
  · have hc' := hc.stab hst
    exact ⟨w.heap.size, arr, T, hsy, h.base, alloc_new w _, hc'.1, hc'.2, fun o ho => by have := h.lt _ _ ho; omega⟩

theorem Inv.newImm {g : Gh} {w : World} {mem : List Ent} (h : Inv g w mem) (o : Obj) : Ext g w (g.sealed w.heap.size) (w.alloc o) ∧ Inv (g.sealed w.heap.size) (w.alloc o) mem := by
  have hst : Ext g w (g.sealed w.heap.size) (w.alloc o) :=
    ⟨rfl, (Below.refl _ _).alloc h.base o, fun b oo hi => ⟨.inl hi, by simp only [World.cell?, alloc_old w o (h.lt b oo hi)]⟩, fun _ _ _ => rfl, fun s hs => by cases hs⟩
  refine ⟨hst, h.keep hst ?_ ?_ ?_ h.room⟩
  · intro e b he hb
    exact alloc_old w o ((h.ok e he).block_lt hb).2
  · intro e b oo he hb hi
    rcases hi with hi | hi
    · exact hi
    · have := ((h.ok e he).block_lt hb).2; omega
  · intro b oo hi
    rcases hi with hi | hi
    · have := h.lt b oo hi; simp; omega
    · simp; omega

section
variable {P : Program} {ops : Array Oper} {ty : TypeId} {pos : String} {aft : Array Edge} {d : Nat}

theorem s_alloc {T : TypeId} {z : Value} (p s : Nat) (hz : Zero P T z) : Step P ops ⟨some d, .alloc T, ty, pos, aft, none⟩ { wT := some (d, .ptr s 0), wM := some (p, .box s (zeroA z)), sym := some s } :=
  Step.value rfl rfl (by simp) fun g w a mem hi hT hM hs hp => by
    obtain ⟨h1, h2, h3⟩ := hi.newBox (hs s rfl) (hp p _ rfl) T (rep_zeroA g w z)
    refine ⟨.pointer (some ⟨w.heap.size, 0, none⟩), w.alloc (.cells z.cells T), _, ?_, h1, h2, fun d' v e => ?_⟩
    · simp [execOp, Instr.alloc, run_zero hz, newVar, newRow]
    · injection e with e; injection e with _ e; subst e; exact .ptr h3

theorem s_box {T : TypeId} {x : Operand} {v : AV} {lx : List (Nat × AV)} (p s : Nat) (hx : Opd x v lx) (hv : v.solid = true) : Step P ops ⟨some d, .box T x, ty, pos, aft, none⟩ { rT := lx, wT := some (d, .ptr s 0), wM := some (p, .box s v.cells), sym := some s } :=
  Step.value rfl rfl (by simp) fun g w a mem hi hT hM hs hp => by
    obtain ⟨h1, h2, h3⟩ := hi.newBox (hs s rfl) (hp p _ rfl) T (rep_cells (hx g w a hT) hv)
    refine ⟨.pointer (some ⟨w.heap.size, 0, none⟩), w.alloc (.cells (a.eval x).cells T), _, ?_, h1, h2, fun d' v' e => ?_⟩
    · simp [execOp, Instr.box, newVar, newRow]
    · injection e with e; injection e with _ e; subst e; exact .ptr h3

/-! ### Reading -/
theorem run_cells {w : World} {b o : Nat} (vals : Nat → Value) (n : Nat) (h : ∀ j, j < n → w.cell? ⟨b, o + j, none⟩ = some (vals j)) :
    (loadCells ⟨b, o, none⟩ n).run P w = .ok ((List.range n).map vals).toArray w :=
  run_loadCells w ⟨b, o, none⟩ n vals fun j hj => by
    have : (⟨b, o, none⟩ : Addr).add j = ⟨b, o + j, none⟩ := by unfold Addr.add; split <;> simp_all
    rw [this]; exact h j hj

theorem box_cell {g : Gh} {w : World} {mem : List Ent} (h : Inv g w mem) {p s : Nat} {cs : List AV} (hm : mem[p]? = some (.box s cs)) {b : Nat} (hb : g.sy s = .blk b) :
    ∃ arr t, w.heap[b]? = some (.cells arr t (0, 0)) ∧ g.base ≤ b ∧ RepCells g w arr cs ∧ (∀ o, ¬ g.imm b o) ∧ ∀ j v, arr[j]? = some v → w.cell? ⟨b, j, none⟩ = some v := by
  obtain ⟨b', arr, t, h1, h2, h3, h4, h5, h6⟩ := h.ok _ (List.mem_of_getElem? hm)
  rw [hb] at h1
  injection h1 with h1
  subst h1
  exact ⟨arr, t, h3, h2, ⟨h4, h5⟩, h6, fun j v hj => by simp [World.cell?, h3, hj]⟩

theorem s_load1 {t : TypeId} {x : Operand} {s off : Nat} {cs : List AV} {c : AV} {lx : List (Nat × AV)} (p : Nat) (ht : TyS P t) (hx : Opd x (.ptr s off) lx) (hc : cs[off]? = some c) :
    Step P ops ⟨some d, .load t x, ty, pos, aft, none⟩ { rT := lx, rM := [(p, .box s cs)], wT := some (d, c) } :=
  Step.calc (by simp) fun g w a mem hi hT hM => by
    have h := hx g w a hT
    generalize hu : a.eval x = u at h
    cases h with
    | ptr hs =>
      rename_i b
      obtain ⟨arr, tt, _, _, hr, _, hcell⟩ := box_cell hi (hM p (.box s cs) (by simp)) hs
      have hlt : off < arr.size := by rw [hr.1]; exact (List.getElem?_eq_some_iff.1 hc).1
      refine ⟨arr[off], ?_, hr.2 off _ _ (Array.getElem?_eq_getElem hlt) hc⟩
      simp [execOp, hu, Instr.loadAt, Instr.sureAddr, loadVar, run_single ht, hcell off _ (Array.getElem?_eq_getElem hlt)]
theorem s_loadA {t : TypeId} {x : Operand} {s off n : Nat} {cs l : List AV} {lx : List (Nat × AV)} (p : Nat) (ht : TyA P t n) (hx : Opd x (.ptr s off) lx) (hc : (cs.drop off).take n = l) (hn : l.length = n) :
    Step P ops ⟨some d, .load t x, ty, pos, aft, none⟩ { rT := lx, rM := [(p, .box s cs)], wT := some (d, .agg l) } :=
  Step.calc (by simp) fun g w a mem hi hT hM => by
    have h := hx g w a hT
    generalize hu : a.eval x = u at h
    cases h with
    | ptr hs =>
      rename_i b
      obtain ⟨arr, tt, _, _, hr, _, hcell⟩ := box_cell hi (hM p (.box s cs) (by simp)) hs
      have hlen : off + n ≤ cs.length ∨ n = 0 := by
        rw [← hc] at hn
        simp only [List.length_take, List.length_drop] at hn
        omega
      have hrun : (loadCells ⟨b, off, none⟩ n).run P w = .ok ((List.range n).map fun j => arr.getD (off + j) undef).toArray w :=
        run_cells (P := P) (fun j => arr.getD (off + j) undef) n fun j hj => by
          have hlt : off + j < arr.size := by rw [hr.1]; omega
          simp [hcell (off + j) _ (Array.getElem?_eq_getElem hlt), Array.getD_eq_getD_getElem?, hlt]
      refine ⟨_, by simp [execOp, hu, Instr.loadAt, Instr.sureAddr, loadVar, run_aggr ht, run_size ht.choose_spec.2.2, hrun]; rfl, .agg (by simp [hn]) fun i v x hv hx => ?_⟩
      rw [← hc, List.getElem?_take, List.getElem?_drop] at hx
      simp only [List.getElem?_toArray, List.getElem?_map] at hv
      split at hx
      · rename_i hin
        rw [List.getElem?_range hin] at hv
        have hlt : off + i < arr.size := by rw [hr.1]; omega
        simp only [Option.map_some, Array.getD_eq_getD_getElem?, Array.getElem?_eq_getElem hlt, Option.getD_some, Option.some.injEq] at hv
        exact hr.2 (off + i) v x (by rw [← hv]; exact Array.getElem?_eq_getElem hlt) hx
      · cases hx
theorem s_load1e {t : TypeId} {x : Operand} {off : Nat} {e c : AV} {lx : List (Nat × AV)} (ht : TyS P t) (hx : Opd x (.eptr e off) lx) (hc : e.cells[off]? = some c) :
    Step P ops ⟨some d, .load t x, ty, pos, aft, none⟩ { rT := lx, wT := some (d, c) } :=
  Step.calc (rM := []) (by simp) fun g w a mem hi hT hM => by
    have h := hx g w a hT
    generalize hu : a.eval x = u at h
    cases h with
    | eptr vals h1 h2 =>
      refine ⟨vals off, ?_, h2 off c hc⟩
      simp [execOp, hu, Instr.loadAt, Instr.sureAddr, loadVar, run_single ht, (h1 off c hc).1]
theorem s_loadAe {t : TypeId} {x : Operand} {off n : Nat} {e : AV} {l : List AV} {lx : List (Nat × AV)} (ht : TyA P t n) (hx : Opd x (.eptr e off) lx) (hc : (e.cells.drop off).take n = l) (hn : l.length = n) :
    Step P ops ⟨some d, .load t x, ty, pos, aft, none⟩ { rT := lx, wT := some (d, .agg l) } :=
  Step.calc (rM := []) (by simp) fun g w a mem hi hT hM => by
    have h := hx g w a hT
    generalize hu : a.eval x = u at h
    cases h with
    | eptr vals h1 h2 =>
      rename_i b o
      have hlen : off + n ≤ e.cells.length ∨ n = 0 := by
        rw [← hc] at hn
        simp only [List.length_take, List.length_drop] at hn
        omega
      have hrun : (loadCells ⟨b, o + off, none⟩ n).run P w = .ok ((List.range n).map fun j => vals (off + j)).toArray w :=
        run_cells (P := P) (fun j => vals (off + j)) n fun j hj => by
          have hlt : off + j < e.cells.length := by omega
          rw [Nat.add_assoc]
          exact (h1 (off + j) _ (List.getElem?_eq_getElem hlt)).1
      refine ⟨_, by simp [execOp, hu, Instr.loadAt, Instr.sureAddr, loadVar, run_aggr ht, run_size ht.choose_spec.2.2, hrun]; rfl, .agg (by simp [hn]) fun i v x hv hx => ?_⟩
      rw [← hc, List.getElem?_take, List.getElem?_drop] at hx
      simp only [List.getElem?_toArray, List.getElem?_map] at hv
      split at hx
      · rename_i hin
        rw [List.getElem?_range hin] at hv
        simp only [Option.map_some, Option.some.injEq] at hv
        subst hv
        exact h2 (off + i) x hx
      · cases hx

/-! ### Writing -/
theorem setRow_old (w : World) (b : Nat) (cs : Array Value) {k : Nat} (h : k ≠ b) : (w.setRow b cs).heap[k]? = w.heap[k]? := setRow_other w b k cs h
theorem s_store {t : TypeId} {x y : Operand} {s off n : Nat} {cs : List AV} {v : AV} {lx ly : List (Nat × AV)} (p : Nat) (ht : SzT P t n) (hx : Opd x (.ptr s off) lx) (hy : Opd y v ly)
    (hv : v.solid = true) (h1 : v.cells.all AV.one = true) (hl : v.cells.length = n) (hn : off + v.cells.length ≤ cs.length) :
    Step P ops ⟨none, .store t x y, ty, pos, aft, none⟩ { rT := lx ++ ly, rM := [(p, .box s cs)], wM := some (p, .box s (putA cs off v.cells)) } :=
  Step.skip rfl rfl rfl (by simp) fun g w a mem hi hT hM hs hp => by
    have h := hx g w a hT.left
    have k := hy g w a hT.right
    generalize hu : a.eval x = u at h
    generalize hw : a.eval y = z at k
    cases h with
    | ptr hs =>
      rename_i b
      obtain ⟨arr, tt, hb, hbase, hr, himm, hcell⟩ := box_cell hi (hM p (.box s cs) (by simp)) hs
      have kc := rep_cells k hv
      have kone : ∀ c ∈ z.cells.toList, c.oneCell' = true := by
        intro c hc
        obtain ⟨i, hci⟩ := List.getElem?_of_mem hc
        rw [Array.getElem?_toList] at hci
        have hlt : i < v.cells.length := by rw [← kc.1]; exact (Array.getElem?_eq_some_iff.1 hci).1
        exact one_of (kc.2 i c _ hci (List.getElem?_eq_getElem hlt)) (List.all_eq_true.1 h1 _ (List.getElem_mem hlt))
      have hst := run_storeCells_at P b off tt z.cells.toList 0 arr w hb (by have e1 := kc.1; have e2 := hr.1; simp only [Array.length_toList]; omega) kone
      simp only [Nat.add_zero] at hst
      let arr' := (arr.toList.take off ++ z.cells.toList ++ arr.toList.drop (off + z.cells.toList.length)).toArray
      have hrun : (storeVar t ⟨b, off, none⟩ z).run P w = .ok () (w.setRow b arr') := by
        have hsz : z.cells.size = n := by rw [kc.1, hl]
        simp only [storeVar, Sem.run_bind, run_size ht, Result.andThen_ok, hsz, ne_eq, not_true_eq_false, if_false]
        exact hst
      have hstab : Ext g w g (w.setRow b arr') :=
        ⟨rfl, ⟨rfl, rfl, rfl, by simp [World.setRow], fun k hk => setRow_old w b _ (by omega)⟩, fun c o hi => ⟨hi, by
          have hne : c ≠ b := fun e => by subst e; exact himm o hi
          simp only [World.cell?, setRow_old w b _ hne]⟩, fun _ _ _ => rfl, fun s hs => by cases hs⟩
      refine ⟨w.setRow b arr', g, ?_, hstab, ?_⟩
      · simp [execOp, hu, hw, Instr.storeAt, Instr.sureAddr, hrun]
      · refine hi.set hstab p _ ?_ ?_ (fun c o ho => by simpa [World.setRow] using hi.lt c o ho) hi.room
        · intro i e c hie hne hec
          have hne' : c ≠ b := by
            intro e'
            subst e'
            exact hne (hi.apart i p e (.box s cs) c hie (hM p (.box s cs) (by simp)) hec (by simp [Ent.block, hs, symBlock]))
          refine ⟨setRow_old w b _ hne', fun _ h => h, ?_⟩
          simp only [Ent.block, hs, symBlock]
          intro e'
          injection e' with e'
          exact hne' e'.symm
        · have := rep_put (hr.stab hstab) (kc.stab hstab) hn
          exact ⟨b, arr', tt, hs, hbase, setRow_heap w b arr _ tt _ hb, this.1, this.2, himm⟩

/-! ### Addresses -/
theorem add_addr (b o n : Nat) : (⟨b, o, none⟩ : Addr).add n = ⟨b, o + n, none⟩ := by unfold Addr.add; split <;> simp_all
theorem run_field {t : TypeId} {i off : Nat} (h : Fld P t i off) (w : World) (b o : Nat) : (Instr.fieldAt t (.pointer (some ⟨b, o, none⟩)) i).run P w = .ok (.pointer (some ⟨b, o + off, none⟩)) w := by
  obtain ⟨fields, f, k, h1, h2, h3, h4, h5⟩ := h
  simp [Instr.fieldAt, run_underlying h1, h2, Instr.sureAddr, fieldPlace, run_size h4, h5, add_addr, h3]
theorem s_fieldAddr {t : TypeId} {x : Operand} {i o s off : Nat} {lx : List (Nat × AV)} (hf : Fld P t i o) (hx : Opd x (.ptr s off) lx) : Step P ops ⟨some d, .fieldAddr t x i, ty, pos, aft, none⟩ { rT := lx, wT := some (d, .ptr s (off + o)) } :=
  Step.calc (rM := []) (by simp) fun g w a mem hi hT hM => by
    have h := hx g w a hT
    generalize hu : a.eval x = u at h
    cases h with
    | ptr hs => exact ⟨_, by simp [execOp, hu, run_field hf], .ptr hs⟩
theorem s_fieldAddre {t : TypeId} {x : Operand} {i o off : Nat} {e : AV} {lx : List (Nat × AV)} (hf : Fld P t i o) (hx : Opd x (.eptr e off) lx) : Step P ops ⟨some d, .fieldAddr t x i, ty, pos, aft, none⟩ { rT := lx, wT := some (d, .eptr e (off + o)) } :=
  Step.calc (rM := []) (by simp) fun g w a mem hi hT hM => by
    have h := hx g w a hT
    generalize hu : a.eval x = u at h
    cases h with
    | eptr vals h1 h2 =>
      refine ⟨_, by simp [execOp, hu, run_field hf]; rfl, ?_⟩
      rw [Nat.add_assoc]
      exact .eptr vals h1 h2
theorem s_nilCheck {x : Operand} {v : AV} {lx : List (Nat × AV)} (hx : Opd x v lx) (hv : (match v with | .ptr _ _ | .eptr _ _ | .func _ _ _ => true | _ => false) = true) : Step P ops ⟨some d, .nilCheck x, ty, pos, aft, none⟩ { rT := lx, wT := some (d, v) } :=
  Step.calc (rM := []) (by simp) fun g w a mem hi hT hM => by
    have h := hx g w a hT
    refine ⟨a.eval x, ?_, h⟩
    generalize hu : a.eval x = u at h
    cases h <;> simp at hv <;> simp [execOp, hu]

theorem s_indexAddr {t e : TypeId} {x y : Operand} {n : Nat} {es : List AV} {own : Option Nat} {k : IntKind} {i : Int} {v : AV} {lx ly : List (Nat × AV)} (ht : SliceT P t e n) (hx : Opd x (.slice es own) lx) (hy : Opd y (.int k i) ly)
    (h0 : 0 ≤ i) (hi : es[i.toNat]? = some v) (hn : v.cells.length = n) : Step P ops ⟨some d, .indexAddr t x y, ty, pos, aft, none⟩ { rT := lx ++ ly, wT := some (d, .eptr v 0) } :=
  Step.calc (rM := []) (by simp) fun g w a mem _ hT hM => by
    have h := hx g w a hT.left
    have hyi := int_of (hy g w a hT.right)
    generalize hu : a.eval x = u at h
    cases h with
    | slice b o vals hl hA hsz hc hr hle how =>
      rename_i A len cap sz
      have hlt : i.toNat < es.length := (List.getElem?_eq_some_iff.1 hi).1
      have hAe := hA (fun e => by rw [e] at hlt; simp at hlt)
      subst hAe
      have hszn : sz = n := by rw [← hn]; exact (hsz v (List.mem_of_getElem? hi)).symm
      subst hszn
      refine ⟨.pointer (some ⟨b, o + i.toNat * sz + 0, none⟩), ?_, .eptr (fun j => vals i.toNat j) (fun j c hj => ?_) (fun j c hj => hr i.toNat v j c hi hj)⟩
      · have hb : 0 ≤ i ∧ i < (len : Int) := ⟨h0, by omega⟩
        simp [execOp, hu, hyi, Instr.indexAt, asIntOf, run_underlying ht.1, run_size ht.2, hb, add_addr]
      · have := hc i.toNat v j c hi hj
        rw [Nat.add_assoc]
        exact this
theorem s_indexAddrA {t e : TypeId} {x y : Operand} {n len s off : Nat} {k : IntKind} {i : Int} {lx ly : List (Nat × AV)} (ht : ArrT P t len e n) (hx : Opd x (.ptr s off) lx) (hy : Opd y (.int k i) ly)
    (h0 : 0 ≤ i) (hi : i < len) : Step P ops ⟨some d, .indexAddr t x y, ty, pos, aft, none⟩ { rT := lx ++ ly, wT := some (d, .ptr s (off + i.toNat * n)) } :=
  Step.calc (rM := []) (by simp) fun g w a mem _ hT hM => by
    have h := hx g w a hT.left
    have hyi := int_of (hy g w a hT.right)
    generalize hu : a.eval x = u at h
    cases h with
    | ptr hs =>
      refine ⟨_, ?_, .ptr hs⟩
      simp [execOp, hu, hyi, Instr.indexAt, Instr.sureAddr, asIntOf, run_underlying ht.1, run_size ht.2, h0, hi, add_addr]
theorem s_indexAddrAe {t e : TypeId} {x y : Operand} {n len off : Nat} {v : AV} {k : IntKind} {i : Int} {lx ly : List (Nat × AV)} (ht : ArrT P t len e n) (hx : Opd x (.eptr v off) lx) (hy : Opd y (.int k i) ly)
    (h0 : 0 ≤ i) (hi : i < len) : Step P ops ⟨some d, .indexAddr t x y, ty, pos, aft, none⟩ { rT := lx ++ ly, wT := some (d, .eptr v (off + i.toNat * n)) } :=
  Step.calc (rM := []) (by simp) fun g w a mem _ hT hM => by
    have h := hx g w a hT.left
    have hyi := int_of (hy g w a hT.right)
    generalize hu : a.eval x = u at h
    cases h with
    | eptr vals h1 h2 =>
      rename_i b o
      refine ⟨.pointer (some ⟨b, o + (off + i.toNat * n), none⟩), ?_, .eptr vals h1 h2⟩
      simp [execOp, hu, hyi, Instr.indexAt, Instr.sureAddr, asIntOf, run_underlying ht.1, run_size ht.2, h0, hi, add_addr, Nat.add_assoc]

/-! ### Parts of data by value -/
theorem run_part1 {t : TypeId} (ht : TyS P t) {cs : Array Value} {off : Nat} {v : Value} (h : cs[off]? = some v) (w : World) : (part t cs off).run P w = .ok v w := by
  simp [part, run_single ht, h]
theorem s_index1 {t e : TypeId} {x y : Operand} {n len : Nat} {cs : List AV} {k : IntKind} {i : Int} {c : AV} {lx ly : List (Nat × AV)} (ht : ArrT P t len e n) (he : TyS P e) (hx : Opd x (.agg cs) lx) (hy : Opd y (.int k i) ly)
    (h0 : 0 ≤ i) (hi : i < len) (hc : cs[i.toNat * n]? = some c) : Step P ops ⟨some d, .index t x y, ty, pos, aft, none⟩ { rT := lx ++ ly, wT := some (d, c) } :=
  Step.calc (rM := []) (by simp) fun g w a mem _ hT hM => by
    have h := hx g w a hT.left
    have hyi := int_of (hy g w a hT.right)
    generalize hu : a.eval x = u at h
    cases h with
    | agg hs hr =>
      rename_i arr
      have hlt : i.toNat * n < arr.size := by rw [hs]; exact (List.getElem?_eq_some_iff.1 hc).1
      refine ⟨arr[i.toNat * n], ?_, hr _ _ _ (Array.getElem?_eq_getElem hlt) hc⟩
      simp [execOp, hu, hyi, Instr.index, asIntOf, run_underlying ht.1, run_size ht.2, h0, hi, run_part1 he (Array.getElem?_eq_getElem hlt)]
theorem run_partA {t : TypeId} {n : Nat} (ht : TyA P t n) {cs : Array Value} {off : Nat} (w : World) : (part t cs off).run P w = .ok (.agg (cs.extract off (off + n))) w := by
  simp [part, run_aggr ht, run_size ht.choose_spec.2.2]
theorem rep_extract {g : Gh} {w : World} {arr : Array Value} {cs l : List AV} {off n : Nat} (h : RepCells g w arr cs) (hc : (cs.drop off).take n = l) : Rep g w (.agg (arr.extract off (off + n))) (.agg l) := by
  have h1 := h.1
  refine .agg ?_ fun i v x hv hx => ?_
  · rw [← hc]; simp only [Array.size_extract, List.length_take, List.length_drop]; omega
  · rw [← hc, List.getElem?_take, List.getElem?_drop] at hx
    rw [Array.getElem?_extract] at hv
    split at hx
    · split at hv
      · exact h.2 (off + i) v x hv hx
      · cases hv
    · cases hx
theorem s_indexA {t e : TypeId} {x y : Operand} {n len : Nat} {cs l : List AV} {k : IntKind} {i : Int} {lx ly : List (Nat × AV)} (ht : ArrT P t len e n) (he : TyA P e n) (hx : Opd x (.agg cs) lx) (hy : Opd y (.int k i) ly)
    (h0 : 0 ≤ i) (hi : i < len) (hc : (cs.drop (i.toNat * n)).take n = l) : Step P ops ⟨some d, .index t x y, ty, pos, aft, none⟩ { rT := lx ++ ly, wT := some (d, .agg l) } :=
  Step.calc (rM := []) (by simp) fun g w a mem _ hT hM => by
    have h := hx g w a hT.left
    have hyi := int_of (hy g w a hT.right)
    generalize hu : a.eval x = u at h
    cases h with
    | agg hs hr =>
      rename_i arr
      refine ⟨_, ?_, rep_extract ⟨hs, hr⟩ hc⟩
      simp [execOp, hu, hyi, Instr.index, asIntOf, run_underlying ht.1, run_size ht.2, h0, hi, run_partA he]
def FldV (P : Program) (t : TypeId) (i off : Nat) (ft : TypeId) : Prop := ∃ fields f, P.underlying t = some (.struct fields) ∧ fields[i]? = some f ∧ f.offset = off ∧ f.type = ft
theorem s_field1 {t ft : TypeId} {x : Operand} {i off : Nat} {cs : List AV} {c : AV} {lx : List (Nat × AV)} (hf : FldV P t i off ft) (he : TyS P ft) (hx : Opd x (.agg cs) lx) (hc : cs[off]? = some c) :
    Step P ops ⟨some d, .field t x i, ty, pos, aft, none⟩ { rT := lx, wT := some (d, c) } :=
  Step.calc (rM := []) (by simp) fun g w a mem _ hT hM => by
    have h := hx g w a hT
    generalize hu : a.eval x = u at h
    obtain ⟨fields, f, h1, h2, h3, h4⟩ := hf
    subst h3; subst h4
    cases h with
    | agg hs hr =>
      rename_i arr
      have hlt : f.offset < arr.size := by rw [hs]; exact (List.getElem?_eq_some_iff.1 hc).1
      refine ⟨arr[f.offset], ?_, hr _ _ _ (Array.getElem?_eq_getElem hlt) hc⟩
      simp [execOp, hu, Instr.field, run_underlying h1, h2, asAgg, run_part1 he (Array.getElem?_eq_getElem hlt)]

/-! ### Lengths, least and greatest -/
theorem s_len {x : Operand} {t e : TypeId} {n : Nat} {es : List AV} {own : Option Nat} {lx : List (Nat × AV)} (ht : SliceT P t e n) (hx : Opd x (.slice es own) lx) :
    Step P ops ⟨some d, .call { callee := .builtin .len, args := #[x], argTypes := #[t] }, ty, pos, aft, none⟩ { rT := lx, wT := some (d, .int .i64 es.length) } :=
  Step.calc (rM := []) (by simp) fun g w a mem _ hT hM => by
    have h := hx g w a hT
    generalize hu : a.eval x = u at h
    cases h with
    | slice b o vals hl hA hsz hc hr hle how =>
      refine ⟨.int .i64 es.length, ?_, .int _ _⟩
      simp [execOp, resolve, invoke, builtin, hu, Builtin.len_, run_underlying ht.1, goInt, hl]
theorem s_lenN {x : Operand} {t e : TypeId} {n : Nat} {lx : List (Nat × AV)} (ht : SliceT P t e n) (hx : Opd x .nils lx) :
    Step P ops ⟨some d, .call { callee := .builtin .len, args := #[x], argTypes := #[t] }, ty, pos, aft, none⟩ { rT := lx, wT := some (d, .int .i64 0) } :=
  Step.calc (rM := []) (by simp) fun g w a mem _ hT hM => by
    have h := hx g w a hT
    generalize hu : a.eval x = u at h
    cases h with
    | nils =>
      refine ⟨.int .i64 0, ?_, .int _ _⟩
      simp [execOp, resolve, invoke, builtin, hu, Builtin.len_, run_underlying ht.1, goInt]
theorem s_lenS {x : Operand} {t : TypeId} {s : ByteArray} {lx : List (Nat × AV)} (ht : P.underlying t = some .string) (hx : Opd x (.str s) lx) :
    Step P ops ⟨some d, .call { callee := .builtin .len, args := #[x], argTypes := #[t] }, ty, pos, aft, none⟩ { rT := lx, wT := some (d, .int .i64 s.size) } :=
  Step.calc (rM := []) (by simp) fun g w a mem _ hT hM => by
    refine ⟨.int .i64 s.size, ?_, .int _ _⟩
    simp [execOp, resolve, invoke, builtin, str_of (hx g w a hT), Builtin.len_, run_underlying ht, goInt]

def maxL : Int → List Int → Int
  | x, [] => x
  | x, y :: r => maxL (if y > x then y else x) r
def minL : Int → List Int → Int
  | x, [] => x
  | x, y :: r => minL (if y < x then y else x) r
theorem run_maxL (w : World) (k : IntKind) : ∀ (l : List Int) (x : Int), ((l.map (Value.int k)).foldlM Builtin.max2 (Value.int k x)).run P w = .ok (.int k (maxL x l)) w
  | [], x => rfl
  | y :: r, x => by simp [List.foldlM, Builtin.max2, run_maxL w k r, maxL]
theorem run_minL (w : World) (k : IntKind) : ∀ (l : List Int) (x : Int), ((l.map (Value.int k)).foldlM Builtin.min2 (Value.int k x)).run P w = .ok (.int k (minL x l)) w
  | [], x => rfl
  | y :: r, x => by simp [List.foldlM, Builtin.min2, run_minL w k r, minL]
theorem repAll_ints {g : Gh} {w : World} {k : IntKind} : ∀ {vs : Array Value} {l : List Int}, RepAll g w vs (l.map (AV.int k)) → vs = (l.map (Value.int k)).toArray := by
  intro vs l h
  have h1 := h.1
  simp only [List.length_map] at h1
  apply Array.ext'
  apply List.ext_getElem?
  intro i
  simp only [Array.getElem?_toList, List.getElem?_map]
  by_cases hi : i < l.length
  · have e1 : vs[i]? = some (vs[i]'(by omega)) := Array.getElem?_eq_getElem _
    rw [e1, List.getElem?_eq_getElem hi]
    exact congrArg some (int_of (h.2 i _ _ e1 (by rw [List.getElem?_map, List.getElem?_eq_getElem hi]; rfl)))
  · rw [Array.getElem?_eq_none (by omega), List.getElem?_eq_none (by omega)]
    rfl
theorem s_max {os : List Operand} {k : IntKind} {x : Int} {l : List Int} {ts : Array TypeId} {lx : List (Nat × AV)} (h : Opds os ((x :: l).map (AV.int k)) lx) :
    Step P ops ⟨some d, .call { callee := .builtin .max, args := os.toArray, argTypes := ts }, ty, pos, aft, none⟩ { rT := lx, wT := some (d, .int k (maxL x l)) } :=
  Step.calc (rM := []) (by simp) fun g w a mem _ hT hM => by
    have e := repAll_ints (h.rep hT)
    refine ⟨.int k (maxL x l), ?_, .int _ _⟩
    have := run_maxL (P := P) w k l x
    simp [execOp, resolve, invoke, builtin, e, Builtin.max_, this]
theorem s_min {os : List Operand} {k : IntKind} {x : Int} {l : List Int} {ts : Array TypeId} {lx : List (Nat × AV)} (h : Opds os ((x :: l).map (AV.int k)) lx) :
    Step P ops ⟨some d, .call { callee := .builtin .min, args := os.toArray, argTypes := ts }, ty, pos, aft, none⟩ { rT := lx, wT := some (d, .int k (minL x l)) } :=
  Step.calc (rM := []) (by simp) fun g w a mem _ hT hM => by
    have e := repAll_ints (h.rep hT)
    refine ⟨.int k (minL x l), ?_, .int _ _⟩
    have := run_minL (P := P) w k l x
    simp [execOp, resolve, invoke, builtin, e, Builtin.min_, this]
end

end Go.Proofs.Ytjhecgiipajdpaa
