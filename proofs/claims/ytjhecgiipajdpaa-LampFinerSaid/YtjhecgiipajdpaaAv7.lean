/- Data that are built, slices cut and appended to: what the operations do to an abstract state. -/
import Derived.Test.YtjhecgiipajdpaaAv6
set_option linter.unusedVariables false
set_option linter.unusedSimpArgs false
namespace Go.Proofs.Ytjhecgiipajdpaa
open Go.RowKit

/-! ### build -/
theorem fold_set (off : Nat) : ∀ (l : List Value) (k : Nat) (cs : Array Value), off + k + l.length ≤ cs.size →
    (l.zipIdx k).foldl (fun cs x => cs.setIfInBounds (off + x.2) x.1) cs = (cs.toList.take (off + k) ++ l ++ cs.toList.drop (off + k + l.length)).toArray
  | [], k, cs, _ => by simp
  | v :: r, k, cs, h => by
    simp only [List.length_cons] at h
    simp only [List.zipIdx_cons, List.foldl_cons]
    rw [fold_set off r (k + 1) _ (by simp; omega)]
    apply Array.ext'
    simp only [Array.toList_setIfInBounds]
    have := list_seg_step cs.toList (off + k) v r (by simp; omega)
    simpa [Nat.add_assoc] using this

def fillA (place : Nat → Option (Nat × Nat)) : List AV → List (Nat × AV) → Option (List AV)
  | cs, [] => some cs
  | cs, (i, v) :: r =>
    match place i with
    | none => none
    | some (off, size) => if Nat.beq v.cells.length size && Nat.ble (off + v.cells.length) cs.length then fillA place (putA cs off v.cells) r else none

/-- The parts, each with its place. -/
inductive Parts : List (Nat × Operand) → List (Nat × AV) → List (Nat × AV) → Prop
  | nil : Parts [] [] []
  | cons {i : Nat} {o : Operand} {v : AV} {l : List (Nat × AV)} {os : List (Nat × Operand)} {vs ls : List (Nat × AV)} (hs : v.solid = true) (h : Opd o v l) (r : Parts os vs ls) : Parts ((i, o) :: os) ((i, v) :: vs) (l ++ ls)

theorem Parts.fill {g : Gh} {w : World} {a : Act} {place : Nat → Option (Nat × Nat)} {os : List (Nat × Operand)} {vs ls : List (Nat × AV)} (h : Parts os vs ls) :
    HasT g w a ls → ∀ (arr : Array Value) (cs l : List AV), RepCells g w arr cs → fillA place cs vs = some l →
      ∃ arr', Instr.fill place arr (os.map fun x => (x.1, a.eval x.2)) = some arr' ∧ RepCells g w arr' l := by
  induction h with
  | nil => intro _ arr cs l hr hf; simp only [fillA, Option.some.injEq] at hf; subst hf; exact ⟨arr, rfl, hr⟩
  | cons hs h r ih =>
    rename_i i o v lx os vs ls
    intro hT arr cs l hr hf
    simp only [fillA] at hf
    cases hp : place i with
    | none => rw [hp] at hf; cases hf
    | some os' =>
      obtain ⟨off, size⟩ := os'
      rw [hp] at hf
      simp only at hf
      split at hf
      · rename_i hc
        simp only [Bool.and_eq_true, Nat.ble_eq] at hc
        have hv := rep_cells (h g w a hT.left) hs
        have hput := rep_put hr hv hc.2
        obtain ⟨arr', h1, h2⟩ := ih hT.right _ _ l hput hf
        refine ⟨arr', ?_, h2⟩
        have e1 : (a.eval o).cells.size = size := by rw [hv.1]; exact Nat.eq_of_beq_eq_true hc.1
        have e2 : off + (a.eval o).cells.size ≤ arr.size := by rw [hv.1, hr.1]; exact hc.2
        simp only [List.map_cons, Instr.fill, hp]
        rw [if_neg (by simp [e1]; omega)]
        have := fold_set off (a.eval o).cells.toList 0 arr (by simpa using e2)
        simp only [Nat.add_zero] at this
        rw [← h1]
        congr 1
        rw [← this, ← Array.foldl_toList]
        simp [Array.toList_zipIdx]
      · cases hf

section
variable {P : Program} {ops : Array Oper} {ty : TypeId} {pos : String} {aft : Array Edge} {d : Nat}

theorem s_build {t : TypeId} {z : Value} {pl : List (Nat × Nat)} {os : List (Nat × Operand)} {vs lx : List (Nat × AV)} {l : List AV} (hz : Zero P t z) (hp : Places P t pl) (h : Parts os vs lx) (hl : fillA (fun i => pl[i]?) (zeroA z) vs = some l) :
    Step P ops ⟨some d, .build t os.toArray, ty, pos, aft, none⟩ { rT := lx, wT := some (d, .agg l) } :=
  Step.calc (rM := []) (by simp) fun g w a mem _ hT hM => by
    obtain ⟨arr, h1, h2⟩ := h.fill hT z.cells (zeroA z) l (rep_zeroA g w z) hl
    obtain ⟨fields, hu, hrun⟩ := hp
    refine ⟨.agg arr, ?_, .agg h2.1 h2.2⟩
    have hfun : (fun i : Nat => (pl.toArray)[i]?) = fun i : Nat => pl[i]? := by funext i; simp
    have h1' : Instr.fill (fun i : Nat => (pl.toArray)[i]?) z.cells (os.map fun x => (x.1, a.eval x.2)) = some arr := by rw [hfun]; exact h1
    have hmap : (os.toArray.map fun (i, x) => (i, a.eval x)).toList = os.map fun x => (x.1, a.eval x.2) := by simp
    simp only [execOp, Instr.build, Sem.run_bind, run_zero hz, Result.andThen_ok, run_underlying hu, hrun w, hmap, h1', Sem.run_pure]
theorem s_buildArr {t e : TypeId} {n len : Nat} {z : Value} {os : List (Nat × Operand)} {vs lx : List (Nat × AV)} {l : List AV} (hz : Zero P t z) (hp : ArrT P t len e n) (h : Parts os vs lx) (hl : fillA (fun i => some (i * n, n)) (zeroA z) vs = some l) :
    Step P ops ⟨some d, .build t os.toArray, ty, pos, aft, none⟩ { rT := lx, wT := some (d, .agg l) } :=
  Step.calc (rM := []) (by simp) fun g w a mem _ hT hM => by
    obtain ⟨arr, h1, h2⟩ := h.fill hT z.cells (zeroA z) l (rep_zeroA g w z) hl
    refine ⟨.agg arr, ?_, .agg h2.1 h2.2⟩
    have hmap : (os.toArray.map fun (i, x) => (i, a.eval x)).toList = os.map fun x => (x.1, a.eval x.2) := by simp
    simp only [execOp, Instr.build, Sem.run_bind, run_zero hz, Result.andThen_ok, run_underlying hp.1, run_size hp.2, hmap, h1, Sem.run_pure]

/-! ### Slices made and cut -/
theorem rep_top (g : Gh) (w : World) (arr : Array Value) : RepCells g w arr (List.replicate arr.size .top) :=
  ⟨by simp, fun i v a h1 h2 => by
    rw [List.getElem?_replicate] at h2
    split at h2
    · injection h2 with h2; subst h2; exact .top v
    · cases h2⟩
theorem flat_at {n : Nat} : ∀ {es : List AV}, (∀ e ∈ es, e.cells.length = n) → ∀ (i : Nat) e j c, es[i]? = some e → e.cells[j]? = some c → (es.flatMap AV.cells)[i * n + j]? = some c
  | [], _, i, e, j, c, h, _ => by simp at h
  | x :: r, hs, i, e, j, c, h, hc => by
    have hx := hs x List.mem_cons_self
    cases i with
    | zero =>
      simp only [List.getElem?_cons_zero, Option.some.injEq] at h
      subst h
      rw [List.flatMap_cons, Nat.zero_mul, Nat.zero_add, List.getElem?_append_left (List.getElem?_eq_some_iff.1 hc).1]
      exact hc
    | succ i =>
      simp only [List.getElem?_cons_succ] at h
      rw [List.flatMap_cons, List.getElem?_append_right (by rw [hx, Nat.succ_mul]; omega), hx, Nat.succ_mul, show i * n + n + j - n = i * n + j from by omega]
      exact flat_at (fun e he => hs e (List.mem_cons_of_mem _ he)) i e j c h hc
theorem flat_length {n : Nat} {es : List AV} (h : ∀ e ∈ es, e.cells.length = n) : (es.flatMap AV.cells).length = es.length * n := by
  induction es with
  | nil => simp
  | cons x r ih =>
    rw [List.flatMap_cons, List.length_append, h x List.mem_cons_self, ih (fun e he => h e (List.mem_cons_of_mem _ he)), List.length_cons, Nat.succ_mul]
    omega
/-- A slice over a block whose cells are for ever. -/
theorem rep_row {g : Gh} {w : World} {b n : Nat} {arr : Array Value} {tt : TypeId} {fr : Nat × Nat} {es : List AV} {cap : Nat} {own : Option Nat} (hb : w.heap[b]? = some (.cells arr tt fr)) (hs : ∀ e ∈ es, e.cells.length = n)
    (hr : ∀ (i : Nat) v a, arr[i]? = some v → (es.flatMap AV.cells)[i]? = some a → Rep g w v a) (hlen : (es.flatMap AV.cells).length ≤ arr.size) (him : ∀ o, o < (es.flatMap AV.cells).length → g.imm b o) (hle : es.length ≤ cap)
    (how : ∀ s, own = some s → g.sy s = .val (.slice (some ⟨b, 0, none⟩) es.length cap)) : Rep g w (.slice (some ⟨b, 0, none⟩) es.length cap) (.slice es own) := by
  refine .slice b 0 (fun i j => arr.getD (i * n + j) undef) rfl (fun _ => rfl) hs (fun i e j c hi hj => ?_) (fun i e j c hi hj => ?_) hle how
  · have hf := flat_at hs i e j c hi hj
    have hlt := (List.getElem?_eq_some_iff.1 hf).1
    have hlt' : i * n + j < arr.size := by omega
    refine ⟨?_, by rw [Nat.zero_add]; exact him _ hlt⟩
    simp [World.cell?, hb, Array.getD_eq_getD_getElem?, hlt']
  · have hf := flat_at hs i e j c hi hj
    have hlt := (List.getElem?_eq_some_iff.1 hf).1
    have hlt' : i * n + j < arr.size := by omega
    refine hr (i * n + j) _ c ?_ hf
    simp [Array.getD_eq_getD_getElem?, hlt']

theorem s_buildSlice {t e : TypeId} {n len : Nat} {z : Value} {os : List (Nat × Operand)} {vs lx : List (Nat × AV)} {es : List AV} (hz : Zero P e z) (ht : SliceT P t e n) (hn : Nat.ble (len * n) 1000 = true) (hl : es.length = len) (h : Parts os vs lx)
    (hf : fillA (fun i => some (i * n, n)) (List.replicate (len * n) .top) vs = some (es.flatMap AV.cells)) (hs : ∀ e ∈ es, e.cells.length = n) :
    Step P ops ⟨some d, .buildSlice t len os.toArray, ty, pos, aft, none⟩ { rT := lx, wT := some (d, .slice es none) } :=
  Step.value rfl rfl (by simp) fun g w a mem hi hT hM _ hp => by
    have hn' := Nat.le_of_ble_eq_true hn
    let zero : Array Value := if len * n = 0 then #[] else z.cells
    let arr0 : Array Value := (Array.range (len * n)).map (zero[· % zero.size]!)
    have h0 : RepCells g w arr0 (List.replicate (len * n) .top) := by
      have := rep_top g w arr0
      simpa [arr0] using this
    obtain ⟨arr, h1, h2⟩ := h.fill hT arr0 _ _ h0 hf
    obtain ⟨hst, hinv⟩ := hi.newImm (.cells arr e)
    have hmap : (os.toArray.map fun (i, x) => (i, a.eval x)).toList = os.map fun x => (x.1, a.eval x.2) := by simp
    have hrun : (execOp a.eval ⟨some d, .buildSlice t len os.toArray, ty, pos, aft, none⟩).run P w = .ok (.value (.slice (some ⟨w.heap.size, 0, none⟩) len len)) (w.alloc (.cells arr e)) := by
      have hbig : ¬ (16777216 < len * n) := by omega
      by_cases hzz : len * n = 0
      · have hz' : zero = #[] := by simp [zero, hzz]
        simp only [arr0, hz'] at h1
        simp [execOp, Instr.buildSlice, run_underlying ht.1, run_size ht.2, hbig, hzz, newRow] at h1 ⊢
        rw [h1]
        simp
      · have hz' : zero = z.cells := by simp [zero, hzz]
        simp only [arr0, hz'] at h1
        simp [execOp, Instr.buildSlice, run_underlying ht.1, run_size ht.2, hbig, hzz, run_zero hz, newRow] at h1 ⊢
        rw [h1]
        simp
    refine ⟨_, _, _, hrun, hst, hinv, fun d' v' e' => ?_⟩
    injection e' with e'
    injection e' with _ e'
    subst e'
    have hst2 := h2.stab hst
    rw [← hl]
    exact rep_row (alloc_new w _) hs hst2.2 (by rw [h2.1]; exact Nat.le_refl _) (fun o _ => .inr rfl) (Nat.le_refl _) (fun s hs => by cases hs)

theorem bound_ok {k : IntKind} {i : Int} {y : Nat} {c : BoundsCode} (w : World) (h0 : 0 ≤ i) (h1 : i ≤ y) : (Instr.sliceBound (.int k i) y c).run P w = .ok i.toNat w := by
  simp [Instr.sliceBound, asIntOf, h0, h1]
theorem rep_cut {g : Gh} {w : World} {A : Option Addr} {len cap n l h : Nat} {es : List AV} {own : Option Nat} (hr : Rep g w (.slice A len cap) (.slice es own)) (hs : ∀ e ∈ es, e.cells.length = n) (hl : l ≤ h) (hh : h ≤ es.length) :
    Rep g w (.slice (if cap = l then A else A.map (·.add (l * n))) (h - l) (cap - l)) (.slice ((es.take h).drop l) none) := by
  cases hr with
  | slice b o vals hlen hA hsz hc hr hle how =>
    rename_i sz
    have hszn : es ≠ [] → sz = n := fun hne => by
      obtain ⟨e, he⟩ := List.exists_mem_of_ne_nil es hne
      rw [← hsz e he]; exact hs e he
    have at_ : ∀ (i : Nat) e, ((es.take h).drop l)[i]? = some e → es[l + i]? = some e ∧ l + i < h := by
      intro i e hi
      rw [List.getElem?_drop, List.getElem?_take] at hi
      split at hi
      · rename_i hlt; exact ⟨hi, hlt⟩
      · cases hi
    refine .slice (sz := n) b (o + l * n) (fun i j => vals (l + i) j) (by simp; omega) (fun hne => ?_) (fun e he => hs e (List.mem_of_mem_take (List.mem_of_mem_drop he))) (fun i e j c hi hj => ?_) (fun i e j c hi hj => hr (l + i) e j c (at_ i e hi).1 hj) (by omega) (fun s hs => by cases hs)
    · have hne' : es ≠ [] := fun e => hne (by rw [e]; simp)
      have hlh : l < h := by
        obtain ⟨e, he⟩ := List.exists_mem_of_ne_nil _ hne
        obtain ⟨i, hi⟩ := List.getElem?_of_mem he
        have := (at_ i e hi).2
        omega
      rw [if_neg (by omega), hA hne']
      simp [add_addr]
    · have h1 := at_ i e hi
      have hne' : es ≠ [] := fun e' => by rw [e'] at h1; simp at h1
      have hz := hszn hne'
      subst hz
      have := hc (l + i) e j c h1.1 hj
      rw [Nat.add_mul] at this
      rw [show o + l * sz + (i * sz + j) = o + (l * sz + i * sz + j) from by omega]
      exact this
/-- 'x[:h]' -/
theorem s_sliceTo {t e : TypeId} {x y : Operand} {n : Nat} {es : List AV} {own : Option Nat} {k : IntKind} {i : Int} {lx ly : List (Nat × AV)} (ht : SliceT P t e n) (hx : Opd x (.slice es own) lx) (hy : Opd y (.int k i) ly)
    (h0 : 0 ≤ i) (hi : i ≤ es.length) (hs : ∀ e ∈ es, e.cells.length = n) : Step P ops ⟨some d, .slice t x none (some y) none, ty, pos, aft, none⟩ { rT := lx ++ ly, wT := some (d, .slice (es.take i.toNat) none) } :=
  Step.calc (rM := []) (by simp) fun g w a mem _ hT hM => by
    have h := hx g w a hT.left
    have hyi := int_of (hy g w a hT.right)
    generalize hu : a.eval x = u at h
    have h' := h
    cases h with
    | slice b o vals hl hA hsz hc hr hle how =>
      rename_i A len cap sz
      have hr' := rep_cut h' hs (Nat.zero_le i.toNat) (by omega)
      refine ⟨_, ?_, by rw [List.drop_zero] at hr'; exact hr'⟩
      simp [execOp, hu, hyi, Instr.sliceAt, run_underlying ht.1, Instr.slice, Instr.sliceBounds, bound_ok (P := P) w h0 (show i ≤ (cap : Int) by omega), run_size ht.2]
/-- 'x[l:]' -/
theorem s_sliceFrom {t e : TypeId} {x y : Operand} {n : Nat} {es : List AV} {own : Option Nat} {k : IntKind} {i : Int} {lx ly : List (Nat × AV)} (ht : SliceT P t e n) (hx : Opd x (.slice es own) lx) (hy : Opd y (.int k i) ly)
    (h0 : 0 ≤ i) (hi : i ≤ es.length) (hs : ∀ e ∈ es, e.cells.length = n) : Step P ops ⟨some d, .slice t x (some y) none none, ty, pos, aft, none⟩ { rT := lx ++ ly, wT := some (d, .slice (es.drop i.toNat) none) } :=
  Step.calc (rM := []) (by simp) fun g w a mem _ hT hM => by
    have h := hx g w a hT.left
    have hyi := int_of (hy g w a hT.right)
    generalize hu : a.eval x = u at h
    have h' := h
    cases h with
    | slice b o vals hl hA hsz hc hr hle how =>
      rename_i A len cap sz
      have hr' := rep_cut h' hs (show i.toNat ≤ es.length by omega) (Nat.le_refl _)
      refine ⟨_, ?_, by rw [List.take_length] at hr'; exact hr'⟩
      simp [execOp, hu, hyi, Instr.sliceAt, run_underlying ht.1, Instr.slice, Instr.sliceBounds, bound_ok (P := P) w h0 (show i ≤ (len : Int) by omega), run_size ht.2, hl]

/-- A string's bytes. -/
def bytesA (s : ByteArray) : List AV := s.data.toList.map fun b => .int .u8 b.toNat
theorem s_bytes {s t e : TypeId} {x : Operand} {v : ByteArray} {lx : List (Nat × AV)} (h1 : P.underlying s = some .string) (h2 : P.underlying t = some (.slice e)) (h3 : P.underlying e = some (.int .u8)) (hx : Opd x (.str v) lx) :
    Step P ops ⟨some d, .convert s t x, ty, pos, aft, none⟩ { rT := lx, wT := some (d, .slice (bytesA v) none) } :=
  Step.value rfl rfl (by simp) fun g w a mem hi hT hM _ hp => by
    have hxv := str_of (hx g w a hT)
    let c := Question.cut (.appendCap v.size 0 e) (w.tape w.drawn (.appendCap v.size 0 e))
    have hge : v.size ≤ c := by simp only [c, Question.cut]; omega
    let arr : Array Value := (v.data.map fun b => Value.int .u8 b.toNat) ++ Array.replicate (c - v.size) (.int .u8 0)
    let w1 : World := { w with drawn := w.drawn + 1 }
    let w2 : World := w1.alloc (.cells arr e)
    let w3 : World := w2.freeze ⟨w.heap.size, arr.size, none⟩ 1
    have hrun : (execOp a.eval ⟨some d, .convert s t x, ty, pos, aft, none⟩).run P w = .ok (.value (.slice (some ⟨w.heap.size, 0, none⟩) v.size c)) w3 := by
      have hsh : w2.shape? w.heap.size = some (e, arr.size) := by
        have : w2.heap[w.heap.size]? = some (.cells arr e (0, 0)) := alloc_new w1 _
        simp [World.shape?, this]
      simp only [execOp, hxv, convert, Sem.run_bind, run_underlying h1, run_underlying h2, run_underlying h3, Result.andThen_ok, Conv.stringToBytes, run_choose, Question.forced, Bool.false_eq_true, if_false, newRow, run_newObj, Sem.run_pure, markStringish, run_shape]
      have e1 : ({ heap := w.heap.push (.cells arr e), tape := w.tape, drawn := w.drawn + 1, os := w.os, output := w.output } : World) = w2 := rfl
      change ((Sem.run P (match w2.shape? w.heap.size with | some (_, n) => freeze { block := w.heap.size, off := n } 1 | _ => pure ()) w2).andThen fun _ w' => Result.ok (Value.slice (some ⟨w.heap.size, 0, none⟩) v.size c) w').andThen (fun a w' => Result.ok (Next.value a) w') = _
      rw [hsh]
      rfl
    have hst0 : Ext g w g w1 := ⟨rfl, (Below.refl _ _).drew, fun _ _ h => ⟨h, rfl⟩, fun _ _ _ => rfl, fun s hs => by cases hs⟩
    have hinv0 : Inv g w1 mem := hi.keep hst0 (fun _ _ _ _ => rfl) (fun _ _ _ _ _ h => h) hi.lt hi.room
    obtain ⟨hst1, hinv1⟩ := hinv0.newImm (.cells arr e)
    have hold : ∀ b, b ≠ w.heap.size → w3.heap[b]? = w2.heap[b]? := by
      intro b hne
      simp only [w3, World.freeze, Nat.one_ne_zero, if_false, Array.getElem?_modify]
      rw [if_neg (Ne.symm hne)]
    have hnew : ∃ fr, w3.heap[w.heap.size]? = some (.cells arr e fr) := by
      have : w2.heap[w.heap.size]? = some (.cells arr e (0, 0)) := alloc_new w1 _
      refine ⟨(arr.size, arr.size + 1), ?_⟩
      simp only [w3, World.freeze, Nat.one_ne_zero, if_false, Array.getElem?_modify, if_true, this, Option.map_some]
      rfl
    obtain ⟨fr, hnew⟩ := hnew
    have hsz : w3.heap.size = w2.heap.size := by simp [w3, World.freeze]
    have hcell : ∀ a : Addr, w3.cell? a = w2.cell? a := by
      intro a
      by_cases hb : a.block = w.heap.size
      · have : w2.heap[w.heap.size]? = some (.cells arr e (0, 0)) := alloc_new w1 _
        simp only [World.cell?, hb, hnew, this]
      · simp only [World.cell?, hold _ hb]
    have hst2 : Ext (g.sealed w.heap.size) w2 (g.sealed w.heap.size) w3 := by
      refine ⟨rfl, ⟨rfl, rfl, rfl, by rw [hsz]; exact Nat.le_refl _, fun k hk => hold k ?_⟩, fun b o h => ⟨h, hcell _⟩, fun _ _ _ => rfl, fun s hs => by cases hs⟩
      have := hi.base
      have hk' : k < g.base := hk
      omega
    have hinv2 : Inv (g.sealed w.heap.size) w3 mem := hinv1.keep hst2 (fun e' b he hb => by
      have := ((hi.ok e' he).block_lt (b := b) ?_).2
      · exact hold b (by omega)
      · have := (hi.ok e' he).kept (hst0.trans hst1) (fun b' hb' => alloc_old w1 _ ((hi.ok e' he).block_lt hb').2) (fun b' o hb' hi' => by
          rcases hi' with h | h
          · exact h
          · have := ((hi.ok e' he).block_lt hb').2
            have h2 : b' = w.heap.size := h
            omega)
        rw [← this.2]; exact hb) (fun _ _ _ _ _ h => h) (fun b o h => by rw [hsz]; exact hinv1.lt b o h) hinv1.room
    refine ⟨_, _, _, hrun, (hst0.trans hst1).trans hst2, hinv2, fun d' v' e' => ?_⟩
    injection e' with e'
    injection e' with _ e'
    subst e'
    have hfl : (bytesA v).flatMap AV.cells = bytesA v := by
      have : ∀ l : List UInt8, (l.map fun b => AV.int .u8 b.toNat).flatMap AV.cells = l.map fun b => AV.int .u8 b.toNat := by
        intro l
        induction l with
        | nil => rfl
        | cons x r ih => rw [List.map_cons, List.flatMap_cons, ih]; rfl
      exact this _
    have hlen : (bytesA v).length = v.size := by
      simp only [bytesA, List.length_map, Array.length_toList]
      rfl
    rw [← hlen]
    refine rep_row (n := 1) hnew (fun e he => ?_) (fun i u x hu hx' => ?_) ?_ (fun o _ => .inr rfl) (by rw [hlen]; exact hge) (fun s hs => by cases hs)
    · simp only [bytesA, List.mem_map] at he
      obtain ⟨b, _, rfl⟩ := he
      rfl
    · rw [hfl] at hx'
      have hlt : i < v.data.size := by
        have := (List.getElem?_eq_some_iff.1 hx').1
        simpa [bytesA] using this
      simp only [arr] at hu
      rw [Array.getElem?_append_left (by simpa using hlt)] at hu
      simp only [bytesA, List.getElem?_map, Array.getElem?_toList] at hx'
      simp only [Array.getElem?_map] at hu
      cases hv : v.data[i]? with
      | none => rw [hv] at hu; cases hu
      | some b =>
        rw [hv] at hu hx'
        simp only [Option.map_some, Option.some.injEq] at hu hx'
        subst hu; subst hx'
        exact .int _ _
    · rw [hfl, hlen]
      simp only [arr, Array.size_append, Array.size_map]
      show v.data.size ≤ _
      omega
end

end Go.Proofs.Ytjhecgiipajdpaa
