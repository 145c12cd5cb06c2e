/- Strings by index, shifts, loops by turns, first appends. -/
import Derived.Test.YtjhecgiipajdpaaAv10
set_option linter.unusedVariables false
set_option linter.unusedSimpArgs false
namespace Go.Proofs.Ytjhecgiipajdpaa
open Go.RowKit

section
variable {P : Program} {ops : Array Oper} {ty : TypeId} {pos : String} {aft : Array Edge} {d : Nat}
theorem s_indexS {t : TypeId} {x y : Operand} {s : ByteArray} {k : IntKind} {i : Int} {lx ly : List (Nat × AV)} (ht : P.underlying t = some .string) (hx : Opd x (.str s) lx) (hy : Opd y (.int k i) ly)
    (h : 0 ≤ i ∧ i < s.size) : Step P ops ⟨some d, .index t x y, ty, pos, aft, none⟩ { rT := lx ++ ly, wT := some (d, U (s.data.toList.getD i.toNat 0)) } :=
  Step.calc (rM := []) (by simp) fun g w a mem _ hT hM => by
    have hxs := str_of (hx g w a hT.left)
    have hyi := int_of (hy g w a hT.right)
    have hlt : i.toNat < s.size := by omega
    have hlt' : i.toNat < s.data.size := hlt
    have hb : s[i.toNat]? = some (s.data.toList.getD i.toNat 0) := by
      rw [getElem?_pos s i.toNat hlt, List.getD_eq_getElem?_getD, Array.getElem?_toList, Array.getElem?_eq_getElem hlt']
      rfl
    refine ⟨_, ?_, .int .u8 _⟩
    simp only [execOp, hxs, hyi, Instr.index, asIntOf, Sem.run_bind, Sem.run_pure, Result.andThen_ok, run_underlying ht, h.1, if_true, hb]
theorem s_shr {xt yt : TypeId} {x y : Operand} {k ky : IntKind} {m : Int} {n : Nat} {lx ly : List (Nat × AV)} (hx : Opd x (.int k m) lx) (hy : Opd y (.int ky (n : Int)) ly) (hn : n ≤ k.bits) :
    Step P ops ⟨some d, .binOp .shr xt x y yt, ty, pos, aft, none⟩ { rT := lx ++ ly, wT := some (d, .int k (m / 2 ^ n)) } :=
  Step.calc (rM := []) (by simp) fun g w a mem hi hT hM => by
    have h1 := int_of (hx g w a hT.left)
    have h2 := int_of (hy g w a hT.right)
    refine ⟨.int k (m / 2 ^ n), ?_, .int k _⟩
    have he : (eqGuard .shr xt x y (.int k m) (.int ky (n : Int))).run P w = .ok () w := by unfold eqGuard; split <;> rfl
    have hm : min n k.bits = n := by omega
    have hd : m.fdiv (2 ^ n) = m / 2 ^ n := Int.fdiv_eq_ediv_of_nonneg _ (Int.le_of_lt (Int.pow_pos (by decide)))
    simp [execOp, h1, h2, he, binOp, Op.shift, hm, hd]
    intro h; omega

theorem s_buildSlice' {t e : TypeId} {n len : Nat} {z : Value} {os : List (Nat × Operand)} {vs lx : List (Nat × AV)} {es : List AV} (hz : Zero P e z) (ht : SliceT P t e n) (hn : Nat.ble (len * n) 1000 = true) (hl : es.length = len) (h : Parts os vs lx)
    (hf : fillA (fun i => some (i * n, n)) (List.replicate (len * n) .top) vs = some (es.flatMap AV.cells)) (hs : es.all (fun e => Nat.beq e.cells.length n) = true) :
    Step P ops ⟨some d, .buildSlice t len os.toArray, ty, pos, aft, none⟩ { rT := lx, wT := some (d, .slice es none) } :=
  s_buildSlice hz ht hn hl h hf fun e he => Nat.eq_of_beq_eq_true (List.all_eq_true.1 hs e he)

/-- A literal that is appended to later. -/
theorem s_buildSliceOwn {t e : TypeId} {n len : Nat} {z : Value} {os : List (Nat × Operand)} {vs lx : List (Nat × AV)} {es : List AV} (p s : Nat) (hz : Zero P e z) (hzc : z.cells.size = n) (ht : SliceT P t e n) (hn : Nat.ble (len * n) 1000 = true) (h0 : Nat.blt 0 (len * n) = true) (hl : es.length = len) (h : Parts os vs lx)
    (hf : fillA (fun i => some (i * n, n)) (List.replicate (len * n) .top) vs = some (es.flatMap AV.cells)) (hs : es.all (fun e => Nat.beq e.cells.length n) = true) :
    Step P ops ⟨some d, .buildSlice t len os.toArray, ty, pos, aft, none⟩ { rT := lx, wT := some (d, .slice es (some s)), wM := some (p, .row s len e n), sym := some s } :=
  Step.value rfl rfl (by simp) fun g w a mem hi hT hM hsy hp => by
    have hn' := Nat.le_of_ble_eq_true hn
    have hsz : ∀ e ∈ es, e.cells.length = n := fun e he => Nat.eq_of_beq_eq_true (List.all_eq_true.1 hs e he)
    have hsy := hsy s rfl
    have hpos : len * n ≠ 0 := by simp [Nat.blt_eq] at h0; omega
    have hn0 : 0 < n := Nat.pos_of_ne_zero (fun e => hpos (by rw [e, Nat.mul_zero]))
    let arr0 : Array Value := (Array.range (len * n)).map (z.cells[· % z.cells.size]!)
    have h0 : RepCells g w arr0 (List.replicate (len * n) .top) := by
      have := rep_top g w arr0
      simpa [arr0] using this
    obtain ⟨arr, h1, h2⟩ := h.fill hT arr0 _ _ h0 hf
    let v' : Value := .slice (some ⟨w.heap.size, 0, none⟩) len len
    let g' : Gh := { g.put s (.val v') with imm := fun b o => g.imm b o ∨ (b = w.heap.size ∧ o < len * n) }
    have hbig : ¬ (16777216 < len * n) := by omega
    have hmap : (os.toArray.map fun (i, x) => (i, a.eval x)).toList = os.map fun x => (x.1, a.eval x.2) := by simp
    have hrun : (execOp a.eval ⟨some d, .buildSlice t len os.toArray, ty, pos, aft, none⟩).run P w = .ok (.value v') (w.alloc (.cells arr e)) := by
      simp only [arr0] at h1
      simp [execOp, Instr.buildSlice, run_underlying ht.1, run_size ht.2, hbig, hpos, run_zero hz, newRow] at h1 ⊢
      rw [h1]
      simp [v']
    have hsy' : g'.sy s = .val v' := by show (if s = s then _ else _) = _; rw [if_pos rfl]
    have hstab : Stab (some s) g w g' (w.alloc (.cells arr e)) := by
      refine ⟨rfl, (Below.refl _ _).alloc hi.base _, fun b o ho => ⟨.inl ho, by simp only [World.cell?, alloc_old w _ (hi.lt b o ho)]⟩, fun t ht' hf' => ?_, fun t ht' => by injection ht' with ht'; subst ht'; exact hsy⟩
      show (if t = s then _ else g.sy t) = g.sy t
      rw [if_neg (fun e => ht' (by rw [e]))]
    have hflat : (es.flatMap AV.cells).length = len * n := by rw [flat_length hsz, hl]
    have hasz : arr.size = len * n := by rw [h2.1, hflat]
    have hml : len ≤ maxLen := by
      have : len ≤ len * n := Nat.le_mul_of_pos_right _ hn0
      simp only [maxLen]; omega
    refine ⟨v', w.alloc (.cells arr e), g', hrun, hstab, ?_, fun d' u e' => ?_⟩
    · refine hi.set hstab p _ ?_ ?_ (fun b o ho => by
        rcases ho with ho | ho
        · have := hi.lt b o ho; simp; omega
        · simp; omega) (put_room hi.room)
      · intro k ek b hk hne hbk
        have hlt := (hi.ok ek (List.mem_of_getElem? hk)).block_lt hbk
        refine ⟨alloc_old w _ hlt.2, fun o ho => ?_, ?_⟩
        · rcases ho with ho | ho
          · exact ho
          · omega
        · simp only [Ent.block, hsy', symBlock, v', Value.ownBlock]
          intro e'
          injection e' with e'
          omega
      · refine ⟨v', arr.toList, hsy', ⟨by simp [hasz], .inr ⟨w.heap.size, len, arr, rfl, hi.base, alloc_new w _, Nat.le_refl _, hml, hasz, by rw [List.take_of_length_le (by simp [hasz])]⟩⟩, fun b o hb ho him => ?_⟩
        simp only [v', Value.ownBlock, Option.some.injEq] at hb
        subst hb
        rcases him with him | him
        · have := hi.lt _ _ him; omega
        · omega
    · injection e' with e'
      injection e' with _ e'
      subst e'
      have hst2 := h2.stab hstab
      subst hl
      exact rep_row (alloc_new w _) hsz hst2.2 (by rw [h2.1]; exact Nat.le_refl _) (fun o ho => .inr ⟨rfl, by rw [← hflat]; exact ho⟩) (Nat.le_refl _) (fun s' hs' => by injection hs' with hs'; subst hs'; exact hsy')

theorem s_appendM {α : Type} {l l2 : List α} {f : α → AV} {t e : TypeId} {x y : Operand} {sz bytes s : Nat} {z : Value} {lx ly : List (Nat × AV)} (p s' : Nat) (ht : SliceT P t e sz) (hz : Zero P e z) (hb : BytesT P e bytes) (hzc : z.cells.size = sz) (h0 : 0 < sz)
    (hx : Opd x (.slice (l.map f) (some s)) lx) (hy : Opd y (.slice (l2.map f) none) ly) (hm0 : 0 < l2.length) (hf : ∀ a, (f a).cells.length = sz) (hone : ∀ a, (f a).cells.all AV.one = true)
    (hbd : (l.length + l2.length) * bytes ≤ 140737488355328 ∧ l.length + l2.length ≤ 9223372036854775807) :
    Step P ops ⟨some d, .call { callee := .builtin .append, args := #[x, y], argTypes := #[t, t] }, ty, pos, aft, none⟩
      { rT := lx ++ ly, rM := [(p, .row s l.length e sz)], wT := some (d, .slice ((l ++ l2).map f) (some s')), wM := some (p, .row s' (l ++ l2).length e sz), sym := some s' } := by
  have := s_append (ops := ops) (ty := ty) (pos := pos) (aft := aft) (d := d) p s' ht hz hb hzc h0 hx hy (List.length_map _) (List.length_map _) hm0 (by intro c hc; obtain ⟨a, _, rfl⟩ := List.mem_map.1 hc; exact hf a)
    (by intro c hc; obtain ⟨a, _, rfl⟩ := List.mem_map.1 hc; exact hf a) (by intro c hc; obtain ⟨a, _, rfl⟩ := List.mem_map.1 hc; exact hone a) (by simpa [maxLen] using hbd)
  rw [← List.map_append, ← List.length_append] at this
  exact this
end

theorem res_free {P : Program} {nt : Nat} {S : St} {rv : ResultVar} {es : List AV} {own : Option Nat} (h : ResOK P nt S rv (.slice es own)) : ResOK P nt S rv (.slice es none) := fun g w a hid hr => by
  obtain ⟨u, h1, h2⟩ := h g w a hid hr
  refine ⟨u, h1, ?_⟩
  cases h2 with
  | slice b o vals hl hA hsz hc hr hle how => exact .slice b o vals hl hA hsz hc hr hle (fun s hs => by cases hs)
theorem res_nils {P : Program} {nt : Nat} {S : St} {rv : ResultVar} (h : ResOK P nt S rv .nils) : ResOK P nt S rv (.slice [] none) := fun g w a hid hr => by
  obtain ⟨u, h1, h2⟩ := h g w a hid hr
  refine ⟨u, h1, ?_⟩
  cases h2
  exact .slice 0 0 (fun _ _ => undef) rfl (fun h => absurd rfl h) (sz := 0) (fun e he => by cases he) (fun i e j c h => by simp at h) (fun i e j c h => by simp at h) (Nat.le_refl _) (fun s hs => by cases hs)

/-! ### Loops by turns -/
section
variable {F : Fence} {P : Program} {nt : Nat} {S : St} {Q : Exit → St → Prop}
/-- At a loop's head. -/
def ACL (F : Fence) (P : Program) (nt : Nat) (c : Code) (S : St) (Q : Exit → St → Prop) : Prop :=
  ∀ g w a hid, Rel nt g w a S hid → ∀ (b : Frame) (k : List Item) (cs : List Frame), b.roundOf = F.round → F.fn b.fn → F.room (cs.length + 1 + 0) →
    ∃ e a' w', (∃ g' S' hid', Rel nt g' w' a' S' hid' ∧ Ext g w g' w' ∧ Q e S') ∧ ArrivesIn (Machine.fenced P F) P (lone (b.atR a (.code c :: .inLoop c :: k)) cs w) b k cs e a' w'
theorem ACL.turn {c : Code} (h : AC F P nt c S (thenQ (fun S' => ACL F P nt c S' Q) Q)) : ACL F P nt c S Q := by
  intro g w a hid hr b k cs hro hb hroom
  obtain ⟨e, a₁, w₁, ⟨g₁, S₁, hid₁, hr₁, he₁, hq⟩, harr⟩ := h g w a hid hr b (.inLoop c :: k) cs hro hb hroom
  cases e with
  | normal =>
    obtain ⟨e₂, a₂, w₂, ⟨g₂, S₂, hid₂, hr₂, he₂, hq₂⟩, harr₂⟩ := hq g₁ w₁ a₁ hid₁ hr₁ b k cs hro hb hroom
    exact ⟨e₂, a₂, w₂, ⟨g₂, S₂, hid₂, hr₂, he₁.trans he₂, hq₂⟩, .of_steps (StepsIn.trans harr (.one (fenced_calm hb hroom rfl) stepR_inLoop)) harr₂⟩
  | exit id => exact ⟨_, a₁, w₁, ⟨g₁, S₁, hid₁, hr₁, he₁, hq⟩, .pass (x := .inLoop c) rfl (fun _ _ => .inl (by simp)) harr⟩
  | goto l => exact ⟨_, a₁, w₁, ⟨g₁, S₁, hid₁, hr₁, he₁, hq⟩, .pass (x := .inLoop c) rfl (fun _ _ => .inl (by simp)) harr⟩
  | ret => exact ⟨_, a₁, w₁, ⟨g₁, S₁, hid₁, hr₁, he₁, hq⟩, .pass (x := .inLoop c) rfl (fun _ _ => .inl (by simp)) harr⟩
  | panic ch => exact ⟨_, a₁, w₁, ⟨g₁, S₁, hid₁, hr₁, he₁, hq⟩, .pass (x := .inLoop c) rfl (fun _ _ => .inl (by simp)) harr⟩
  | outgrown => exact ⟨_, a₁, w₁, ⟨g₁, S₁, hid₁, hr₁, he₁, hq⟩, .pass (x := .inLoop c) rfl (fun _ _ => .inl (by simp)) harr⟩
theorem AC.turns {c : Code} (h : ACL F P nt c S Q) : AC F P nt (.loop c) S Q := by
  intro g0 w0 a0 hid0 hr0 b k cs hro hb hroom
  obtain ⟨e, a', w', hq, harr⟩ := h g0 w0 a0 hid0 hr0 b k cs hro hb hroom
  exact ⟨e, a', w', hq, .of_steps (.one (fenced_calm hb hroom rfl) stepR_loop) harr⟩

/-- A nil slice that will be appended to. -/
theorem AC.claim {c : Code} (t p : Nat) (e : TypeId) (sz : Nat) (h : getT S.env t = .nils) (hp : (S.mem[p]?).isSome = true) (k : ∀ s, AC F P nt c ⟨(t, .slice [] (some s)) :: S.env, S.mem.set p (.row s 0 e sz)⟩ Q) : AC F P nt c S Q := by
  intro g w a hid hr
  obtain ⟨N, hN⟩ := hr.inv.room
  have hpl : p < S.mem.length := by
    rw [Option.isSome_iff_exists] at hp
    obtain ⟨y, hy⟩ := hp
    exact (List.getElem?_eq_some_iff.1 hy).1
  let g' : Gh := g.put N (.val (.slice none 0 0))
  have hsy : g'.sy N = .val (.slice none 0 0) := by show (if N = N then _ else _) = _; rw [if_pos rfl]
  have hext : Ext g w g' w := ⟨rfl, Below.refl _ _, fun b o ho => ⟨ho, rfl⟩, fun s _ hs => by
    show (if s = N then _ else g.sy s) = g.sy s
    rw [if_neg (fun e => hs (by rw [e]; exact hN N (Nat.le_refl _)))], fun s hs => by cases hs⟩
  obtain ⟨R1, R2, R3, R4⟩ := hr
  have hinv := R4.set hext p (.row N 0 e sz) (fun i ei b hi hne hb => ⟨rfl, fun _ h => h, by simp [Ent.block, hsy, symBlock, Value.ownBlock]⟩)
    ⟨_, [], hsy, World.ownsRow_nil _ _ _ _, fun b o hb => by simp [Value.ownBlock] at hb⟩ R4.lt (put_room ⟨N, hN⟩)
  rw [List.set_append_left _ _ hpl] at hinv
  have hr' : Rel nt g' w a ⟨(t, .slice [] (some N)) :: S.env, S.mem.set p (.row N 0 e sz)⟩ hid := by
    refine ⟨R1, R2, fun x u hx => ?_, hinv⟩
    show Rep g' w u (if x = t then _ else getT S.env x)
    have h0 := R3 x u hx
    split
    · rename_i hxt
      rw [hxt, h] at h0
      cases h0
      exact .slice 0 0 (fun _ _ => undef) rfl (fun h => absurd rfl h) (sz := 0) (fun e he => by cases he) (fun i e j c h => by simp at h) (fun i e j c h => by simp at h) (Nat.le_refl _) (fun s hs => by injection hs with hs; subst hs; exact hsy)
    · exact h0.stab hext
  refine wpIn_mono (k N g' w a hid hr') fun ex a' w' ⟨g2, S2, hid2, h1, h2, h3⟩ => ⟨g2, S2, hid2, h1, hext.trans h2, h3⟩
end
end Go.Proofs.Ytjhecgiipajdpaa
