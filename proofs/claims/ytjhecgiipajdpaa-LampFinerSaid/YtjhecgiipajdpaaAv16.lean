/- From the readings of the arguments to abstract values. -/
import Derived.Test.YtjhecgiipajdpaaAv15
import Derived.OpenShut
import Derived.ChangeOld
import Derived.DataReads
set_option linter.unusedVariables false
set_option linter.unusedSimpArgs false
namespace Go.Proofs.Ytjhecgiipajdpaa
open Go.RowKit

/-- At the call: what was there is for ever. -/
def g0 (w : World) : Gh := { base := w.heap.size, imm := fun b _ => b < w.heap.size, sy := fun _ => .free }
theorem inv0 (w : World) : Inv (g0 w) w [] := ⟨fun e he => (by cases he), fun i j ei ej b h => (by simp at h), Nat.le_refl _, fun b o h => h, 0, fun _ _ => rfl⟩
def RepL (w : World) (cs : List Value) (l : List AV) : Prop := cs.length = l.length ∧ ∀ (i : Nat) v a, cs[i]? = some v → l[i]? = some a → Rep (g0 w) w v a

section
variable {H : Type} {enc : TypeId × Value → H} {P : Program} {w : World}
/-- Every reading of the type is of some value of α. -/
def Opens (enc : TypeId × Value → H) (P : Program) (w : World) (t n : Nat) (α : Type) (f : α → List AV) (ok : α → Prop) : Prop :=
  P.cellsOf t = n ∧ ∀ fuel cs x, DataW.trod enc P w 0 (fun _ => true) true fuel t cs = some x → ∃ a, ok a ∧ RepL w cs (f a)
theorem RepL.one {v : Value} {a : AV} (h : Rep (g0 w) w v a) : RepL w [v] [a] := ⟨rfl, fun i v' a' h1 h2 => by
  match i with
  | 0 => simp at h1 h2; subst h1; subst h2; exact h
  | i + 1 => simp at h1⟩
theorem RepL.app {c1 c2 : List Value} {l1 l2 : List AV} (h : RepL w c1 l1) (k : RepL w c2 l2) : RepL w (c1 ++ c2) (l1 ++ l2) := by
  refine ⟨by rw [List.length_append, List.length_append, h.1, k.1], fun i v a h1 h2 => ?_⟩
  by_cases hi : i < c1.length
  · rw [List.getElem?_append_left hi] at h1
    rw [List.getElem?_append_left (by rw [← h.1]; exact hi)] at h2
    exact h.2 i v a h1 h2
  · rw [List.getElem?_append_right (by omega)] at h1
    rw [List.getElem?_append_right (by rw [← h.1]; omega), ← h.1] at h2
    exact k.2 _ v a h1 h2
theorem Opens.int {t : TypeId} {k : IntKind} (ht : P.underlying t = some (.int k)) (hc : P.cellsOf t = 1) : Opens enc P w t 1 Int (fun n => [.int k n]) (fun n => (Lit.int k n).wf = true) :=
  ⟨hc, fun fuel cs x h => by
    obtain ⟨n, rfl, _, hw⟩ := DataW.trod_int ht h
    exact ⟨n, hw, .one (.int k n)⟩⟩
theorem Opens.bool {t : TypeId} (ht : P.underlying t = some .bool) (hc : P.cellsOf t = 1) : Opens enc P w t 1 Bool (fun b => [.bool b]) (fun _ => True) :=
  ⟨hc, fun fuel cs x h => by
    obtain ⟨n, rfl, _⟩ := DataW.trod_bool ht h
    exact ⟨n, trivial, .one (.bool n)⟩⟩
theorem Opens.str {t : TypeId} (ht : P.underlying t = some .string) (hc : P.cellsOf t = 1) : Opens enc P w t 1 ByteArray (fun s => [.str s]) (fun s => s.size ≤ maxLen) :=
  ⟨hc, fun fuel cs x h => by
    obtain ⟨n, rfl, _, hw⟩ := DataW.trod_string ht h
    exact ⟨n, hw, .one (.str n)⟩⟩
theorem Opens.map {t n : Nat} {α β : Type} {f : α → List AV} {ok : α → Prop} (h : Opens enc P w t n α f ok) (φ : α → β) (f' : β → List AV) (ok' : β → Prop) (hf : ∀ a, f a = f' (φ a)) (hok : ∀ a, ok a → ok' (φ a)) : Opens enc P w t n β f' ok' :=
  ⟨h.1, fun fuel cs x hx => by
    obtain ⟨a, h1, h2⟩ := h.2 fuel cs x hx
    exact ⟨φ a, hok a h1, by rw [← hf]; exact h2⟩⟩

/-- The fields of a struct, one behind the other. -/
inductive OpensF (enc : TypeId × Value → H) (P : Program) (w : World) : List Field → Nat → (α : Type) → (α → List AV) → (α → Prop) → Prop
  | nil (off : Nat) : OpensF enc P w [] off Unit (fun _ => []) (fun _ => True)
  | cons {fd : Field} {fs : List Field} {off n : Nat} {α β : Type} {f : α → List AV} {f' : β → List AV} {ok : α → Prop} {ok' : β → Prop} (ho : fd.offset = off) (h : Opens enc P w fd.type n α f ok)
      (r : OpensF enc P w fs (off + n) β f' ok') : OpensF enc P w (fd :: fs) off (α × β) (fun x => f x.1 ++ f' x.2) (fun x => ok x.1 ∧ ok' x.2)
theorem OpensF.get {fs : List Field} {off : Nat} {α : Type} {f : α → List AV} {ok : α → Prop} (h : OpensF enc P w fs off α f ok) : ∀ (cs : List Value),
    (∀ (i : Nat) fd, fs[i]? = some fd → ∃ fuel x, DataW.trod enc P w 0 (fun _ => true) true fuel fd.type ((cs.drop fd.offset).take (P.cellsOf fd.type)) = some x) → ∃ a k, ok a ∧ (f a).length = k ∧ RepL w ((cs.drop off).take k) (f a) := by
  induction h with
  | nil off => exact fun cs _ => ⟨(), 0, trivial, rfl, by rw [List.take_zero]; exact ⟨rfl, fun i v a h => by simp at h⟩⟩
  | cons ho h r ih =>
    rename_i fd fs off n α β f f' ok ok'
    intro cs hcs
    obtain ⟨fuel, x, hx⟩ := hcs 0 fd rfl
    rw [ho, h.1] at hx
    obtain ⟨a, h1, h2⟩ := h.2 fuel _ x hx
    obtain ⟨b, k, h3, h4, h5⟩ := ih cs (fun i fd' hi => hcs (i + 1) fd' (by simpa using hi))
    refine ⟨(a, b), (f a).length + k, ⟨h1, h3⟩, by simp [h4], ?_⟩
    have hl : ((cs.drop off).take n).length = (f a).length := h2.1
    have hsplit : (cs.drop off).take ((f a).length + k) = (cs.drop off).take n ++ (cs.drop (off + n)).take k := by
      rcases Nat.lt_or_ge (cs.drop off).length n with hlt | hge
      · -- the row is too short: then the rest is empty
        have hlen : (f a).length = (cs.drop off).length := by rw [← hl, List.length_take]; omega
        have hnil : cs.drop (off + n) = [] := by
          apply List.drop_eq_nil_of_le
          rw [List.length_drop] at hlt
          omega
        have hk : k = 0 := by
          have := h5.1
          rw [hnil, List.take_nil] at this
          rw [← h4]; simpa using this.symm
        rw [hnil, hk, List.take_nil, List.append_nil, Nat.add_zero, hlen, List.take_length, List.take_of_length_le (by omega)]
      · have hlen : (f a).length = n := by rw [← hl, List.length_take]; omega
        rw [hlen, List.take_add, List.drop_drop]
    rw [hsplit]
    exact h2.app h5
theorem Opens.struct {t n : Nat} {fs : Array Field} {α : Type} {f : α → List AV} {ok : α → Prop} (ht : P.underlying t = some (.struct fs)) (hc : P.cellsOf t = n) (h : OpensF enc P w fs.toList 0 α f ok) (hn : ∀ a, (f a).length = n) : Opens enc P w t n α f ok :=
  ⟨hc, fun fuel cs x hx => by
    obtain ⟨xs, m, rfl, rfl, hl, hlen, hf⟩ := DataW.trod_struct ht hx
    obtain ⟨a, k, h1, h2, h3⟩ := h.get cs fun i fd hi => by
      rw [Array.getElem?_toList] at hi
      have := hf i fd hi
      have hlt : i < xs.length := by rw [hlen]; exact (Array.getElem?_eq_some_iff.1 hi).1
      exact ⟨m, xs[i], by rw [this]; exact List.getElem?_eq_getElem hlt⟩
    refine ⟨a, h1, ?_⟩
    rw [hn] at h2
    subst h2
    rw [List.drop_zero, List.take_of_length_le (by rw [hl, hc]; exact Nat.le_refl _)] at h3
    exact h3⟩

theorem Opens.slice {t e n : Nat} {α : Type} {f : α → List AV} {ok : α → Prop} (g : α → AV) (ht : P.underlying t = some (.slice e)) (hc : P.cellsOf t = 1) (h : Opens enc P w e n α f ok) (hn : 0 < n) (hg : ∀ a, (g a).cells = f a) (hfl : ∀ a, (f a).length = n) :
    Opens enc P w t 1 (List α) (fun l => [.slice (l.map g) none]) (fun l => l.length ≤ maxLen ∧ ∀ a ∈ l, ok a) := by
  refine ⟨hc, fun fuel cs x hx => ?_⟩
  rcases DataW.trod_slice ht hx with ⟨rfl, _⟩ | ⟨a, len, cap, elems, rest, m, _, rfl, _, hb, hl, hm, hlen, hel, _⟩
  · exact ⟨[], ⟨by simp, fun a ha => by cases ha⟩, .one (.slice 0 0 (fun _ _ => undef) rfl (fun h => absurd rfl h) (sz := 0) (fun e he => by cases he) (fun i e j c h => by simp at h) (fun i e j c h => by simp at h) (Nat.le_refl _) (fun s hs => by cases hs))⟩
  · -- each element
    have each : ∀ i, i < len → ∃ (a' : α) (cs' : List Value), ok a' ∧ RepL w cs' (f a') ∧ cs'.length = n ∧ ∀ j, j < n → w.cell? ((a.add (i * n)).add j) = cs'[j]? := by
      intro i hi
      have h1 := hel i hi
      rw [List.getElem?_eq_getElem (by omega), h.1, Option.bind_eq_some_iff] at h1
      obtain ⟨cs', h2, h3⟩ := h1
      obtain ⟨a', h4, h5⟩ := h.2 m cs' _ h3
      obtain ⟨h6, h7, h8⟩ := World.cells?_some h2
      exact ⟨a', cs', h4, h5, h7, h8⟩
    have hlist : ∀ k, k ≤ len → ∃ L : List (α × List Value), L.length = k ∧ ∀ (i : Nat) p, L[i]? = some p → ok p.1 ∧ RepL w p.2 (f p.1) ∧ p.2.length = n ∧ ∀ j, j < n → w.cell? ((a.add (i * n)).add j) = p.2[j]? := by
      intro k
      induction k with
      | zero => exact fun _ => ⟨[], rfl, fun i p h => by simp at h⟩
      | succ k ih =>
        intro hk
        obtain ⟨L, h1, h2⟩ := ih (by omega)
        obtain ⟨a', cs', h3⟩ := each k (by omega)
        refine ⟨L ++ [(a', cs')], by simp [h1], fun i p hp => ?_⟩
        rw [List.getElem?_append] at hp
        split at hp
        · exact h2 i p hp
        · rename_i hge
          have hi : i - L.length = 0 := by
            rcases Nat.eq_zero_or_pos (i - L.length) with h | h
            · exact h
            · rw [List.getElem?_eq_none (by simp; omega)] at hp; cases hp
          have hik : i = k := by omega
          rw [hi] at hp
          simp at hp
          subst hp
          rw [hik]
          exact h3
    obtain ⟨L, hL1, hL2⟩ := hlist len (Nat.le_refl _)
    have spot : 0 < len → a = ⟨a.block, a.off, none⟩ := by
      intro h0
      obtain ⟨a0, c0, _, _, h3, h4⟩ := each 0 h0
      have h5 := h4 0 hn
      rw [List.getElem?_eq_getElem (by omega), Nat.zero_mul] at h5
      have h6 : w.cell? a = some c0[0] := by simpa [Addr.add] using h5
      unfold World.cell? at h6
      split at h6
      · split at h6
        · cases h6
        · rename_i hs
          have : a.spot = none := by cases hs' : a.spot <;> simp_all
          cases a
          simp_all
      · cases h6
    refine ⟨L.map (·.1), ⟨by simp [hL1]; omega, fun x hx => ?_⟩, .one ?_⟩
    · obtain ⟨p, hp, rfl⟩ := List.mem_map.1 hx
      obtain ⟨i, hi⟩ := List.getElem?_of_mem hp
      exact (hL2 i p hi).1
    · have getp : ∀ (i : Nat) el, ((L.map (·.1)).map g)[i]? = some el → ∃ p, L[i]? = some p ∧ el = g p.1 := by
        intro i el h1
        rw [List.getElem?_map, List.getElem?_map] at h1
        cases hp : L[i]? with
        | none => rw [hp] at h1; cases h1
        | some p => rw [hp] at h1; simp at h1; exact ⟨p, rfl, h1.symm⟩
      refine .slice a.block a.off (fun i j => (((L[i]?).map (·.2)).getD []).getD j undef) (sz := n) (by simp [hL1]) (fun h => congrArg some (spot ?_)) (fun e he => ?_) (fun i el j c h1 h2 => ?_) (fun i el j c h1 h2 => ?_) hl (fun s hs => by cases hs)
      · rcases Nat.eq_zero_or_pos len with h0 | h0
        · exfalso
          apply h
          have : L = [] := List.eq_nil_of_length_eq_zero (by omega)
          rw [this]; rfl
        · exact h0
      · obtain ⟨x, _, rfl⟩ := List.mem_map.1 he
        rw [hg, hfl]
      · obtain ⟨p, hp, rfl⟩ := getp i el h1
        obtain ⟨k1, k2, k3, k4⟩ := hL2 i p hp
        rw [hg] at h2
        have hj : j < n := by rw [← hfl p.1]; exact (List.getElem?_eq_some_iff.1 h2).1
        have hlen0 : 0 < len := by have := (List.getElem?_eq_some_iff.1 hp).1; omega
        have h5 := k4 j hj
        rw [List.getElem?_eq_getElem (by omega)] at h5
        have hsp := spot hlen0
        rw [hsp, add_addr, add_addr] at h5
        refine ⟨?_, ?_⟩
        · rw [show a.off + (i * n + j) = a.off + i * n + j from by omega, h5, hp]
          simp [List.getD_eq_getElem?_getD, List.getElem?_eq_getElem (show j < p.2.length by omega)]
        · show a.block < w.heap.size
          have h9 := World.block_lt_of_cell? w _ h5
          exact h9
      · obtain ⟨p, hp, rfl⟩ := getp i el h1
        obtain ⟨k1, k2, k3, k4⟩ := hL2 i p hp
        rw [hg] at h2
        have hj : j < n := by rw [← hfl p.1]; exact (List.getElem?_eq_some_iff.1 h2).1
        rw [hp]
        refine k2.2 j _ c ?_ h2
        simp [List.getD_eq_getElem?_getD, List.getElem?_eq_getElem (show j < p.2.length by omega)]

/-- An array: its elements, one behind the other. -/
theorem Opens.array {t e n m : Nat} {α : Type} {f : α → List AV} {ok : α → Prop} (ht : P.underlying t = some (.array m e)) (hc : P.cellsOf t = m * n) (h : Opens enc P w e n α f ok) (hfl : ∀ a, (f a).length = n) :
    Opens enc P w t (m * n) (List α) (fun l => l.flatMap f) (fun l => l.length = m ∧ ∀ a ∈ l, ok a) :=
  ⟨hc, fun fuel cs x hx => by
    obtain ⟨xs, k, rfl, rfl, hl, hlen, hf⟩ := DataW.trod_array ht hx
    have key : ∀ j, j ≤ m → ∃ l : List α, (l.length = j ∧ ∀ a ∈ l, ok a) ∧ RepL w (cs.take (j * n)) (l.flatMap f) := by
      intro j
      induction j with
      | zero => exact fun _ => ⟨[], ⟨rfl, fun a ha => (by cases ha)⟩, by rw [Nat.zero_mul, List.take_zero]; exact ⟨rfl, fun i v a h => by simp at h⟩⟩
      | succ j ih =>
        intro hj
        obtain ⟨l, ⟨h1, h2⟩, h3⟩ := ih (by omega)
        have h4 := hf j (by omega)
        rw [h.1, List.getElem?_eq_getElem (by omega)] at h4
        obtain ⟨a, h5, h6⟩ := h.2 k _ _ h4
        refine ⟨l ++ [a], ⟨by simp [h1], fun b hb => ?_⟩, ?_⟩
        · rcases List.mem_append.1 hb with hb | hb
          · exact h2 b hb
          · rw [List.mem_singleton.1 hb]; exact h5
        · rw [Nat.add_mul, Nat.one_mul, List.take_add, List.flatMap_append, List.flatMap_singleton]
          exact h3.app h6
    obtain ⟨l, h1, h2⟩ := key m (Nat.le_refl _)
    rw [List.take_of_length_le (by rw [hl, hc]; exact Nat.le_refl _)] at h2
    exact ⟨l, h1, h2⟩⟩
theorem Opens.aggA {t n : Nat} {α : Type} {f : α → List AV} {ok : α → Prop} (h : Opens enc P w t n α f ok) {m e : Nat} (ht : P.underlying t = some (.array m e)) {W : World} {r : Reach} {b0 : Nat} {v : Value} {d : DataW H} {ps : List MemPlace}
    (hval : Value.okWide P W r b0 t v) (hd : DataW.Trod enc P w 0 (fun _ => true) true t v d ps) : ∃ a, ok a ∧ Rep (g0 w) w v (.agg (f a)) := by
  obtain ⟨fuel, hf⟩ := hd
  obtain ⟨a, h1, h2⟩ := h.2 fuel _ _ hf
  unfold Value.okWide at hval
  rw [ht] at hval
  obtain ⟨cs, rfl, _⟩ := hval
  refine ⟨a, h1, .agg ?_ fun i v c hv hc => ?_⟩
  · have := h2.1
    simpa [Value.cells] using this
  · exact h2.2 i v c (by simpa [Value.cells] using hv) hc
theorem Opens.agg {t n : Nat} {α : Type} {f : α → List AV} {ok : α → Prop} (h : Opens enc P w t n α f ok) {fs : Array Field} (ht : P.underlying t = some (.struct fs)) {W : World} {r : Reach} {b0 : Nat} {v : Value} {d : DataW H} {ps : List MemPlace}
    (hval : Value.okWide P W r b0 t v) (hd : DataW.Trod enc P w 0 (fun _ => true) true t v d ps) : ∃ a, ok a ∧ Rep (g0 w) w v (.agg (f a)) := by
  obtain ⟨fuel, hf⟩ := hd
  obtain ⟨a, h1, h2⟩ := h.2 fuel _ _ hf
  unfold Value.okWide at hval
  rw [ht] at hval
  obtain ⟨cs, rfl, _⟩ := hval
  refine ⟨a, h1, .agg ?_ fun i v c hv hc => ?_⟩
  · have := h2.1
    simpa [Value.cells] using this
  · exact h2.2 i v c (by simpa [Value.cells] using hv) hc
theorem walk_of {f : FuncId} {args : List AV} {vs : Array Value} (h : Pure P f args (.bool true)) (ha : RepAll (g0 w) w vs args) : Calls P f vs w fun e w' => e = .returned (.bool true) ∧ Below w.heap.size w w' :=
  (h [] (g0 w) w vs (inv0 w) ha).mono fun e w' ⟨v, r, mem', g', he, ⟨hr, _⟩, hv, _, hx⟩ => by
    subst hr
    cases hv
    exact ⟨he, hx.below⟩
end
end Go.Proofs.Ytjhecgiipajdpaa
