/- Regions, code, loops, calls over abstract states. -/
import Derived.Test.YtjhecgiipajdpaaAv2
set_option linter.unusedVariables false
set_option linter.unusedSimpArgs false
namespace Go.Proofs.Ytjhecgiipajdpaa
open Go.RowKit

/-! ### A region under way -/
/-- What holds while operations are still to come: 'rest' are the specifications that are left. -/
structure Way (nt : Nat) (g0 : Gh) (w0 : World) (g : Gh) (w : World) (a : Act) (S : St) (hid : List Nat) (rest : List Spec) : Prop where
  ext : Ext g0 w0 g w
  rel : Rel nt g w a S hid
  held : ∀ sp s, sp ∈ rest → sp.sym = some s → g.sy s = .held ∧ g0.sy s = .free

theorem mem_set_hid {mem : List Ent} {hid : List Nat} {x : Option (Nat × Ent)} (h : ∀ p e, x = some (p, e) → p < mem.length) : setM (mem ++ hid.map Ent.mark) x = setM mem x ++ hid.map Ent.mark := setM_append _ _ _ h

theorem Way.step {P : Program} {ops : Array Oper} {F : Fence} (hF : Fr F) {nt : Nat} {g0 g : Gh} {w0 w : World} {a : Act} {S : St} {hid : List Nat} {sp : Spec} {rest : List Spec} {o : Oper}
    (h : Way nt g0 w0 g w a S hid (sp :: rest)) (hstep : Step P ops o sp) (hreq : Req sp S) (hnt : ∀ x v, (x, v) ∈ sp.rT → x < nt)
    (hsym : ∀ sp' s, sp' ∈ rest → sp.sym = some s → sp'.sym ≠ some s)
    (K : Act → World → Prop) (Q : Exit → Act → World → Prop) (hK : ∀ g' w' a', Way nt g0 w0 g' w' a' (runSt sp S) hid rest → K a' w') :
    if Region.wanted o (yielded ops a.tmps) then o.wpIn F 0 P a w K Q else (∀ f, o.about P w a.eval = some f → F.fn f) ∧ K (a.put o.dst undef) w := by
  refine hstep.go F hF g w a (S.mem ++ hid.map Ent.mark) h.rel.inv ?_ ?_ ?_ ?_ (fun X hX => hreq.n X hX _) K Q ?_
  · intro x v hx
    have hlt : x < a.tmps.size := by rw [h.rel.size]; exact hnt x v hx
    exact ⟨a.tmps[x], Array.getElem?_eq_getElem hlt, by rw [← hreq.t x v hx]; exact h.rel.env x _ (Array.getElem?_eq_getElem hlt)⟩
  · intro p e hp
    have := hreq.m p e hp
    rw [List.getElem?_append_left (List.getElem?_eq_some_iff.1 this).1]
    exact this
  · intro s hs
    exact (h.held sp s List.mem_cons_self hs).1
  · intro p e hp
    have := hreq.w p e hp
    simp only [List.length_append]
    omega
  · intro g' w' u hst hinv hrep
    refine hK g' w' _ ⟨?_, ⟨?_, ?_, ?_, ?_⟩, ?_⟩
    · exact h.ext.step hst fun s hs => (h.held sp s List.mem_cons_self hs).2
    · cases hd : o.dst <;> simp [Act.put, h.rel.size]
    · cases hd : o.dst <;> simp [Act.put, h.rel.defers]
    · intro x u' hx
      rw [getT_runSt]
      have hdst := hstep.dst
      cases hw : sp.wT with
      | none =>
        rw [hw] at hdst
        simp only [hdst, Option.map_none, Act.put] at hx
        exact (h.rel.env x u' hx).stab hst
      | some kv =>
        obtain ⟨d, v⟩ := kv
        rw [hw] at hdst
        simp only [Option.map_some] at hdst
        simp only [hdst, Act.put, Array.getElem?_setIfInBounds] at hx
        dsimp only
        by_cases hxd : x = d
        · subst hxd
          rw [if_pos rfl] at hx
          split at hx
          · injection hx with hx
            subst hx
            rw [if_pos rfl]
            exact hrep x v hw
          · cases hx
        · rw [if_neg (fun e => hxd e.symm)] at hx
          rw [if_neg hxd]
          exact (h.rel.env x u' hx).stab hst
    · rw [mem_set_hid hreq.w] at hinv
      exact hinv
    · intro sp' s hm hs
      have h0 := h.held sp' s (List.mem_cons_of_mem _ hm) hs
      refine ⟨?_, h0.2⟩
      rw [hst.sy s ?_ (by rw [h0.1]; simp), h0.1]
      intro e
      exact hsym sp' s hm e.symm hs

/-- The text's order. -/
theorem way_list {P : Program} {ops : Array Oper} {F : Fence} (hF : Fr F) {nt : Nat} {g0 : Gh} {w0 : World} {hid : List Nat} {Fin : St} {Q : Exit → Act → World → Prop}
    (hQ : ∀ g w a S, Way nt g0 w0 g w a S hid [] → SEq S Fin → Q .normal a w) :
    ∀ (l : List Oper) (sps : List Spec), l.length = sps.length → (∀ (i : Nat) o sp, l[i]? = some o → sps[i]? = some sp → Step P ops o sp) →
      (∀ sp ∈ sps, ∀ x v, (x, v) ∈ sp.rT → x < nt) → sps.Pairwise (fun x y => ∀ s, x.sym = some s → y.sym ≠ some s) →
      ∀ g w a S, Way nt g0 w0 g w a S hid sps → valid sps S Fin → wpListIn F 0 P ops Q l a w
  | [], [], _, _, _, _, g, w, a, S, h, hv => hQ g w a S h hv
  | o :: l, sp :: sps, hl, hst, hnt, hsy, g, w, a, S, h, hv => by
    unfold wpListIn
    refine h.step hF (hst 0 o sp rfl rfl) hv.1 (hnt sp List.mem_cons_self) (fun sp' s hm hs => (List.pairwise_cons.1 hsy).1 sp' hm s hs) _ Q ?_
    intro g' w' a' h'
    exact way_list hF hQ l sps (by simpa using hl) (fun i o sp h1 h2 => hst (i + 1) o sp (by simpa using h1) (by simpa using h2))
      (fun sp' hm => hnt sp' (List.mem_cons_of_mem _ hm)) (List.pairwise_cons.1 hsy).2 g' w' a' _ h' hv.2

/-! ### Any order -/
def boundEdge (o : Oper) (k : Nat) : Bool := o.after.any fun e => Region.binds .any e && e.on == k
def drawOk (ops : List Oper) (sps : List Spec) : Bool :=
  (ops.zip sps).zipIdx.all fun x =>
    x.1.1.after.all (fun e => !Region.binds .any e || decide (e.on < x.2)) &&
    (sps.take x.2).zipIdx.all fun y => boundEdge x.1.1 y.2 || indep y.1 x.1.2

theorem drawOk_spec {ops : List Oper} {sps : List Spec} (h : drawOk ops sps = true) {i : Nat} {o : Oper} {sp : Spec} (ho : ops[i]? = some o) (hs : sps[i]? = some sp) :
    (∀ e ∈ o.after, Region.binds .any e = true → e.on < i) ∧ ∀ k sk, k < i → sps[k]? = some sk → boundEdge o k = true ∨ Indep sk sp := by
  unfold drawOk at h
  rw [List.all_eq_true] at h
  have hz : ((ops.zip sps).zipIdx)[i]? = some ((o, sp), i) := by
    rw [List.getElem?_zipIdx, (List.getElem?_zip_eq_some (z := (o, sp))).2 ⟨ho, hs⟩]
    simp
  have := h _ (List.mem_of_getElem? hz)
  simp only [Bool.and_eq_true, Array.all_eq_true, List.all_eq_true, Bool.or_eq_true, Bool.not_eq_true', decide_eq_true_eq] at this
  refine ⟨fun e he hb => ?_, fun k sk hk hsk => ?_⟩
  · obtain ⟨j, hj, hje⟩ := Array.mem_iff_getElem.1 he
    rcases this.1 j hj with hx | hx
    · rw [hje, hb] at hx; cases hx
    · rw [hje] at hx; exact hx
  · have hy : ((sps.take i).zipIdx)[k]? = some (sk, k) := by
      rw [List.getElem?_zipIdx, List.getElem?_take, if_pos hk, hsk]
      simp
    rcases this.2 _ (List.mem_of_getElem? hy) with hx | hx
    · exact .inl hx
    · exact .inr (indep_spec hx)

def unlisted (n : Nat) (listed : Array Bool) : List Nat := (List.range n).filter fun i => !listed.getD i true

theorem unlisted_split (n : Nat) (listed : Array Bool) (i : Nat) (hi : i ∈ unlisted n listed) (hsz : listed.size = n) :
    ∃ A B, unlisted n listed = A ++ i :: B ∧ unlisted n (listed.setIfInBounds i true) = A ++ B ∧ ∀ k ∈ A, k < i ∧ listed.getD k true = false := by
  unfold unlisted at *
  simp only [List.mem_filter, List.mem_range] at hi
  obtain ⟨hin, hil⟩ := hi
  have hr : List.range n = List.range' 0 i ++ i :: List.range' (i + 1) (n - (i + 1)) := by
    have h1 : List.range' i (n - i) = i :: List.range' (i + 1) (n - (i + 1)) := by
      rw [show n - i = (n - (i + 1)) + 1 from by omega, List.range'_succ]
    have h2 := List.range'_append (s := 0) (m := i) (n := n - i) (step := 1)
    simp only [Nat.one_mul, Nat.zero_add] at h2
    have h3 : i + (n - i) = n := by omega
    rw [h3] at h2
    rw [List.range_eq_range', ← h2, h1]
  have same : ∀ l : List Nat, (∀ x ∈ l, x ≠ i) → l.filter (fun j => !(listed.setIfInBounds i true).getD j true) = l.filter (fun j => !listed.getD j true) := by
    intro l hl
    refine List.filter_congr fun j hj => ?_
    have hne := hl j hj
    simp only [Array.getD_eq_getD_getElem?, Array.getElem?_setIfInBounds_ne (Ne.symm hne)]
  refine ⟨(List.range' 0 i).filter (fun j => !listed.getD j true), (List.range' (i + 1) (n - (i + 1))).filter (fun j => !listed.getD j true), ?_, ?_, ?_⟩
  · rw [hr, List.filter_append, List.filter_cons, if_pos (by simpa using hil)]
  · rw [hr, List.filter_append, List.filter_cons, if_neg (by simp [Array.getD_eq_getD_getElem?, hsz, hin]), same _ (fun x hx => by simp only [List.mem_range'_1] at hx; omega), same _ (fun x hx => by simp only [List.mem_range'_1] at hx; omega)]
  · intro k hk
    simp only [List.mem_filter, List.mem_range'_1] at hk
    exact ⟨by omega, by simpa using hk.2⟩

theorem way_any {P : Program} {ops : Array Oper} {F : Fence} (hF : Fr F) {nt : Nat} {g0 : Gh} {w0 : World} {hid : List Nat} {Fin : St} {Q : Exit → Act → World → Prop}
    (sps : List Spec) (hlen : ops.size = sps.length) (hst : ∀ (i : Nat) o sp, ops[i]? = some o → sps[i]? = some sp → Step P ops o sp)
    (hnt : ∀ sp ∈ sps, ∀ x v, (x, v) ∈ sp.rT → x < nt) (hsy : ∀ (i j : Nat) x y s, sps[i]? = some x → sps[j]? = some y → x.sym = some s → y.sym = some s → i = j)
    (hok : drawOk ops.toList sps = true)
    (hQ : ∀ g w a S, Way nt g0 w0 g w a S hid [] → SEq S Fin → Q .normal a w) :
    ∀ (fuel : Nat) (listed : Array Bool), listed.size = ops.size → fuel = (unlisted ops.size listed).length →
      ∀ g w a S, Way nt g0 w0 g w a S hid ((unlisted ops.size listed).map (fun i => sps.getD i {})) → valid ((unlisted ops.size listed).map (fun i => sps.getD i {})) S Fin →
        wpAnyIn F 0 P .any ops Q fuel listed a w := by
  have ready_iff : ∀ (listed : Array Bool) i, i ∈ Region.ready .any ops listed ↔ i ∈ unlisted ops.size listed ∧ ∀ o, ops[i]? = some o → ∀ e ∈ o.after, Region.binds .any e = true → listed.getD e.on false = true := by
    intro listed i
    unfold Region.ready unlisted
    simp only [List.mem_filter, List.mem_range, Bool.and_eq_true]
    constructor
    · rintro ⟨h1, h2, h3⟩
      refine ⟨⟨h1, h2⟩, fun o ho e he hb => ?_⟩
      rw [ho] at h3
      simp only [Option.map_some, Option.getD_some, Array.all_eq_true] at h3
      obtain ⟨j, hj, hje⟩ := Array.mem_iff_getElem.1 he
      have := h3 j hj
      rw [hje, hb] at this
      simpa using this
    · rintro ⟨⟨h1, h2⟩, h3⟩
      refine ⟨h1, h2, ?_⟩
      rw [Array.getElem?_eq_getElem h1]
      simp only [Option.map_some, Option.getD_some, Array.all_eq_true]
      intro j hj
      by_cases hb : Region.binds .any (ops[i].after[j]) = true
      · simp [h3 _ (Array.getElem?_eq_getElem h1) _ (Array.getElem_mem hj) hb]
      · simp [hb]
  intro fuel
  induction fuel with
  | zero =>
    intro listed hsz hf g w a S h hv
    have hnil : unlisted ops.size listed = [] := List.eq_nil_of_length_eq_zero hf.symm
    refine ⟨?_, ?_⟩
    · rw [List.eq_nil_iff_forall_not_mem]
      intro i hi
      have := ((ready_iff listed i).1 hi).1
      rw [hnil] at this
      cases this
    · rw [hnil] at h hv
      exact hQ g w a S h hv
  | succ fuel ih =>
    intro listed hsz hf g w a S h hv
    refine ⟨fun hnil => ?_, fun i hi => ?_⟩
    · exfalso
      obtain ⟨i0, r, hr⟩ : ∃ i0 r, unlisted ops.size listed = i0 :: r := by
        cases hu : unlisted ops.size listed with
        | nil => rw [hu] at hf; cases hf
        | cons x y => exact ⟨x, y, rfl⟩
      have hm : i0 ∈ unlisted ops.size listed := by rw [hr]; exact List.mem_cons_self
      have hlt : i0 < ops.size := by unfold unlisted at hm; simp only [List.mem_filter, List.mem_range] at hm; exact hm.1
      have hs : sps[i0]? = some (sps[i0]'(by omega)) := List.getElem?_eq_getElem _
      have : i0 ∈ Region.ready .any ops listed := by
        refine (ready_iff listed i0).2 ⟨hm, fun o ho e he hb => ?_⟩
        have hbefore := (drawOk_spec hok (o := o) (by rw [Array.getElem?_toList]; exact ho) hs).1 e he hb
        cases hl : listed.getD e.on false with
        | true => rfl
        | false =>
          exfalso
          obtain ⟨A, B, h1, _, h3⟩ := unlisted_split ops.size listed e.on (by
            unfold unlisted
            simp only [List.mem_filter, List.mem_range]
            refine ⟨by omega, ?_⟩
            have hlt' : e.on < listed.size := by omega
            simp only [Array.getD_eq_getD_getElem?, Array.getElem?_eq_getElem hlt', Option.getD_some] at hl ⊢
            simp [hl]) hsz
          rw [hr] at h1
          cases A with
          | nil => injection h1 with h1 _; omega
          | cons x A =>
            injection h1 with h1 _
            have := (h3 x List.mem_cons_self).1
            omega
      rw [hnil] at this
      cases this
    · obtain ⟨hm, hedges⟩ := (ready_iff listed i).1 hi
      obtain ⟨A, B, h1, h2, h3⟩ := unlisted_split ops.size listed i hm hsz
      have hlt : i < ops.size := by unfold unlisted at hm; simp only [List.mem_filter, List.mem_range] at hm; exact hm.1
      have ho : ops[i]? = some ops[i] := Array.getElem?_eq_getElem hlt
      have hs : sps[i]? = some (sps[i]'(by omega)) := List.getElem?_eq_getElem _
      have hgi : sps.getD i {} = sps[i]'(by omega) := by simp [List.getD_eq_getElem?_getD, hs]
      have hind : ∀ k ∈ A, Indep (sps.getD k {}) (sps.getD i {}) := by
        intro k hk
        obtain ⟨hki, hkl⟩ := h3 k hk
        have hsk : sps[k]? = some (sps[k]'(by omega)) := List.getElem?_eq_getElem _
        have hgk : sps.getD k {} = sps[k]'(by omega) := by simp [List.getD_eq_getElem?_getD, hsk]
        rw [hgk, hgi]
        rcases (drawOk_spec hok (o := ops[i]) (by rw [Array.getElem?_toList]; exact ho) hs).2 k _ hki hsk with hb | hb
        · exfalso
          unfold boundEdge at hb
          simp only [Array.any_eq_true, Bool.and_eq_true, beq_iff_eq] at hb
          obtain ⟨j, hj, hb1, hb2⟩ := hb
          have := hedges _ ho _ (Array.getElem_mem hj) hb1
          rw [hb2] at this
          have hk' : k < listed.size := by omega
          simp only [Array.getD_eq_getD_getElem?, Array.getElem?_eq_getElem hk', Option.getD_some] at this hkl
          rw [hkl] at this
          cases this
        · exact hb
      rw [h1, List.map_append, List.map_cons] at h hv
      obtain ⟨hreq, hv'⟩ := valid_move _ _ _ hv (by
        intro k hk
        obtain ⟨k', hk', rfl⟩ := List.mem_map.1 hk
        exact hind k' hk')
      have hway : Way nt g0 w0 g w a S hid (sps.getD i {} :: ((A ++ B).map fun i => sps.getD i {})) :=
        ⟨h.ext, h.rel, fun sp s hsp hss => h.held sp s (by
          rw [List.map_append] at hsp
          simp only [List.mem_cons, List.mem_append] at hsp ⊢
          rcases hsp with rfl | hsp | hsp
          · exact .inr (.inl rfl)
          · exact .inl hsp
          · exact .inr (.inr hsp)) hss⟩
      unfold wpOpIn
      rw [ho]
      dsimp only
      have hne : ∀ x ∈ A ++ B, x < ops.size ∧ x ≠ i := by
        intro x hx
        rw [← h2] at hx
        unfold unlisted at hx
        simp only [List.mem_filter, List.mem_range] at hx
        refine ⟨hx.1, fun e => ?_⟩
        subst e
        simp [Array.getD_eq_getD_getElem?, hsz, hlt] at hx
      refine hway.step hF (by rw [hgi]; exact hst i _ _ ho hs) hreq (by rw [hgi]; exact hnt _ (List.getElem_mem _)) ?_ _ Q ?_
      · intro sp' s hm' hss hss'
        obtain ⟨x, hx, rfl⟩ := List.mem_map.1 hm'
        have hx' := hne x hx
        have hsx : sps[x]? = some (sps[x]'(by omega)) := List.getElem?_eq_getElem _
        have hgx : sps.getD x {} = sps[x]'(by omega) := by simp [List.getD_eq_getElem?_getD, hsx]
        rw [hgx] at hss'
        rw [hgi] at hss
        exact hx'.2 (hsy x i _ _ s hsx hs hss' hss)
      · intro g' w' a' h'
        refine ih (listed.setIfInBounds i true) (by simpa using hsz) ?_ g' w' a' _ (by rw [h2]; exact h') (by rw [h2, List.map_append]; exact hv')
        rw [h1] at hf
        rw [h2]
        simp only [List.length_append, List.length_cons] at hf ⊢
        omega

end Go.Proofs.Ytjhecgiipajdpaa
