/- Appends onto rows of the call's own; loops by turns; strings by index; shifts. -/
import Derived.Test.YtjhecgiipajdpaaAv9
import Derived.Maps.AppendAt
set_option linter.unusedVariables false
set_option linter.unusedSimpArgs false
namespace Go.Proofs.Ytjhecgiipajdpaa
open Go.RowKit

theorem cg1 {α β : Type} (f : α → β) {a b : α} (h : a = b) : f a = f b := by rw [h]
theorem cg2 {α β γ : Type} (f : α → β → γ) {a b : α} {c d : β} (h : a = b) (k : c = d) : f a c = f b d := by rw [h, k]
theorem cg3 {α β γ δ : Type} (f : α → β → γ → δ) {a b : α} {c d : β} {x y : γ} (h : a = b) (k : c = d) (l : x = y) : f a c x = f b d y := by rw [h, k, l]
theorem cg4 {α β γ δ ε : Type} (f : α → β → γ → δ → ε) {a b : α} {c d : β} {x y : γ} {p q : δ} (h : a = b) (k : c = d) (l : x = y) (m : p = q) : f a c x p = f b d y q := by rw [h, k, l, m]

/-! ### Appends -/
def BytesT (P : Program) (e : TypeId) (b : Nat) : Prop := (P.info? e).map (·.bytes) = some b
theorem BytesT.mk {P : Program} {e : TypeId} {b : Nat} (h : (P.info? e).map (·.bytes) = some b) : BytesT P e b := h

/-- The kit's law on appends, with what is left of the old block. -/
theorem append3 {P : Program} (w : World) (base : Nat) (t ty e : TypeId) (i : TypeInfo) (z : Value) (ht : P.underlying t = some (.slice e)) (hi : P.info? e = some i) (hz : i.zero = some z)
    (hzs : z.cells.size = i.size) (hsz : 0 < i.size) (v : Value) (n : Nat) (xs : List Value) (hown : w.ownsRow base e i.size v n xs)
    (a : Addr) (m c : Nat) (news : List Value) (hl : news.length = m * i.size) (hnews : ∀ j u, news[j]? = some u → w.cell? (a.add j) = some u) (h1 : ∀ u ∈ news, u.oneCell' = true)
    (hm : 0 < m) (h63 : n + m ≤ maxLen) (hbytes : (n + m) * i.bytes ≤ 140737488355328) (hbase : base ≤ w.heap.size) :
    ∃ v' w', (Builtin.append_ #[t, t] ty #[v, .slice (some a) m c]).run P w = .ok v' w' ∧ w'.ownsRow base e i.size v' (n + m) (xs ++ news) ∧ w.grownBy w' v.ownBlock ∧
      (v'.ownBlock = v.ownBlock ∨ (v'.ownBlock = some w.heap.size ∧ ∀ k, k < w.heap.size → w'.heap[k]? = w.heap[k]?)) := by
  obtain ⟨v', w', hr, h2, h3, h4, h5⟩ := run_append_own_at (P := P) w base t ty e i z i.size i.bytes ht hi hz rfl rfl hzs hsz v n xs hown a m c news hl hnews h1 h63 hbytes hbase
  refine ⟨v', w', hr, h2, h3, ?_⟩
  rcases h5 with h5 | h5
  · exact .inl h5
  · have hsmall : n + m ≤ 9223372036854775807 := by simp only [maxLen] at h63; omega
    have old : ∀ (u : Value) (o : Obj), (Builtin.append_ #[t, t] ty #[v, .slice (some a) m c]).run P w = .ok u (w.drew.alloc o) → ∀ k, k < w.heap.size → w'.heap[k]? = w.heap[k]? := by
      intro u o hu k hk
      rw [hr] at hu
      injection hu with _ hu
      rw [hu]
      exact heap_alloc_old w.drew _ hk
    refine .inr ⟨h5, ?_⟩
    rcases hown.2 with ⟨rfl, rfl⟩ | ⟨g, cap, cur, rfl, hbg, hg, hnc, hcm, hcs, htake⟩
    · exact old _ _ (run_append_nil (P := P) w t ty e i z ht hi hz a m c news hl hnews hm (by omega) (by simp only [Nat.zero_add] at hbytes; omega))
    · by_cases hroom : n + m ≤ cap
      · exfalso
        have hfit : n * i.size + news.length ≤ cur.size := by rw [hl, hcs, ← Nat.add_mul]; exact Nat.mul_le_mul_right _ hroom
        have hr2 := run_append_room (P := P) w t ty e i ht hi g n cap cur hg a m c news hl hnews h1 hroom hfit
        rw [hr] at hr2
        injection hr2 with hv _
        subst hv
        simp only [Value.ownBlock, Option.some.injEq] at h5
        have := (Array.getElem?_eq_some_iff.1 hg).1
        omega
      · exact old _ _ (run_append_grow (P := P) w t ty e i z ht hi hz ⟨g, 0, none⟩ n cap xs hown.1 (hown.cells (g := g) rfl) a m c news hl hnews (by omega) (by omega) (growslice_fits (by omega) hbytes))

section
variable {P : Program} {ops : Array Oper} {ty : TypeId} {pos : String} {aft : Array Edge} {d : Nat}

theorem s_append {t e : TypeId} {x y : Operand} {n m sz bytes s : Nat} {z : Value} {es news : List AV} {lx ly : List (Nat × AV)} (p s' : Nat) (ht : SliceT P t e sz) (hz : Zero P e z) (hb : BytesT P e bytes) (hzc : z.cells.size = sz) (h0 : 0 < sz)
    (hx : Opd x (.slice es (some s)) lx) (hy : Opd y (.slice news none) ly) (hn : es.length = n) (hm : news.length = m) (hm0 : 0 < m) (hes : ∀ c ∈ es, c.cells.length = sz) (hnw : ∀ c ∈ news, c.cells.length = sz) (hone : ∀ c ∈ news, c.cells.all AV.one = true)
    (hbd : (n + m) * bytes ≤ 140737488355328 ∧ n + m ≤ maxLen) :
    Step P ops ⟨some d, .call { callee := .builtin .append, args := #[x, y], argTypes := #[t, t] }, ty, pos, aft, none⟩
      { rT := lx ++ ly, rM := [(p, .row s n e sz)], wT := some (d, .slice (es ++ news) (some s')), wM := some (p, .row s' (n + m) e sz), sym := some s' } :=
  Step.value rfl rfl (by simp) fun g w a mem hi hT hM hs hp => by
    have hsy := hs s' rfl
    have hX := hx g w a hT.left
    have hY := hy g w a hT.right
    obtain ⟨i, hinfo, hisz⟩ : ∃ i, P.info? e = some i ∧ i.size = sz := by
      have := ht.2
      unfold SzT at this
      cases hi' : P.info? e with
      | none => rw [hi'] at this; cases this
      | some i => rw [hi'] at this; exact ⟨i, rfl, by simpa using this⟩
    have hzero : i.zero = some z := by
      unfold Zero at hz
      rw [hinfo] at hz
      simpa using hz
    have hbytes : i.bytes = bytes := by
      unfold BytesT at hb
      rw [hinfo] at hb
      simpa using hb
    subst hisz
    subst hbytes
    have hrow := hM p _ (List.mem_singleton.2 rfl)
    obtain ⟨v0, xs, hv0, hown, himm⟩ := hi.ok _ (List.mem_of_getElem? hrow)
    generalize hux : a.eval x = ux at hX
    generalize huy : a.eval y = uy at hY
    have hvx : ux = v0 := by
      cases hX with
      | slice b o vals hl hA hsz hc hr hle how =>
        have := how s rfl
        rw [hv0] at this
        injection this with this
        exact this.symm
    subst hvx
    -- the new elements
    have hnewsY : ∃ (ad : Addr) (c : Nat) (ns : List Value), uy = .slice (some ad) m c ∧ ns.length = m * i.size ∧ (∀ (j : Nat) u, ns[j]? = some u → w.cell? (ad.add j) = some u) ∧ (∀ u, u ∈ ns → u.oneCell' = true) ∧
        ∀ (k j : Nat) (el cl : AV), news[k]? = some el → el.cells[j]? = some cl → Rep g w (ns.getD (k * i.size + j) undef) cl := by
      cases hY with
      | slice b o vals hl hA hsz hc hr hle how =>
        rename_i A len cap sz2
        have hne : news ≠ [] := fun e => by rw [e] at hm; simp at hm; omega
        have hAe := hA hne
        subst hAe
        have hsz2 : sz2 = i.size := by
          obtain ⟨c0, hc0⟩ := List.exists_mem_of_ne_nil _ hne
          rw [← hsz c0 hc0, hnw c0 hc0]
        subst hsz2
        rw [hm] at hl
        subst hl
        have at_ : ∀ j, j < m * i.size → ∃ el cl, news[j / i.size]? = some el ∧ el.cells[j % i.size]? = some cl := by
          intro j hj
          have hq : j / i.size < m := Nat.div_lt_of_lt_mul (by rw [Nat.mul_comm]; exact hj)
          have hq' : j / i.size < news.length := by omega
          refine ⟨news[j / i.size], _, List.getElem?_eq_getElem hq', List.getElem?_eq_getElem ?_⟩
          rw [hnw _ (List.getElem_mem hq')]
          exact Nat.mod_lt _ h0
        have hidx : ∀ j, j / i.size * i.size + j % i.size = j := fun j => by rw [Nat.mul_comm]; exact Nat.div_add_mod j i.size
        refine ⟨⟨b, o, none⟩, cap, (List.range (m * i.size)).map (fun j => vals (j / i.size) (j % i.size)), rfl, by simp, ?_, ?_, ?_⟩
        · intro j u hu
          rw [List.getElem?_map] at hu
          cases hr' : (List.range (m * i.size))[j]? with
          | none => rw [hr'] at hu; cases hu
          | some j' =>
            have hj := (List.getElem?_eq_some_iff.1 hr').1
            simp only [List.length_range] at hj
            rw [List.getElem?_range hj] at hr'
            injection hr' with hr'
            subst hr'
            rw [List.getElem?_range hj] at hu
            simp only [Option.map_some, Option.some.injEq] at hu
            subst hu
            obtain ⟨el, cl, h1, h2⟩ := at_ j hj
            have := (hc _ _ _ _ h1 h2).1
            rw [hidx] at this
            rw [add_addr]
            exact this
        · intro u hu
          obtain ⟨j, hj, rfl⟩ := List.mem_map.1 hu
          simp only [List.mem_range] at hj
          obtain ⟨el, cl, h1, h2⟩ := at_ j hj
          exact one_of (hr _ _ _ _ h1 h2) (List.all_eq_true.1 (hone el (List.mem_of_getElem? h1)) cl (List.mem_of_getElem? h2))
        · intro k j el cl h1 h2
          have hk : k < m := by rw [← hm]; exact (List.getElem?_eq_some_iff.1 h1).1
          have hj : j < i.size := by rw [← hnw el (List.mem_of_getElem? h1)]; exact (List.getElem?_eq_some_iff.1 h2).1
          have hlt : k * i.size + j < m * i.size := by
            have : (k + 1) * i.size ≤ m * i.size := Nat.mul_le_mul_right _ hk
            rw [Nat.add_mul] at this
            omega
          have e1 : (k * i.size + j) / i.size = k := by rw [Nat.mul_comm, Nat.mul_add_div h0, Nat.div_eq_of_lt hj, Nat.add_zero]
          have e2 : (k * i.size + j) % i.size = j := by rw [Nat.mul_comm, Nat.mul_add_mod, Nat.mod_eq_of_lt hj]
          rw [List.getD_eq_getElem?_getD, List.getElem?_map, List.getElem?_range hlt]
          simp only [Option.map_some, Option.getD_some, e1, e2]
          exact hr k el j cl h1 h2
    obtain ⟨ad, c, ns, rfl, hnsl, hnsc, hns1, hnsr⟩ := hnewsY
    obtain ⟨v', w', hrun, hown', hgr, hwhere⟩ := append3 (P := P) w g.base t ty e i z ht.1 hinfo hzero hzc h0 ux n xs hown ad m c ns hnsl hnsc hns1 hm0 hbd.2 hbd.1 hi.base
    have hxl : xs.length = n * i.size := hown.1
    -- the new value's place
    obtain ⟨g0, cap', cur', rfl, hb0, hg0, hnc', hcm', hcs', htk'⟩ : ∃ g0 cap cur, v' = .slice (some ⟨g0, 0, none⟩) (n + m) cap ∧ g.base ≤ g0 ∧ w'.heap[g0]? = some (.cells cur e (0, 0)) ∧ n + m ≤ cap ∧ cap ≤ maxLen ∧ cur.size = cap * i.size ∧ cur.toList.take ((n + m) * i.size) = xs ++ ns := by
      rcases hown'.2 with ⟨_, h⟩ | h
      · omega
      · exact h
    have hblk : (Value.slice (some ⟨g0, 0, none⟩) (n + m) cap').ownBlock = some g0 := rfl
    let g' : Gh := { g with sy := fun t => if t = s' then .val (.slice (some ⟨g0, 0, none⟩) (n + m) cap') else g.sy t, imm := fun b off => g.imm b off ∨ (b = g0 ∧ off < (n + m) * i.size) }
    have hcells : ∀ j u, (xs ++ ns)[j]? = some u → w'.cell? ⟨g0, j, none⟩ = some u := by
      intro j u hu
      have := hown'.cells hblk j u hu
      rw [add_addr, Nat.zero_add] at this
      exact this
    -- what was for ever is so
    have hsame : ∀ b off, g.imm b off → w'.cell? ⟨b, off, none⟩ = w.cell? ⟨b, off, none⟩ := by
      intro b off hbo
      have hlt := hi.lt b off hbo
      by_cases hbv : some b = ux.ownBlock
      · rcases hwhere with hw | ⟨_, hw⟩
        · have hb : b = g0 := by rw [← hw, hblk] at hbv; injection hbv
          subst hb
          have hoff : off < n * i.size := by
            rcases Nat.lt_or_ge off (n * i.size) with h | h
            · exact h
            · exact absurd hbo (himm b off hbv.symm h)
          have h1 := hown.cells hbv.symm off _ (List.getElem?_eq_getElem (by omega))
          rw [add_addr, Nat.zero_add] at h1
          rw [h1]
          exact hcells off _ (by rw [List.getElem?_append_left (by omega)]; exact List.getElem?_eq_getElem (by omega))
        · simp only [World.cell?, hw b hlt]
      · simp only [World.cell?, hgr.block b hlt hbv]
    have hstab : Stab (some s') g w g' w' := by
      refine ⟨rfl, (Below.refl _ _).grown hgr hi.base (fun k hk => (hown.lt k hk).1), fun b off hbo => ⟨.inl hbo, hsame b off hbo⟩, fun t ht' hf => ?_, fun t ht' => by injection ht' with ht'; subst ht'; exact hsy⟩
      show (if t = s' then _ else g.sy t) = g.sy t
      rw [if_neg (fun e => ht' (by rw [e]))]
    have hsy' : g'.sy s' = .val (.slice (some ⟨g0, 0, none⟩) (n + m) cap') := by show (if s' = s' then _ else _) = _; rw [if_pos rfl]
    have hother : ∀ (k : Nat) ek b, mem[k]? = some ek → k ≠ p → ek.block g = some b → b ≠ g0 ∧ w'.heap[b]? = w.heap[b]? := by
      intro k ek b hk hne hbk
      have hlt := (hi.ok ek (List.mem_of_getElem? hk)).block_lt hbk
      have hnv : some b ≠ ux.ownBlock := by
        intro e'
        refine hne (hi.apart k p ek _ b hk hrow hbk ?_)
        simp only [Ent.block, hv0, symBlock]
        exact e'.symm
      refine ⟨?_, hgr.block b hlt.2 hnv⟩
      rcases hwhere with hw | ⟨hw, _⟩
      · intro e'
        subst e'
        exact hnv (by rw [← hw, hblk])
      · rw [hblk] at hw
        injection hw with hw
        omega
    refine ⟨.slice (some ⟨g0, 0, none⟩) (n + m) cap', w', g', ?_, hstab, ?_, ?_⟩
    · simp [execOp, resolve, invoke, builtin, hux, huy, hrun]
    · refine hi.set hstab p _ ?_ ?_ ?_ (put_room hi.room)
      · intro k ek b hk hne hbk
        obtain ⟨h1, h2⟩ := hother k ek b hk hne hbk
        refine ⟨h2, fun off ho => ?_, ?_⟩
        · rcases ho with ho | ho
          · exact ho
          · exact absurd ho.1 h1
        · simp only [Ent.block, hsy', symBlock, hblk]
          intro e'
          injection e' with e'
          exact h1 e'.symm
      · refine ⟨_, xs ++ ns, hsy', hown', fun b off hb' hoff ho => ?_⟩
        rw [hblk] at hb'
        injection hb' with hb'
        subst hb'
        rcases ho with ho | ho
        · by_cases hbv : some g0 = ux.ownBlock
          · refine himm g0 off hbv.symm ?_ ho
            rw [Nat.add_mul] at hoff
            omega
          · rcases hwhere with hw | ⟨hw, _⟩
            · rw [hblk] at hw; exact hbv hw
            · rw [hblk] at hw
              injection hw with hw
              have := hi.lt _ _ ho
              omega
        · omega
      · intro b off ho
        rcases ho with ho | ho
        · exact Nat.lt_of_lt_of_le (hi.lt b off ho) hgr.size
        · rw [ho.1]; exact (Array.getElem?_eq_some_iff.1 hg0).1
    · intro d' v'' e'
      injection e' with e'
      injection e' with _ e'
      subst e'
      refine .slice g0 0 (fun k j => (xs ++ ns).getD (k * i.size + j) undef) (sz := i.size) (by simp [hn, hm]) (fun _ => rfl) ?_ ?_ ?_ hnc' (fun t ht' => by injection ht' with ht'; subst ht'; exact hsy')
      · intro el hel
        rcases List.mem_append.1 hel with h | h
        · exact hes el h
        · exact hnw el h
      · intro k el j cl h1 h2
        have hsz : el.cells.length = i.size := by
          rcases List.mem_append.1 (List.mem_of_getElem? h1) with h | h
          · exact hes el h
          · exact hnw el h
        have hj : j < i.size := by rw [← hsz]; exact (List.getElem?_eq_some_iff.1 h2).1
        have hk : k < n + m := by have := (List.getElem?_eq_some_iff.1 h1).1; rw [List.length_append] at this; omega
        have hlt : k * i.size + j < (n + m) * i.size := by
          have : (k + 1) * i.size ≤ (n + m) * i.size := Nat.mul_le_mul_right _ hk
          rw [Nat.add_mul] at this
          omega
        have hlt' : k * i.size + j < (xs ++ ns).length := by rw [List.length_append, hxl, hnsl, ← Nat.add_mul]; exact hlt
        rw [Nat.zero_add, List.getD_eq_getElem?_getD, List.getElem?_eq_getElem hlt']
        exact ⟨hcells _ _ (List.getElem?_eq_getElem hlt'), .inr ⟨rfl, hlt⟩⟩
      · intro k el j cl h1 h2
        by_cases hk : k < n
        · rw [List.getElem?_append_left (by omega)] at h1
          have hj : j < i.size := by rw [← hes el (List.mem_of_getElem? h1)]; exact (List.getElem?_eq_some_iff.1 h2).1
          have hlt : k * i.size + j < n * i.size := by
            have : (k + 1) * i.size ≤ n * i.size := Nat.mul_le_mul_right _ hk
            rw [Nat.add_mul] at this
            omega
          have hval : ∀ u, ux = u → Rep g w u (.slice es (some s)) → Rep g w (xs.getD (k * i.size + j) undef) cl := by
            intro u hu hr0
            cases hr0 with
            | slice b o vals hl hA hsz hc hr hle how =>
              rename_i A len cap sz2
              have hne : es ≠ [] := fun e => by rw [e] at h1; simp at h1
              have hAe := hA hne
              subst hAe
              have hsz2 : sz2 = i.size := by rw [← hsz el (List.mem_of_getElem? h1), hes el (List.mem_of_getElem? h1)]
              subst hsz2
              have hown0 := hown
              rw [hu] at hown0
              rcases hown0.2 with ⟨h, _⟩ | ⟨gg, cap2, cur2, h, _⟩
              · cases h
              · injection h with hAA _ _
                injection hAA with hAA
                injection hAA with hbb hoo _
                subst hbb
                subst hoo
                have hc1 := (hc k el j cl h1 h2).1
                have hc2 := hown0.cells (g := b) rfl (k * i.size + j) _ (List.getElem?_eq_getElem (by omega))
                rw [add_addr] at hc2
                rw [hc2] at hc1
                injection hc1 with hc1
                rw [List.getD_eq_getElem?_getD, List.getElem?_eq_getElem (by omega), Option.getD_some, hc1]
                exact hr k el j cl h1 h2
          have := (hval ux rfl (hux ▸ hx g w a hT.left)).stab hstab
          rw [List.getD_eq_getElem?_getD, List.getElem?_append_left (by omega), ← List.getD_eq_getElem?_getD]
          exact this
        · rw [List.getElem?_append_right (by omega)] at h1
          have := (hnsr _ j el cl h1 h2).stab hstab
          have hge : n * i.size ≤ k * i.size := Nat.mul_le_mul_right _ (by omega)
          rw [List.getD_eq_getElem?_getD, List.getElem?_append_right (by omega), ← List.getD_eq_getElem?_getD, hxl]
          have e1 : k * i.size + j - n * i.size = (k - es.length) * i.size + j := by rw [hn, Nat.sub_mul]; omega
          rw [e1]
          exact this
end
end Go.Proofs.Ytjhecgiipajdpaa
