/- Walks of functions, each once (written by wip/gen/gen.py). -/
import Derived.Test.YtjhecgiipajdpaaSp18
set_option linter.unusedVariables false
set_option linter.unusedSimpArgs false
set_option maxRecDepth 100000
namespace Go.Proofs.Ytjhecgiipajdpaa
open Go.Proofs
theorem F27 (t : Table) (hok : t.ok) : Pure Try.prog 27 [Table.av t] (.bool ((smallB t))) := by
  intro mem
  have ⟨ht1, ht2, ht3, ht4, ht5⟩ := hok
  refine Meets.body 1 Try.func27 rfl rfl ?_
  refine AC.rseq Fr.plain mixed (fun σ0 => RegOK.mk1 [1] ⟨[(1, .ptr (σ0 0) 0)], (Ent.box (σ0 0) (Table.av t).cells) :: mem⟩ (.cons (s_box 0 (σ0 0) (.tmp 0 (Table.av t)) rfl) (.cons (s_assign (.bool false)) .nil)) (by kernel_rfl) ?_)
  refine AC.seq ?_
  refine AC.rseq Fr.plain mixed (fun σ1 => RegOK.mk1 [1, 3] ⟨[(1, .ptr (σ0 0) 0), (3, I 0)], (Ent.box (σ0 0) (Table.av t).cells) :: mem⟩ (.cons (s_assign (.int .i64 (0))) .nil) (by kernel_rfl) ?_)
  refine AC.block ?_
  refine AC.loopW (fun mz T => ∃ (i : Nat), mz = t.values.length - i ∧ ((i ≤ t.values.length) ∧ (∀ a : Nat, a < i → ∀ b : Nat, b < (t.values.getD a []).length → val t.values a b ≤ 5000)) ∧ T = ⟨[(1, .ptr (σ0 0) 0), (3, I (i : Int))], (Ent.box (σ0 0) (Table.av t).cells) :: mem⟩) _ ⟨[(1, .ptr (σ0 0) 0), (3, I ((0) : Int))], (Ent.box (σ0 0) (Table.av t).cells) :: mem⟩ ⟨0, rfl, ⟨(by omega), (by intro j hj; omega)⟩, rfl⟩ (Weak.of [] (by kernel_rfl) (by kernel_rfl)) ?_ Fr.plain
  rintro _ _ ⟨i, rfl, ⟨hi, hn⟩, rfl⟩
  refine AC.seq ?_
  refine AC.rseq Fr.plain mixed (fun σ2 => RegOK.mk1 [1, 3, 9] ⟨[(1, .ptr (σ0 0) 0), (3, I (i : Int)), (9, .bool (decide ((i : Int) < (t.values.length : Int))))], (Ent.box (σ0 0) (Table.av t).cells) :: mem⟩ (.cons (s_move (.tmp 3 (I (i : Int)))) (.cons (s_fieldAddr fld55_3 (.tmp 1 (.ptr (σ0 0) 0))) (.cons (s_load1 (cs := (Table.av t).cells) (c := .slice ((t.values).map ints) none) 0 tyS53 (.tmp 6 (.ptr (σ0 0) 3)) rfl) (.cons (s_lenM (l := t.values) slc53 (.tmp 7 (.slice ((t.values).map ints) none))) (.cons (s_lss (.tmp 5 (I (i : Int))) (.tmp 8 (I (t.values.length : Int)))) .nil))))) (by kernel_rfl) ?_)
  refine AC.cend (decide ((i : Int) < (t.values.length : Int))) rfl rfl (fun hc => ?_) (fun hc => ?_)
  · have q1 := iD.1 hc
    have r0 := ht5 _ (getD_mem (d := []) (show i < t.values.length by omega))
    refine AC.skip ?_
    refine thenQ_n ?_
    refine AC.bseq ?_
    refine AC.rseq Fr.plain mixed (fun σ4 => RegOK.mk1 [1, 3, 4] ⟨[(1, .ptr (σ0 0) 0), (3, I (i : Int)), (4, I 0)], (Ent.box (σ0 0) (Table.av t).cells) :: mem⟩ (.cons (s_assign (.int .i64 (0))) .nil) (by kernel_rfl) ?_)
    refine AC.block ?_
    refine AC.loopW (fun mz T => ∃ (k : Nat), mz = (t.values.getD i []).length - k ∧ ((k ≤ (t.values.getD i []).length) ∧ (∀ b : Nat, b < k → val t.values i b ≤ 5000)) ∧ T = ⟨[(1, .ptr (σ0 0) 0), (3, I (i : Int)), (4, I (k : Int))], (Ent.box (σ0 0) (Table.av t).cells) :: mem⟩) _ ⟨[(1, .ptr (σ0 0) 0), (3, I (i : Int)), (4, I ((0) : Int))], (Ent.box (σ0 0) (Table.av t).cells) :: mem⟩ ⟨0, rfl, ⟨(by omega), (by intro j hj; omega)⟩, rfl⟩ (Weak.of [] (by kernel_rfl) (by kernel_rfl)) ?_ Fr.plain
    rintro _ _ ⟨k, rfl, ⟨hk, hm⟩, rfl⟩
    refine AC.seq ?_
    refine AC.rseq Fr.plain mixed (fun σ5 => RegOK.mk1 [1, 3, 4, 19] ⟨[(1, .ptr (σ0 0) 0), (3, I (i : Int)), (4, I (k : Int)), (19, .bool (decide ((k : Int) < ((t.values.getD i []).length : Int))))], (Ent.box (σ0 0) (Table.av t).cells) :: mem⟩ (.cons (s_move (.tmp 4 (I (k : Int)))) (.cons (s_fieldAddr fld55_3 (.tmp 1 (.ptr (σ0 0) 0))) (.cons (s_load1 (cs := (Table.av t).cells) (c := .slice ((t.values).map ints) none) 0 tyS53 (.tmp 13 (.ptr (σ0 0) 3)) rfl) (.cons (s_move (.tmp 3 (I (i : Int)))) (.cons (s_ixM (l := t.values) (f := ints) ([]) slc53 (.tmp 14 (.slice ((t.values).map ints) none)) (.tmp 15 (I (i : Int))) (by omega) rfl) (.cons (s_load1e (c := .slice (((t.values.getD i [])).map I) none) tyS52 (.tmp 16 (.eptr (.slice (((t.values.getD i [])).map I) none) 0)) rfl) (.cons (s_lenM (l := (t.values.getD i [])) slc52 (.tmp 17 (.slice (((t.values.getD i [])).map I) none))) (.cons (s_lss (.tmp 12 (I (k : Int))) (.tmp 18 (I ((t.values.getD i []).length : Int)))) .nil)))))))) (by kernel_rfl) ?_)
    refine AC.cend (decide ((k : Int) < ((t.values.getD i []).length : Int))) rfl rfl (fun hc => ?_) (fun hc => ?_)
    · have q2 := iD.1 hc
      refine AC.skip ?_
      refine thenQ_n ?_
      refine AC.bseq ?_
      refine AC.rseq Fr.plain mixed (fun σ7 => RegOK.mk1 [1, 3, 4, 30] ⟨[(1, .ptr (σ0 0) 0), (3, I (i : Int)), (4, I (k : Int)), (30, .bool (decide (5000 < ((t.values.getD i []).getD k 0))))], (Ent.box (σ0 0) (Table.av t).cells) :: mem⟩ (.cons (s_fieldAddr fld55_3 (.tmp 1 (.ptr (σ0 0) 0))) (.cons (s_load1 (cs := (Table.av t).cells) (c := .slice ((t.values).map ints) none) 0 tyS53 (.tmp 22 (.ptr (σ0 0) 3)) rfl) (.cons (s_move (.tmp 3 (I (i : Int)))) (.cons (s_ixM (l := t.values) (f := ints) ([]) slc53 (.tmp 23 (.slice ((t.values).map ints) none)) (.tmp 24 (I (i : Int))) (by omega) rfl) (.cons (s_load1e (c := .slice (((t.values.getD i [])).map I) none) tyS52 (.tmp 25 (.eptr (.slice (((t.values.getD i [])).map I) none) 0)) rfl) (.cons (s_move (.tmp 4 (I (k : Int)))) (.cons (s_ixM (l := (t.values.getD i [])) (f := I) (0) slc52 (.tmp 26 (.slice (((t.values.getD i [])).map I) none)) (.tmp 27 (I (k : Int))) (by omega) rfl) (.cons (s_load1e (c := I ((t.values.getD i []).getD k 0)) tyS3 (.tmp 28 (.eptr (I ((t.values.getD i []).getD k 0)) 0)) rfl) (.cons (s_gtr (.tmp 29 (I ((t.values.getD i []).getD k 0))) (.int .i64 (5000))) .nil))))))))) (by kernel_rfl) ?_)
      refine AC.cend (decide (5000 < ((t.values.getD i []).getD k 0))) rfl rfl (fun hc => ?_) (fun hc => ?_)
      · have q3 := iD.1 hc
        refine AC.rseq Fr.plain mixed (fun σ8 => RegOK.mk1 [2] ⟨[(2, .bool (false))], (Ent.box (σ0 0) (Table.av t).cells) :: mem⟩ (.cons (s_assign (.bool false)) .nil) (by kernel_rfl) ?_)
        refine AC.ret ?_
        refine blockQ_r ?_
        refine thenQ_r ?_
        refine thenQ_r ?_
        refine blockQ_r ?_
        refine blockQ_r ?_
        refine thenQ_r ?_
        refine thenQ_r ?_
        refine blockQ_r ?_
        refine thenQ_r ?_
        exact FinQ.ret (result1 rfl (res_tmp (v := .bool (false)) rfl rfl)) ⟨by exact congrArg AV.bool (small_no (a := i) (b := k) (by omega) (by omega) (by unfold val; omega)).symm, rfl⟩
      · have q4 := iF iD hc
        refine AC.skip ?_
        refine blockQ_n ?_
        refine thenQ_n ?_
        refine AC.rend Fr.plain mixed (fun σ6 => RegOK.mk1 [1, 3, 4] ⟨[(1, .ptr (σ0 0) 0), (3, I (i : Int)), (4, I ((k : Int) + 1))], (Ent.box (σ0 0) (Table.av t).cells) :: mem⟩ (.cons (s_move (.tmp 4 (I (k : Int)))) (.cons (s_add (.tmp 20 (I (k : Int))) (.int .i64 (1)) (inK_i64 (by omega))) (.cons (s_assign (.tmp 21 (I ((k : Int) + 1)))) .nil))) (by kernel_rfl) ?_)
        refine thenQ_n ⟨_, ?_, _, ⟨(k + 1), rfl, ⟨(by omega), (by intro b hb; rcases Decidable.em (b = k) with e | e; (subst e; unfold val; omega); exact hm b (by omega))⟩, rfl⟩, Weak.of [] (by kernel_rfl) (by kernel_rfl)⟩
        omega
    · have q5 := iF iD hc
      refine AC.exit ?_
      refine thenQ_x ?_
      refine thenQ_x ?_
      refine blockQ_x ?_
      refine blockQ_n ?_
      refine thenQ_n ?_
      refine AC.rend Fr.plain mixed (fun σ3 => RegOK.mk1 [1, 3] ⟨[(1, .ptr (σ0 0) 0), (3, I ((i : Int) + 1))], (Ent.box (σ0 0) (Table.av t).cells) :: mem⟩ (.cons (s_move (.tmp 3 (I (i : Int)))) (.cons (s_add (.tmp 10 (I (i : Int))) (.int .i64 (1)) (inK_i64 (by omega))) (.cons (s_assign (.tmp 11 (I ((i : Int) + 1)))) .nil))) (by kernel_rfl) ?_)
      refine thenQ_n ⟨_, ?_, _, ⟨(i + 1), rfl, ⟨(by omega), (by intro a ha b hb; rcases Decidable.em (a = i) with e | e; (subst e; exact hm b (by omega)); exact hn a (by omega) b hb)⟩, rfl⟩, Weak.of [] (by kernel_rfl) (by kernel_rfl)⟩
      omega
  · have q6 := iF iD hc
    refine AC.exit ?_
    refine thenQ_x ?_
    refine thenQ_x ?_
    refine blockQ_x ?_
    refine thenQ_n ?_
    refine AC.rseq Fr.plain mixed (fun σ9 => RegOK.mk1 [2] ⟨[(2, .bool (decide (t.side ≤ 5000)))], (Ent.box (σ0 0) (Table.av t).cells) :: mem⟩ (.cons (s_fieldAddr fld55_4 (.tmp 1 (.ptr (σ0 0) 0))) (.cons (s_load1 (cs := (Table.av t).cells) (c := I t.side) 0 tyS3 (.tmp 31 (.ptr (σ0 0) 4)) rfl) (.cons (s_leq (.tmp 32 (I t.side)) (.int .i64 (5000))) (.cons (s_assign (.tmp 33 (.bool (decide (t.side ≤ 5000))))) .nil)))) (by kernel_rfl) ?_)
    refine AC.ret ?_
    exact FinQ.ret (result1 rfl (res_tmp (v := .bool (decide (t.side ≤ 5000))) rfl rfl)) ⟨by (have sa := small_all (t := t) (fun a ha b hb => hn a (by omega) b hb)); unfold smallB; rw [sa]; rfl, rfl⟩

end Go.Proofs.Ytjhecgiipajdpaa
