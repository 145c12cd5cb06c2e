import Derived.Test.YtahdgadjpkcnjaaZFeedSelects2
set_option linter.unusedVariables false
set_option linter.unusedSimpArgs false
section
set_option maxRecDepth 100000
namespace Go.Proofs.Ytahdgadjpkcnjaa
open Go.Proofs
theorem F117 (n : Int) (hn : 0 ≤ n ∧ n ≤ 4611686018427387904) : Pure Try.prog 117 [I n] (I (rup n)) := by
 intro mem
 refine Meets.body 0 Try.func117 rfl rfl ?_
 refine AC.rq (fun σ0 => RegOK.m1 [0] ⟨[(0, I n)], mem⟩ (.cons (s_assign (.int .i64 (0))) .nil) ?_)
 refine AC.rq (fun σ1 => RegOK.m1 [0, 3] ⟨[(0, I n), (3, I 0)], mem⟩ (.cons (s_assign (.int .i64 (0))) .nil) ?_)
 refine AC.seq ?_
 refine AC.rq (fun σ2 => RegOK.m1 [0, 3, 4] ⟨[(0, I n), (3, I 0), (4, I 1073741824)], mem⟩ (.cons (s_assign (.int .i64 (1073741824))) .nil) ?_)
 refine AC.block ?_
 refine AC.loopW (fun mz T => ∃ (k : Nat), ∃ (b : Int), ∃ (r : Int), mz = 0 + k ∧ ((k ≤ 31) ∧ (b = bitOf k) ∧ (0 ≤ r ∧ r + 2 * b ≤ 2147483648) ∧ (rtS n k r = rtS n 31 0)) ∧ T = ⟨[(0, I n), (3, I r), (4, I b)], mem⟩) _ ⟨[(0, I n), (3, I (0)), (4, I (1073741824))], mem⟩ ⟨31, 1073741824, 0, rfl, ⟨(by omega), (by rfl), (by omega), (by rfl)⟩, rfl⟩ (Weak.of [] (by kernel_rfl) (by kernel_rfl)) ?_ Fr.plain
 rintro _ _ ⟨k, b, r, rfl, ⟨hk, hb, hr, ht⟩, rfl⟩
 refine AC.seq ?_
 refine AC.rq (fun σ3 => RegOK.m1 [0, 3, 4, 6] ⟨[(0, I n), (3, I r), (4, I b), (6, .bool (decide (0 < b)))], mem⟩ (.cons (s_move (.tmp 4 (I b))) (.cons (s_gtr (.tmp 5 (I b)) (.int .i64 (0))) .nil)) ?_)
 refine AC.cend (decide (0 < b)) rfl rfl (fun hc => ?_) (fun hc => ?_)
 ·have q1 := iD.1 hc
  have hk0 : k ≠ 0 := by
    intro e
    subst e
    rw [hb] at q1
    exact absurd q1 (by decide)
  obtain ⟨j, rfl⟩ := Nat.exists_eq_succ_of_ne_zero hk0
  have hbj : b = 2 ^ j := hb
  have hbb := bitOf_le hk
  rw [← hb] at hbb
  have m := mulN 2147483648 2147483648 (a := r + b) (b := r + b) (by omega) (by omega)
  have hh := bitOf_half j
  rw [show bitOf (j + 1) = b from hb.symm] at hh
  have hb2 := bitOf_le (k := j) (by omega)
  refine AC.skip ?_
  refine thenQ_n ?_
  refine AC.bseq ?_
  refine AC.rq (fun σ5 => RegOK.m1 [0, 3, 4, 17] ⟨[(0, I n), (3, I r), (4, I b), (17, .bool (decide (((r + b) * (r + b)) < n)))], mem⟩ (.cons (s_move (.tmp 3 (I r))) (.cons (s_move (.tmp 4 (I b))) (.cons (s_add (.tmp 9 (I r)) (.tmp 10 (I b)) (inK_i64 (by omega))) (.cons (s_move (.tmp 3 (I r))) (.cons (s_move (.tmp 4 (I b))) (.cons (s_add (.tmp 12 (I r)) (.tmp 13 (I b)) (inK_i64 (by omega))) (.cons (s_mul (.tmp 11 (I (r + b))) (.tmp 14 (I (r + b))) (inK_i64 (by omega))) (.cons (s_move (.tmp 0 (I n))) (.cons (s_lss (.tmp 15 (I ((r + b) * (r + b)))) (.tmp 16 (I n))) .nil))))))))) ?_)
  refine AC.cend (decide (((r + b) * (r + b)) < n)) rfl rfl (fun hc => ?_) (fun hc => ?_)
  ·have q2 := iD.1 hc
   refine AC.re (fun σ6 => RegOK.m1 [0, 3, 4] ⟨[(0, I n), (3, I (r + b)), (4, I b)], mem⟩ (.cons (s_move (.tmp 3 (I r))) (.cons (s_move (.tmp 4 (I b))) (.cons (s_add (.tmp 18 (I r)) (.tmp 19 (I b)) (inK_i64 (by omega))) (.cons (s_assign (.tmp 20 (I (r + b)))) .nil)))) ?_)
   refine blockQ_n ?_
   refine thenQ_n ?_
   refine AC.re (fun σ4 => RegOK.m1 [0, 3, 4] ⟨[(0, I n), (3, I (r + b)), (4, I (b.tdiv 2))], mem⟩ (.cons (s_move (.tmp 4 (I b))) (.cons (s_quo (.tmp 7 (I b)) (.int .i64 (2)) (by omega) (inK_i64 (by rw [hh]; omega))) (.cons (s_assign (.tmp 8 (I (b.tdiv 2)))) .nil))) ?_)
   refine thenQ_n ⟨_, ?_, _, ⟨j, (b.tdiv 2), (r + b), rfl, ⟨(by omega), (by exact hh), (by rw [hh]; have h2 := two_bit j; rw [show bitOf (j + 1) = b from hb.symm] at h2; omega), (by rw [← ht]; show rtS n j _ = rtS n j (if _ then _ else _); first | rw [if_pos (by rw [← hbj]; assumption), hbj] | rw [if_neg (by rw [← hbj]; assumption)])⟩, rfl⟩, Weak.of [] (by kernel_rfl) (by kernel_rfl)⟩
   omega
  ·have q3 := iF iD hc
   refine AC.skip ?_
   refine blockQ_n ?_
   refine thenQ_n ?_
   refine AC.re (fun σ4 => RegOK.m1 [0, 3, 4] ⟨[(0, I n), (3, I r), (4, I (b.tdiv 2))], mem⟩ (.cons (s_move (.tmp 4 (I b))) (.cons (s_quo (.tmp 7 (I b)) (.int .i64 (2)) (by omega) (inK_i64 (by rw [hh]; omega))) (.cons (s_assign (.tmp 8 (I (b.tdiv 2)))) .nil))) ?_)
   refine thenQ_n ⟨_, ?_, _, ⟨j, (b.tdiv 2), r, rfl, ⟨(by omega), (by exact hh), (by rw [hh]; have h2 := two_bit j; rw [show bitOf (j + 1) = b from hb.symm] at h2; omega), (by rw [← ht]; show rtS n j _ = rtS n j (if _ then _ else _); first | rw [if_pos (by rw [← hbj]; assumption), hbj] | rw [if_neg (by rw [← hbj]; assumption)])⟩, rfl⟩, Weak.of [] (by kernel_rfl) (by kernel_rfl)⟩
   omega
 ·have q4 := iF iD hc
  have hk0 : k = 0 := by
    rcases Nat.eq_zero_or_pos k with e | e
    · exact e
    · obtain ⟨j, rfl⟩ := Nat.exists_eq_succ_of_ne_zero (show k ≠ 0 by omega)
      have := bitOf_pos j
      rw [show bitOf (j + 1) = b from hb.symm] at this
      omega
  subst hk0
  have ht2 : r = rtS n 31 0 := ht
  have hb0 : b = 0 := hb
  have mm := mulN 2147483648 2147483648 (a := r) (b := r) (by omega) (by omega)
  refine AC.exit ?_
  refine thenQ_x ?_
  refine thenQ_x ?_
  refine blockQ_x ?_
  refine thenQ_n ?_
  refine AC.seq ?_
  refine AC.rq (fun σ7 => RegOK.m1 [3, 25] ⟨[(3, I r), (25, .bool (decide ((r * r) < n)))], mem⟩ (.cons (s_move (.tmp 3 (I r))) (.cons (s_move (.tmp 3 (I r))) (.cons (s_mul (.tmp 21 (I r)) (.tmp 22 (I r)) (inK_i64 (by omega))) (.cons (s_move (.tmp 0 (I n))) (.cons (s_lss (.tmp 23 (I (r * r))) (.tmp 24 (I n))) .nil))))) ?_)
  refine AC.cend (decide ((r * r) < n)) rfl rfl (fun hc => ?_) (fun hc => ?_)
  ·have q5 := iD.1 hc
   refine AC.re (fun σ8 => RegOK.m1 [3] ⟨[(3, I (r + 1))], mem⟩ (.cons (s_move (.tmp 3 (I r))) (.cons (s_add (.tmp 26 (I r)) (.int .i64 (1)) (inK_i64 (by omega))) (.cons (s_assign (.tmp 27 (I (r + 1)))) .nil))) ?_)
   refine thenQ_n ?_
   refine AC.rq (fun σ9 => RegOK.m1 [2] ⟨[(2, I (r + 1))], mem⟩ (.cons (s_move (.tmp 3 (I (r + 1)))) (.cons (s_assign (.tmp 28 (I (r + 1)))) .nil)) ?_)
   refine AC.ret ?_
   exact FinQ.ret (result1 rfl (res_tmp (v := I (r + 1)) rfl rfl)) ⟨by unfold rup; rw [← ht2]; first | rw [if_pos (by assumption)] | rw [if_neg (by assumption)], rfl⟩
  ·have q6 := iF iD hc
   refine AC.skip ?_
   refine thenQ_n ?_
   refine AC.rq (fun σ9 => RegOK.m1 [2] ⟨[(2, I r)], mem⟩ (.cons (s_move (.tmp 3 (I r))) (.cons (s_assign (.tmp 28 (I r))) .nil)) ?_)
   refine AC.ret ?_
   exact FinQ.ret (result1 rfl (res_tmp (v := I r) rfl rfl)) ⟨by unfold rup; rw [← ht2]; first | rw [if_pos (by assumption)] | rw [if_neg (by assumption)], rfl⟩
theorem F116_0 (x : Cur) (s0 : Nat) : EffR Try.prog 116 [I 0, .ptr s0 0] [Ent.box s0 (Cur.av x).cells] (.agg [I x.l0, I x.h0]) := by
 intro mem hes
 obtain ⟨p0, hm0⟩ := List.mem_iff_getElem?.1 (hes (Ent.box s0 (Cur.av x).cells) (by simp))
 refine Meets.body 1 Try.func116 rfl rfl ?_
 refine AC.rq (fun σ0 => RegOK.m1 [0, 1, 3] ⟨[(0, I 0), (1, .ptr s0 0), (3, .ptr (σ0 0) 0)], (.box (σ0 0) [I 0, I 0]) :: mem⟩ (.cons (s_alloc 0 (σ0 0) zero64) .nil) ?_)
 refine AC.rq (fun σ1 => RegOK.mk [3] ⟨[(3, .ptr (σ0 0) 0)], (.box (σ0 0) [I x.l0, I x.h0]) :: mem⟩ (.cons (s_move (.tmp 0 (I 0))) (.cons (s_indexAddrA arr45 (.tmp 1 (.ptr s0 0)) (.tmp 4 (I 0)) (by decide) (by decide)) (.cons (s_fieldAddr fld26_0 (.tmp 5 (.ptr s0 0))) (.cons (s_load1 (cs := (Cur.av x).cells) (c := I x.l0) (p0 + 1) tyS3 (.tmp 6 (.ptr s0 0)) rfl) (.cons (s_move (.tmp 0 (I 0))) (.cons (s_indexAddrA arr45 (.tmp 1 (.ptr s0 0)) (.tmp 8 (I 0)) (by decide) (by decide)) (.cons (s_fieldAddr fld26_1 (.tmp 9 (.ptr s0 0))) (.cons (s_load1 (cs := (Cur.av x).cells) (c := I x.h0) (p0 + 1) tyS3 (.tmp 10 (.ptr s0 1)) rfl) (.cons (s_buildArr (l := [I x.l0, I x.h0]) zero64 arr64 (.cons rfl (.tmp 7 (I x.l0)) (.cons rfl (.tmp 11 (I x.h0)) .nil)) rfl) (.cons (s_store (cs := [I 0, I 0]) 0 sz64 (.tmp 3 (.ptr (σ0 0) 0)) (.tmp 12 (.agg [I x.l0, I x.h0])) rfl rfl rfl (Nat.le_of_ble_eq_true rfl)) .nil)))))))))) (by kernel_rfl) (show _ = _ from cg1 (fun z0 => [z0, z0, some (Ent.box (σ0 0) [I 0, I 0])]) hm0) (by kernel_rfl) (by kernel_rfl) (by kernel_rfl) (by kernel_rfl) (by kernel_rfl) ?_)
 refine AC.ret ?_
 exact FinQ.ret (result1 rfl (res_cell (s := (σ0 0)) (cs := [I x.l0, I x.h0]) (l := [I x.l0, I x.h0]) 0 rfl rfl rfl tyA64 rfl rfl)) ⟨by rfl, rfl⟩
theorem F116_1 (x : Cur) (s0 : Nat) : EffR Try.prog 116 [I 1, .ptr s0 0] [Ent.box s0 (Cur.av x).cells] (.agg [I x.l1, I x.h1]) := by
 intro mem hes
 obtain ⟨p0, hm0⟩ := List.mem_iff_getElem?.1 (hes (Ent.box s0 (Cur.av x).cells) (by simp))
 refine Meets.body 1 Try.func116 rfl rfl ?_
 refine AC.rq (fun σ0 => RegOK.m1 [0, 1, 3] ⟨[(0, I 1), (1, .ptr s0 0), (3, .ptr (σ0 0) 0)], (.box (σ0 0) [I 0, I 0]) :: mem⟩ (.cons (s_alloc 0 (σ0 0) zero64) .nil) ?_)
 refine AC.rq (fun σ1 => RegOK.mk [3] ⟨[(3, .ptr (σ0 0) 0)], (.box (σ0 0) [I x.l1, I x.h1]) :: mem⟩ (.cons (s_move (.tmp 0 (I 1))) (.cons (s_indexAddrA arr45 (.tmp 1 (.ptr s0 0)) (.tmp 4 (I 1)) (by decide) (by decide)) (.cons (s_fieldAddr fld26_0 (.tmp 5 (.ptr s0 2))) (.cons (s_load1 (cs := (Cur.av x).cells) (c := I x.l1) (p0 + 1) tyS3 (.tmp 6 (.ptr s0 2)) rfl) (.cons (s_move (.tmp 0 (I 1))) (.cons (s_indexAddrA arr45 (.tmp 1 (.ptr s0 0)) (.tmp 8 (I 1)) (by decide) (by decide)) (.cons (s_fieldAddr fld26_1 (.tmp 9 (.ptr s0 2))) (.cons (s_load1 (cs := (Cur.av x).cells) (c := I x.h1) (p0 + 1) tyS3 (.tmp 10 (.ptr s0 3)) rfl) (.cons (s_buildArr (l := [I x.l1, I x.h1]) zero64 arr64 (.cons rfl (.tmp 7 (I x.l1)) (.cons rfl (.tmp 11 (I x.h1)) .nil)) rfl) (.cons (s_store (cs := [I 0, I 0]) 0 sz64 (.tmp 3 (.ptr (σ0 0) 0)) (.tmp 12 (.agg [I x.l1, I x.h1])) rfl rfl rfl (Nat.le_of_ble_eq_true rfl)) .nil)))))))))) (by kernel_rfl) (show _ = _ from cg1 (fun z0 => [z0, z0, some (Ent.box (σ0 0) [I 0, I 0])]) hm0) (by kernel_rfl) (by kernel_rfl) (by kernel_rfl) (by kernel_rfl) (by kernel_rfl) ?_)
 refine AC.ret ?_
 exact FinQ.ret (result1 rfl (res_cell (s := (σ0 0)) (cs := [I x.l1, I x.h1]) (l := [I x.l1, I x.h1]) 0 rfl rfl rfl tyA64 rfl rfl)) ⟨by rfl, rfl⟩
theorem F116_2 (x : Cur) (s0 : Nat) : EffR Try.prog 116 [I 2, .ptr s0 0] [Ent.box s0 (Cur.av x).cells] (.agg [I x.l2, I x.h2]) := by
 intro mem hes
 obtain ⟨p0, hm0⟩ := List.mem_iff_getElem?.1 (hes (Ent.box s0 (Cur.av x).cells) (by simp))
 refine Meets.body 1 Try.func116 rfl rfl ?_
 refine AC.rq (fun σ0 => RegOK.m1 [0, 1, 3] ⟨[(0, I 2), (1, .ptr s0 0), (3, .ptr (σ0 0) 0)], (.box (σ0 0) [I 0, I 0]) :: mem⟩ (.cons (s_alloc 0 (σ0 0) zero64) .nil) ?_)
 refine AC.rq (fun σ1 => RegOK.mk [3] ⟨[(3, .ptr (σ0 0) 0)], (.box (σ0 0) [I x.l2, I x.h2]) :: mem⟩ (.cons (s_move (.tmp 0 (I 2))) (.cons (s_indexAddrA arr45 (.tmp 1 (.ptr s0 0)) (.tmp 4 (I 2)) (by decide) (by decide)) (.cons (s_fieldAddr fld26_0 (.tmp 5 (.ptr s0 4))) (.cons (s_load1 (cs := (Cur.av x).cells) (c := I x.l2) (p0 + 1) tyS3 (.tmp 6 (.ptr s0 4)) rfl) (.cons (s_move (.tmp 0 (I 2))) (.cons (s_indexAddrA arr45 (.tmp 1 (.ptr s0 0)) (.tmp 8 (I 2)) (by decide) (by decide)) (.cons (s_fieldAddr fld26_1 (.tmp 9 (.ptr s0 4))) (.cons (s_load1 (cs := (Cur.av x).cells) (c := I x.h2) (p0 + 1) tyS3 (.tmp 10 (.ptr s0 5)) rfl) (.cons (s_buildArr (l := [I x.l2, I x.h2]) zero64 arr64 (.cons rfl (.tmp 7 (I x.l2)) (.cons rfl (.tmp 11 (I x.h2)) .nil)) rfl) (.cons (s_store (cs := [I 0, I 0]) 0 sz64 (.tmp 3 (.ptr (σ0 0) 0)) (.tmp 12 (.agg [I x.l2, I x.h2])) rfl rfl rfl (Nat.le_of_ble_eq_true rfl)) .nil)))))))))) (by kernel_rfl) (show _ = _ from cg1 (fun z0 => [z0, z0, some (Ent.box (σ0 0) [I 0, I 0])]) hm0) (by kernel_rfl) (by kernel_rfl) (by kernel_rfl) (by kernel_rfl) (by kernel_rfl) ?_)
 refine AC.ret ?_
 exact FinQ.ret (result1 rfl (res_cell (s := (σ0 0)) (cs := [I x.l2, I x.h2]) (l := [I x.l2, I x.h2]) 0 rfl rfl rfl tyA64 rfl rfl)) ⟨by rfl, rfl⟩
theorem F85 (x : Cur) (hx : x.In 40000000) : Pure Try.prog 85 [Cur.av x] (I (neut x)) := by
 intro mem
 have hx9 := hx
 unfold Cur.In at hx9
 refine Meets.body 1 Try.func85 rfl rfl ?_
 refine AC.rq (fun σ0 => RegOK.m1 [1] ⟨[(1, .ptr (σ0 0) 0)], (.box (σ0 0) (Cur.av x).cells) :: mem⟩ (.cons (s_box 0 (σ0 0) (.tmp 0 (Cur.av x)) rfl) (.cons (s_assign (.int .i64 (0))) .nil)) ?_)
 refine AC.rq (fun σ1 => RegOK.m1 [3] ⟨[(3, .func 116 [] [.ptr (σ0 0) 0])], (.box (σ0 0) (Cur.av x).cells) :: mem⟩ (.cons (s_makeFunc .nil (.cons (.tmp 1 (.ptr (σ0 0) 0)) .nil)) (.cons (s_assign (.tmp 11 (.func 116 [] [.ptr (σ0 0) 0]))) .nil)) ?_)
 refine AC.rq (fun σ2 => RegOK.m1 [3, 4] ⟨[(3, .func 116 [] [.ptr (σ0 0) 0]), (4, I 0)], (.box (σ0 0) (Cur.av x).cells) :: mem⟩ (.cons (s_assign (.int .i64 (0))) .nil) ?_)
 refine AC.seq ?_
 refine AC.rq (fun σ3 => RegOK.mkN [3, 4, 13, 14] ⟨[(3, .func 116 [] [.ptr (σ0 0) 0]), (4, I 0), (13, .agg [I x.l0, I x.h0]), (14, I 0)], (.box (σ0 0) (Cur.av x).cells) :: mem⟩ (.cons (s_move (.tmp 3 (.func 116 [] [.ptr (σ0 0) 0]))) (.cons (s_callR (r := .agg [I x.l0, I x.h0]) (es := ([Ent.box (σ0 0) (Cur.av x).cells])) (.tmp 12 (.func 116 [] [.ptr (σ0 0) 0])) (.cons (.int .i64 (0)) .nil) call116 (F116_0 x (σ0 0))) (.cons (s_move (.int .i64 (0))) .nil))) (by kernel_rfl) (by kernel_rfl) (by kernel_rfl) ⟨trivial, (fun lq => (Has.cons (List.mem_of_getElem? (i := 0) rfl) (Has.nil _))), trivial, trivial⟩ (by kernel_rfl) (by kernel_rfl) (by kernel_rfl) ?_)
 refine AC.block ?_
 refine AC.loopW (fun mz T => ∃ (i : Nat), ∃ (m : Int), mz = 2 - i ∧ ((i ≤ 2) ∧ (m = it (n1 x) i 0) ∧ (0 ≤ m ∧ m ≤ 4800000000000000)) ∧ T = ⟨[(3, .func 116 [] [.ptr (σ0 0) 0]), (4, I m), (13, .agg [I x.l0, I x.h0]), (14, I (i : Int))], (.box (σ0 0) (Cur.av x).cells) :: mem⟩) _ ⟨[(3, .func 116 [] [.ptr (σ0 0) 0]), (4, I (0)), (13, .agg [I x.l0, I x.h0]), (14, I ((0) : Int))], (.box (σ0 0) (Cur.av x).cells) :: mem⟩ ⟨0, 0, rfl, ⟨(by omega), (by rfl), (by omega)⟩, rfl⟩ (Weak.of [] (by kernel_rfl) (by kernel_rfl)) ?_ Fr.plain
 rintro _ _ ⟨i, m, rfl, ⟨hi, hm, hb⟩, rfl⟩
 refine AC.rq (fun σ4 => RegOK.m1 [3, 4, 13, 14, 15] ⟨[(3, .func 116 [] [.ptr (σ0 0) 0]), (4, I m), (13, .agg [I x.l0, I x.h0]), (14, I (i : Int)), (15, .bool (decide ((i : Int) < 2)))], (.box (σ0 0) (Cur.av x).cells) :: mem⟩ (.cons (s_lss (.tmp 14 (I (i : Int))) (.int .i64 (2))) .nil) ?_)
 refine AC.cseq (decide ((i : Int) < 2)) rfl rfl (fun hc => ?_) (fun hc => ?_)
 ·have q1 := iD.1 hc
  refine AC.skip ?_
  refine thenQ_n ?_
  refine AC.bseq ?_
  refine AC.rq (fun σ5 => RegOK.m1 [3, 4, 6, 13, 14] ⟨[(3, .func 116 [] [.ptr (σ0 0) 0]), (4, I m), (6, I (pk x.l0 x.h0 i)), (13, .agg [I x.l0, I x.h0]), (14, I (i : Int))], (.box (σ0 0) (Cur.av x).cells) :: mem⟩ (.cons (s_index1 (c := I (pk x.l0 x.h0 i)) arr64 tyS3 (.tmp 13 (.agg [I x.l0, I x.h0])) (.tmp 14 (I (i : Int))) (by omega) (by omega) (by rcases (show i = 0 ∨ i = 1 by omega) with e | e <;> subst e <;> rfl)) (.cons (s_assign (.tmp 16 (I (pk x.l0 x.h0 i)))) .nil)) ?_)
  refine AC.rq (fun σ6 => RegOK.mkN [3, 4, 6, 13, 14, 18, 19] ⟨[(3, .func 116 [] [.ptr (σ0 0) 0]), (4, I m), (6, I (pk x.l0 x.h0 i)), (13, .agg [I x.l0, I x.h0]), (14, I (i : Int)), (18, .agg [I x.l1, I x.h1]), (19, I 0)], (.box (σ0 0) (Cur.av x).cells) :: mem⟩ (.cons (s_move (.tmp 3 (.func 116 [] [.ptr (σ0 0) 0]))) (.cons (s_callR (r := .agg [I x.l1, I x.h1]) (es := ([Ent.box (σ0 0) (Cur.av x).cells])) (.tmp 17 (.func 116 [] [.ptr (σ0 0) 0])) (.cons (.int .i64 (1)) .nil) call116 (F116_1 x (σ0 0))) (.cons (s_move (.int .i64 (0))) .nil))) (by kernel_rfl) (by kernel_rfl) (by kernel_rfl) ⟨trivial, (fun lq => (Has.cons (List.mem_of_getElem? (i := 0) rfl) (Has.nil _))), trivial, trivial⟩ (by kernel_rfl) (by kernel_rfl) (by kernel_rfl) ?_)
  refine AC.block ?_
  refine AC.loopW (fun mz T => ∃ (j : Nat), ∃ (m2 : Int), mz = 2 - j ∧ ((j ≤ 2) ∧ (m2 = it (n2 x i) j m) ∧ (0 ≤ m2 ∧ m2 ≤ 4800000000000000)) ∧ T = ⟨[(3, .func 116 [] [.ptr (σ0 0) 0]), (4, I m2), (6, I (pk x.l0 x.h0 i)), (13, .agg [I x.l0, I x.h0]), (14, I (i : Int)), (18, .agg [I x.l1, I x.h1]), (19, I (j : Int))], (.box (σ0 0) (Cur.av x).cells) :: mem⟩) _ ⟨[(3, .func 116 [] [.ptr (σ0 0) 0]), (4, I (m)), (6, I (pk x.l0 x.h0 i)), (13, .agg [I x.l0, I x.h0]), (14, I (i : Int)), (18, .agg [I x.l1, I x.h1]), (19, I ((0) : Int))], (.box (σ0 0) (Cur.av x).cells) :: mem⟩ ⟨0, m, rfl, ⟨(by omega), (by rfl), (by omega)⟩, rfl⟩ (Weak.of [] (by kernel_rfl) (by kernel_rfl)) ?_ Fr.plain
  rintro _ _ ⟨j, m2, rfl, ⟨hj, hm2, hb2⟩, rfl⟩
  refine AC.rq (fun σ7 => RegOK.m1 [3, 4, 6, 13, 14, 18, 19, 20] ⟨[(3, .func 116 [] [.ptr (σ0 0) 0]), (4, I m2), (6, I (pk x.l0 x.h0 i)), (13, .agg [I x.l0, I x.h0]), (14, I (i : Int)), (18, .agg [I x.l1, I x.h1]), (19, I (j : Int)), (20, .bool (decide ((j : Int) < 2)))], (.box (σ0 0) (Cur.av x).cells) :: mem⟩ (.cons (s_lss (.tmp 19 (I (j : Int))) (.int .i64 (2))) .nil) ?_)
  refine AC.cseq (decide ((j : Int) < 2)) rfl rfl (fun hc => ?_) (fun hc => ?_)
  ·have q2 := iD.1 hc
   refine AC.skip ?_
   refine thenQ_n ?_
   refine AC.bseq ?_
   refine AC.rq (fun σ8 => RegOK.m1 [3, 4, 6, 8, 13, 14, 18, 19] ⟨[(3, .func 116 [] [.ptr (σ0 0) 0]), (4, I m2), (6, I (pk x.l0 x.h0 i)), (8, I (pk x.l1 x.h1 j)), (13, .agg [I x.l0, I x.h0]), (14, I (i : Int)), (18, .agg [I x.l1, I x.h1]), (19, I (j : Int))], (.box (σ0 0) (Cur.av x).cells) :: mem⟩ (.cons (s_index1 (c := I (pk x.l1 x.h1 j)) arr64 tyS3 (.tmp 18 (.agg [I x.l1, I x.h1])) (.tmp 19 (I (j : Int))) (by omega) (by omega) (by rcases (show j = 0 ∨ j = 1 by omega) with e | e <;> subst e <;> rfl)) (.cons (s_assign (.tmp 21 (I (pk x.l1 x.h1 j)))) .nil)) ?_)
   refine AC.rq (fun σ9 => RegOK.mkN [3, 4, 6, 8, 13, 14, 18, 19, 23, 24] ⟨[(3, .func 116 [] [.ptr (σ0 0) 0]), (4, I m2), (6, I (pk x.l0 x.h0 i)), (8, I (pk x.l1 x.h1 j)), (13, .agg [I x.l0, I x.h0]), (14, I (i : Int)), (18, .agg [I x.l1, I x.h1]), (19, I (j : Int)), (23, .agg [I x.l2, I x.h2]), (24, I 0)], (.box (σ0 0) (Cur.av x).cells) :: mem⟩ (.cons (s_move (.tmp 3 (.func 116 [] [.ptr (σ0 0) 0]))) (.cons (s_callR (r := .agg [I x.l2, I x.h2]) (es := ([Ent.box (σ0 0) (Cur.av x).cells])) (.tmp 22 (.func 116 [] [.ptr (σ0 0) 0])) (.cons (.int .i64 (2)) .nil) call116 (F116_2 x (σ0 0))) (.cons (s_move (.int .i64 (0))) .nil))) (by kernel_rfl) (by kernel_rfl) (by kernel_rfl) ⟨trivial, (fun lq => (Has.cons (List.mem_of_getElem? (i := 0) rfl) (Has.nil _))), trivial, trivial⟩ (by kernel_rfl) (by kernel_rfl) (by kernel_rfl) ?_)
   refine AC.block ?_
   refine AC.loopW (fun mz T => ∃ (k : Nat), ∃ (m3 : Int), mz = 2 - k ∧ ((k ≤ 2) ∧ (m3 = it (n3 x i j) k m2) ∧ (0 ≤ m3 ∧ m3 ≤ 4800000000000000)) ∧ T = ⟨[(3, .func 116 [] [.ptr (σ0 0) 0]), (4, I m3), (6, I (pk x.l0 x.h0 i)), (8, I (pk x.l1 x.h1 j)), (13, .agg [I x.l0, I x.h0]), (14, I (i : Int)), (18, .agg [I x.l1, I x.h1]), (19, I (j : Int)), (23, .agg [I x.l2, I x.h2]), (24, I (k : Int))], (.box (σ0 0) (Cur.av x).cells) :: mem⟩) _ ⟨[(3, .func 116 [] [.ptr (σ0 0) 0]), (4, I (m2)), (6, I (pk x.l0 x.h0 i)), (8, I (pk x.l1 x.h1 j)), (13, .agg [I x.l0, I x.h0]), (14, I (i : Int)), (18, .agg [I x.l1, I x.h1]), (19, I (j : Int)), (23, .agg [I x.l2, I x.h2]), (24, I ((0) : Int))], (.box (σ0 0) (Cur.av x).cells) :: mem⟩ ⟨0, m2, rfl, ⟨(by omega), (by rfl), (by omega)⟩, rfl⟩ (Weak.of [] (by kernel_rfl) (by kernel_rfl)) ?_ Fr.plain
   rintro _ _ ⟨k, m3, rfl, ⟨hk, hm3, hb3⟩, rfl⟩
   refine AC.rq (fun σ10 => RegOK.m1 [3, 4, 6, 8, 13, 14, 18, 19, 23, 24, 25] ⟨[(3, .func 116 [] [.ptr (σ0 0) 0]), (4, I m3), (6, I (pk x.l0 x.h0 i)), (8, I (pk x.l1 x.h1 j)), (13, .agg [I x.l0, I x.h0]), (14, I (i : Int)), (18, .agg [I x.l1, I x.h1]), (19, I (j : Int)), (23, .agg [I x.l2, I x.h2]), (24, I (k : Int)), (25, .bool (decide ((k : Int) < 2)))], (.box (σ0 0) (Cur.av x).cells) :: mem⟩ (.cons (s_lss (.tmp 24 (I (k : Int))) (.int .i64 (2))) .nil) ?_)
   refine AC.cseq (decide ((k : Int) < 2)) rfl rfl (fun hc => ?_) (fun hc => ?_)
   ·have q3 := iD.1 hc
    have p0 := pk_in i (show 0 ≤ x.l0 ∧ x.l0 ≤ 40000000 by omega) (show 0 ≤ x.h0 ∧ x.h0 ≤ 40000000 by omega)
    have p1 := pk_in j (show 0 ≤ x.l1 ∧ x.l1 ≤ 40000000 by omega) (show 0 ≤ x.h1 ∧ x.h1 ≤ 40000000 by omega)
    have p2 := pk_in k (show 0 ≤ x.l2 ∧ x.l2 ≤ 40000000 by omega) (show 0 ≤ x.h2 ∧ x.h2 ≤ 40000000 by omega)
    have m0 := mulB 40000000 40000000 (a := pk x.l0 x.h0 i - pk x.l1 x.h1 j) (b := pk x.l0 x.h0 i - pk x.l1 x.h1 j) (by omega) (by omega)
    have m1 := mulB 40000000 40000000 (a := pk x.l1 x.h1 j - pk x.l2 x.h2 k) (b := pk x.l1 x.h1 j - pk x.l2 x.h2 k) (by omega) (by omega)
    have m2 := mulB 40000000 40000000 (a := pk x.l2 x.h2 k - pk x.l0 x.h0 i) (b := pk x.l2 x.h2 k - pk x.l0 x.h0 i) (by omega) (by omega)
    have hq := nq_half (pk x.l0 x.h0 i) (pk x.l1 x.h1 j) (pk x.l2 x.h2 k)
    have hQ := nq_bound hx (i := i) (j := j) (k := k)
    unfold nq at hQ
    refine AC.skip ?_
    refine thenQ_n ?_
    refine AC.bseq ?_
    refine AC.rq (fun σ11 => RegOK.m1 [3, 4, 6, 8, 10, 13, 14, 18, 19, 23, 24] ⟨[(3, .func 116 [] [.ptr (σ0 0) 0]), (4, I m3), (6, I (pk x.l0 x.h0 i)), (8, I (pk x.l1 x.h1 j)), (10, I (pk x.l2 x.h2 k)), (13, .agg [I x.l0, I x.h0]), (14, I (i : Int)), (18, .agg [I x.l1, I x.h1]), (19, I (j : Int)), (23, .agg [I x.l2, I x.h2]), (24, I (k : Int))], (.box (σ0 0) (Cur.av x).cells) :: mem⟩ (.cons (s_index1 (c := I (pk x.l2 x.h2 k)) arr64 tyS3 (.tmp 23 (.agg [I x.l2, I x.h2])) (.tmp 24 (I (k : Int))) (by omega) (by omega) (by rcases (show k = 0 ∨ k = 1 by omega) with e | e <;> subst e <;> rfl)) (.cons (s_assign (.tmp 26 (I (pk x.l2 x.h2 k)))) .nil)) ?_)
    refine AC.re (fun σ12 => RegOK.m1 [3, 4, 6, 8, 13, 14, 18, 19, 23, 24] ⟨[(3, .func 116 [] [.ptr (σ0 0) 0]), (4, I (max m3 ((((((pk x.l0 x.h0 i) - (pk x.l1 x.h1 j)) * ((pk x.l0 x.h0 i) - (pk x.l1 x.h1 j))) + (((pk x.l1 x.h1 j) - (pk x.l2 x.h2 k)) * ((pk x.l1 x.h1 j) - (pk x.l2 x.h2 k)))) + (((pk x.l2 x.h2 k) - (pk x.l0 x.h0 i)) * ((pk x.l2 x.h2 k) - (pk x.l0 x.h0 i)))).tdiv 2))), (6, I (pk x.l0 x.h0 i)), (8, I (pk x.l1 x.h1 j)), (13, .agg [I x.l0, I x.h0]), (14, I (i : Int)), (18, .agg [I x.l1, I x.h1]), (19, I (j : Int)), (23, .agg [I x.l2, I x.h2]), (24, I (k : Int))], (.box (σ0 0) (Cur.av x).cells) :: mem⟩ (.cons (s_move (.tmp 4 (I m3))) (.cons (s_move (.tmp 6 (I (pk x.l0 x.h0 i)))) (.cons (s_move (.tmp 8 (I (pk x.l1 x.h1 j)))) (.cons (s_sub (.tmp 28 (I (pk x.l0 x.h0 i))) (.tmp 29 (I (pk x.l1 x.h1 j))) (inK_i64 (by omega))) (.cons (s_move (.tmp 6 (I (pk x.l0 x.h0 i)))) (.cons (s_move (.tmp 8 (I (pk x.l1 x.h1 j)))) (.cons (s_sub (.tmp 31 (I (pk x.l0 x.h0 i))) (.tmp 32 (I (pk x.l1 x.h1 j))) (inK_i64 (by omega))) (.cons (s_mul (.tmp 30 (I ((pk x.l0 x.h0 i) - (pk x.l1 x.h1 j)))) (.tmp 33 (I ((pk x.l0 x.h0 i) - (pk x.l1 x.h1 j)))) (inK_i64 (by omega))) (.cons (s_move (.tmp 8 (I (pk x.l1 x.h1 j)))) (.cons (s_move (.tmp 10 (I (pk x.l2 x.h2 k)))) (.cons (s_sub (.tmp 35 (I (pk x.l1 x.h1 j))) (.tmp 36 (I (pk x.l2 x.h2 k))) (inK_i64 (by omega))) (.cons (s_move (.tmp 8 (I (pk x.l1 x.h1 j)))) (.cons (s_move (.tmp 10 (I (pk x.l2 x.h2 k)))) (.cons (s_sub (.tmp 38 (I (pk x.l1 x.h1 j))) (.tmp 39 (I (pk x.l2 x.h2 k))) (inK_i64 (by omega))) (.cons (s_mul (.tmp 37 (I ((pk x.l1 x.h1 j) - (pk x.l2 x.h2 k)))) (.tmp 40 (I ((pk x.l1 x.h1 j) - (pk x.l2 x.h2 k)))) (inK_i64 (by omega))) (.cons (s_add (.tmp 34 (I (((pk x.l0 x.h0 i) - (pk x.l1 x.h1 j)) * ((pk x.l0 x.h0 i) - (pk x.l1 x.h1 j))))) (.tmp 41 (I (((pk x.l1 x.h1 j) - (pk x.l2 x.h2 k)) * ((pk x.l1 x.h1 j) - (pk x.l2 x.h2 k))))) (inK_i64 (by omega))) (.cons (s_move (.tmp 10 (I (pk x.l2 x.h2 k)))) (.cons (s_move (.tmp 6 (I (pk x.l0 x.h0 i)))) (.cons (s_sub (.tmp 43 (I (pk x.l2 x.h2 k))) (.tmp 44 (I (pk x.l0 x.h0 i))) (inK_i64 (by omega))) (.cons (s_move (.tmp 10 (I (pk x.l2 x.h2 k)))) (.cons (s_move (.tmp 6 (I (pk x.l0 x.h0 i)))) (.cons (s_sub (.tmp 46 (I (pk x.l2 x.h2 k))) (.tmp 47 (I (pk x.l0 x.h0 i))) (inK_i64 (by omega))) (.cons (s_mul (.tmp 45 (I ((pk x.l2 x.h2 k) - (pk x.l0 x.h0 i)))) (.tmp 48 (I ((pk x.l2 x.h2 k) - (pk x.l0 x.h0 i)))) (inK_i64 (by omega))) (.cons (s_add (.tmp 42 (I ((((pk x.l0 x.h0 i) - (pk x.l1 x.h1 j)) * ((pk x.l0 x.h0 i) - (pk x.l1 x.h1 j))) + (((pk x.l1 x.h1 j) - (pk x.l2 x.h2 k)) * ((pk x.l1 x.h1 j) - (pk x.l2 x.h2 k)))))) (.tmp 49 (I (((pk x.l2 x.h2 k) - (pk x.l0 x.h0 i)) * ((pk x.l2 x.h2 k) - (pk x.l0 x.h0 i))))) (inK_i64 (by omega))) (.cons (s_quo (.tmp 50 (I (((((pk x.l0 x.h0 i) - (pk x.l1 x.h1 j)) * ((pk x.l0 x.h0 i) - (pk x.l1 x.h1 j))) + (((pk x.l1 x.h1 j) - (pk x.l2 x.h2 k)) * ((pk x.l1 x.h1 j) - (pk x.l2 x.h2 k)))) + (((pk x.l2 x.h2 k) - (pk x.l0 x.h0 i)) * ((pk x.l2 x.h2 k) - (pk x.l0 x.h0 i)))))) (.int .i64 (2)) (by omega) (inK_i64 (by rw [hq]; omega))) (.cons (s_maxF (x := m3) (l := [((((((pk x.l0 x.h0 i) - (pk x.l1 x.h1 j)) * ((pk x.l0 x.h0 i) - (pk x.l1 x.h1 j))) + (((pk x.l1 x.h1 j) - (pk x.l2 x.h2 k)) * ((pk x.l1 x.h1 j) - (pk x.l2 x.h2 k)))) + (((pk x.l2 x.h2 k) - (pk x.l0 x.h0 i)) * ((pk x.l2 x.h2 k) - (pk x.l0 x.h0 i)))).tdiv 2)]) (.cons (.tmp 27 (I m3)) (.cons (.tmp 51 (I ((((((pk x.l0 x.h0 i) - (pk x.l1 x.h1 j)) * ((pk x.l0 x.h0 i) - (pk x.l1 x.h1 j))) + (((pk x.l1 x.h1 j) - (pk x.l2 x.h2 k)) * ((pk x.l1 x.h1 j) - (pk x.l2 x.h2 k)))) + (((pk x.l2 x.h2 k) - (pk x.l0 x.h0 i)) * ((pk x.l2 x.h2 k) - (pk x.l0 x.h0 i)))).tdiv 2))) .nil))) (.cons (s_assign (.tmp 52 (I (max m3 ((((((pk x.l0 x.h0 i) - (pk x.l1 x.h1 j)) * ((pk x.l0 x.h0 i) - (pk x.l1 x.h1 j))) + (((pk x.l1 x.h1 j) - (pk x.l2 x.h2 k)) * ((pk x.l1 x.h1 j) - (pk x.l2 x.h2 k)))) + (((pk x.l2 x.h2 k) - (pk x.l0 x.h0 i)) * ((pk x.l2 x.h2 k) - (pk x.l0 x.h0 i)))).tdiv 2))))) .nil))))))))))))))))))))))))))) ?_)
    refine blockQ_n ?_
    refine thenQ_n ?_
    refine AC.re (fun σ13 => RegOK.m1 [3, 4, 6, 8, 13, 14, 18, 19, 23, 24] ⟨[(3, .func 116 [] [.ptr (σ0 0) 0]), (4, I (max m3 ((((((pk x.l0 x.h0 i) - (pk x.l1 x.h1 j)) * ((pk x.l0 x.h0 i) - (pk x.l1 x.h1 j))) + (((pk x.l1 x.h1 j) - (pk x.l2 x.h2 k)) * ((pk x.l1 x.h1 j) - (pk x.l2 x.h2 k)))) + (((pk x.l2 x.h2 k) - (pk x.l0 x.h0 i)) * ((pk x.l2 x.h2 k) - (pk x.l0 x.h0 i)))).tdiv 2))), (6, I (pk x.l0 x.h0 i)), (8, I (pk x.l1 x.h1 j)), (13, .agg [I x.l0, I x.h0]), (14, I (i : Int)), (18, .agg [I x.l1, I x.h1]), (19, I (j : Int)), (23, .agg [I x.l2, I x.h2]), (24, I ((k : Int) + 1))], (.box (σ0 0) (Cur.av x).cells) :: mem⟩ (.cons (s_add (.tmp 24 (I (k : Int))) (.int .i64 (1)) (inK_i64 (by omega))) (.cons (s_move (.tmp 53 (I ((k : Int) + 1)))) .nil)) ?_)
    refine thenQ_n ⟨_, ?_, _, ⟨(k + 1), (max m3 ((((((pk x.l0 x.h0 i) - (pk x.l1 x.h1 j)) * ((pk x.l0 x.h0 i) - (pk x.l1 x.h1 j))) + (((pk x.l1 x.h1 j) - (pk x.l2 x.h2 k)) * ((pk x.l1 x.h1 j) - (pk x.l2 x.h2 k)))) + (((pk x.l2 x.h2 k) - (pk x.l0 x.h0 i)) * ((pk x.l2 x.h2 k) - (pk x.l0 x.h0 i)))).tdiv 2)), rfl, ⟨(by omega), (by rw [hq, hm3]; rfl), (by omega)⟩, rfl⟩, Weak.of [] (by kernel_rfl) (by kernel_rfl)⟩
    omega
   ·have q4 := iF iD hc
    refine AC.exit ?_
    refine thenQ_x ?_
    refine thenQ_x ?_
    refine blockQ_x ?_
    refine blockQ_n ?_
    refine thenQ_n ?_
    refine AC.re (fun σ14 => RegOK.m1 [3, 4, 6, 13, 14, 18, 19] ⟨[(3, .func 116 [] [.ptr (σ0 0) 0]), (4, I m3), (6, I (pk x.l0 x.h0 i)), (13, .agg [I x.l0, I x.h0]), (14, I (i : Int)), (18, .agg [I x.l1, I x.h1]), (19, I ((j : Int) + 1))], (.box (σ0 0) (Cur.av x).cells) :: mem⟩ (.cons (s_add (.tmp 19 (I (j : Int))) (.int .i64 (1)) (inK_i64 (by omega))) (.cons (s_move (.tmp 54 (I ((j : Int) + 1)))) .nil)) ?_)
    refine thenQ_n ⟨_, ?_, _, ⟨(j + 1), m3, rfl, ⟨(by omega), (by (have e : k = 2 := by omega); subst e; rw [hm3, hm2]; rfl), (by omega)⟩, rfl⟩, Weak.of [] (by kernel_rfl) (by kernel_rfl)⟩
    omega
  ·have q5 := iF iD hc
   refine AC.exit ?_
   refine thenQ_x ?_
   refine thenQ_x ?_
   refine blockQ_x ?_
   refine blockQ_n ?_
   refine thenQ_n ?_
   refine AC.re (fun σ15 => RegOK.m1 [3, 4, 13, 14] ⟨[(3, .func 116 [] [.ptr (σ0 0) 0]), (4, I m2), (13, .agg [I x.l0, I x.h0]), (14, I ((i : Int) + 1))], (.box (σ0 0) (Cur.av x).cells) :: mem⟩ (.cons (s_add (.tmp 14 (I (i : Int))) (.int .i64 (1)) (inK_i64 (by omega))) (.cons (s_move (.tmp 55 (I ((i : Int) + 1)))) .nil)) ?_)
   refine thenQ_n ⟨_, ?_, _, ⟨(i + 1), m2, rfl, ⟨(by omega), (by (have e : j = 2 := by omega); subst e; rw [hm2, hm]; rfl), (by omega)⟩, rfl⟩, Weak.of [] (by kernel_rfl) (by kernel_rfl)⟩
   omega
 ·have q6 := iF iD hc
  refine AC.exit ?_
  refine thenQ_x ?_
  refine thenQ_x ?_
  refine blockQ_x ?_
  refine thenQ_n ?_
  refine AC.rq (fun σ16 => RegOK.m1 [2] ⟨[(2, I (rup m))], (.box (σ0 0) (Cur.av x).cells) :: mem⟩ (.cons (s_move (.tmp 4 (I m))) (.cons (s_call (r := I (rup m)) (.func 117) (.cons (.tmp 56 (I m)) .nil) call117 (F117 (m) (by omega))) (.cons (s_assign (.tmp 57 (I (rup m)))) .nil))) ?_)
  refine AC.ret ?_
  exact FinQ.ret (result1 rfl (res_tmp (v := I (rup m)) rfl rfl)) ⟨by (have e : i = 2 := by omega); subst e; rw [hm]; rfl, rfl⟩
end Go.Proofs.Ytahdgadjpkcnjaa
end
section
set_option maxRecDepth 100000
namespace Go.Proofs.Ytahdgadjpkcnjaa
open Go.Proofs
theorem F95 (f : Feeder) (g : FG f) (c : Nat) (hcc : c < f.nodes.length) : MeetsNew Try.prog 95 [Feeder.av f, I (c : Int)] (fun r new => ∃ s0 s1 : Nat, r = .func 123 [] [.ptr s1 0, .ptr s0 0] ∧ new = [Ent.box s0 (Feeder.av f).cells, Ent.box s1 [I ((nd f.nodes c 0 : Nat) : Int)]]) := by
 refine MeetsNew.body 2 Try.func95 rfl rfl ?_
 intro mem
 refine AC.rq (fun σ0 => RegOK.m1 [2, 3] ⟨[(2, .ptr (σ0 0) 0), (3, .ptr (σ0 1) 0)], (.box (σ0 0) (fc f)) :: (.box (σ0 1) [I (c : Int)]) :: mem⟩ (.cons (s_box 0 (σ0 0) (.tmp 0 (Feeder.av f)) rfl) (.cons (s_box 1 (σ0 1) (.tmp 1 (I (c : Int))) rfl) (.cons (s_assign (.any _)) .nil))) ?_)
 refine AC.rq (fun σ1 => RegOK.m1 [4] ⟨[(4, .func 123 [] [.ptr (σ0 1) 0, .ptr (σ0 0) 0])], (.box (σ0 0) (fc f)) :: (.box (σ0 1) [I (c : Int)]) :: mem⟩ (.cons (s_makeFunc .nil (.cons (.tmp 3 (.ptr (σ0 1) 0)) (.cons (.tmp 2 (.ptr (σ0 0) 0)) .nil))) (.cons (s_assign (.tmp 5 (.func 123 [] [.ptr (σ0 1) 0, .ptr (σ0 0) 0]))) .nil)) ?_)
 refine AC.ret ?_
 exact FinQ.ret (result1 rfl (res_tmp (v := .func 123 [] [.ptr (σ0 1) 0, .ptr (σ0 0) 0]) rfl rfl)) ⟨[Ent.box (σ0 0) (fc f), Ent.box (σ0 1) [I (c : Int)]], rfl, _, _, rfl, by rw [nd_zero g.tree hcc]⟩
theorem F123 (f : Feeder) (g : FG f) (c : Nat) (hcc : c < f.nodes.length) (s1 s2 y : Nat) (M : Nat → Nat → List Ent)
    (hM : ∀ j x, j < (anc f.nodes c).length → Yields Try.prog y [I ((nd f.nodes c j : Nat) : Int)] ((Ent.box s1 [I ((nd f.nodes c j : Nat) : Int)]) :: (Ent.box s2 (fc f)) :: M j x) (fun r m' => r = .bool true ∧ ∃ z, m' = (Ent.box s1 [I ((nd f.nodes c j : Nat) : Int)]) :: (Ent.box s2 (fc f)) :: M (j + 1) z)) (x0 : Nat) :
    MeetsT Try.prog 123 [.yieldf y, .ptr s1 0, .ptr s2 0] ((Ent.box s1 [I ((nd f.nodes c 0 : Nat) : Int)]) :: (Ent.box s2 (fc f)) :: M 0 x0) (fun r m' => r = .tuple [] ∧ ∃ z, m' = (Ent.box s1 [I ((nd f.nodes c (anc f.nodes c).length : Nat) : Int)]) :: (Ent.box s2 (fc f)) :: M (anc f.nodes c).length z) := by
 intro tl
 refine Meets.body 0 Try.func123 rfl rfl ?_
 refine AC.block ?_
 refine AC.loopW (fun mz T => ∃ (j : Nat), ∃ (x : Nat), mz = (anc f.nodes c).length - j ∧ ((j ≤ (anc f.nodes c).length)) ∧ T = ⟨[(0, .yieldf y), (1, .ptr s1 0), (2, .ptr s2 0)], (.box s1 [I ((nd f.nodes c j : Nat) : Int)]) :: (.box s2 (fc f)) :: (M j x ++ tl)⟩) _ ⟨[(0, .yieldf y), (1, .ptr s1 0), (2, .ptr s2 0)], (.box s1 [I ((nd f.nodes c (0) : Nat) : Int)]) :: (.box s2 (fc f)) :: (M (0) (x0) ++ tl)⟩ ⟨0, x0, rfl, (by omega), rfl⟩ (Weak.of [] (by kernel_rfl) (by kernel_rfl)) ?_ Fr.plain
 rintro _ _ ⟨j, x, rfl, hj, rfl⟩
 have hnp := nd_pos g.tree hcc hj
 refine AC.seq ?_
 refine AC.seq (RunL.region ?_)
 refine RunL.chunk Fr.plain 5 (fun σ0_0 => RegOKL.m1 [0, 1, 2, 6, 7, 8] ⟨[(0, .yieldf y), (1, .ptr s1 0), (2, .ptr s2 0), (6, .bool (decide (0 < ((nd f.nodes c j : Nat) : Int)))), (7, .cond (decide (0 < ((nd f.nodes c j : Nat) : Int))) (.yieldf y)), (8, .cond (decide (0 < ((nd f.nodes c j : Nat) : Int))) (I ((nd f.nodes c j : Nat) : Int)))], (.box s1 [I ((nd f.nodes c j : Nat) : Int)]) :: (.box s2 (fc f)) :: (M j x ++ tl)⟩ (.cons (s_load1 (cs := [I ((nd f.nodes c j : Nat) : Int)]) (c := I ((nd f.nodes c j : Nat) : Int)) 0 tyS3 (.tmp 1 (.ptr s1 0)) rfl) (.cons (s_gtr (.tmp 4 (I ((nd f.nodes c j : Nat) : Int))) (.int .i64 (0))) (.cons (s_move (.tmp 5 (.bool (decide (0 < ((nd f.nodes c j : Nat) : Int)))))) (.cons (Step.guard _ rfl (.bool (decide (0 < ((nd f.nodes c j : Nat) : Int)))) gT (fun hb => s_move (.tmp 0 (.yieldf y)))) (.cons (Step.guard _ rfl (.bool (decide (0 < ((nd f.nodes c j : Nat) : Int)))) gT (fun hb => s_load1 (cs := [I ((nd f.nodes c j : Nat) : Int)]) (c := I ((nd f.nodes c j : Nat) : Int)) 0 tyS3 (.tmp 1 (.ptr s1 0)) rfl)) .nil))))) ?_)
 refine RunL.cases (decide (0 < ((nd f.nodes c j : Nat) : Int))) (fun hb => ?_) (fun hb => ?_)
 ·have qb := iD.1 hb
  refine RunL.yield Fr.plain [] ((Ent.box s1 [I ((nd f.nodes c j : Nat) : Int)]) :: (Ent.box s2 (fc f)) :: M j x) tl rfl (.tmpC hb 7 (.yieldf y)) (.cons (.tmpC hb 8 (I ((nd f.nodes c j : Nat) : Int))) .nil) ⟨by kernel_rfl, by kernel_rfl⟩ (fun _ _ _ _ hr => want_gd rfl rfl rfl hb hr) (hM j x ((nd_pos g.tree hcc hj).1.1 (by omega))) ?_
  rintro _ _ ⟨rfl, z, rfl⟩
  refine RunL.chunk Fr.plain 1 (fun σ0_6 => RegOKL.m1 [0, 1, 2, 10] ⟨[(0, .yieldf y), (1, .ptr s1 0), (2, .ptr s2 0), (10, .bool (decide (0 < ((nd f.nodes c j : Nat) : Int))))], (.box s1 [I ((nd f.nodes c j : Nat) : Int)]) :: (.box s2 (fc f)) :: (M (j + 1) z ++ tl)⟩ (.cons (s_andT (.tmp 6 (.bool (decide (0 < ((nd f.nodes c j : Nat) : Int))))) (.tmp 9 (.bool (true)))) .nil) ?_)
  refine RunL.nil (thenQ_n ?_)
  refine AC.cend (decide (0 < ((nd f.nodes c j : Nat) : Int))) rfl rfl (fun hc => ?_) (fun hc => ?_)
  ·have q1 := iD.1 hc
   refine AC.skip ?_
   refine thenQ_n ?_
   refine AC.bseq ?_
   refine AC.skip ?_
   refine blockQ_n ?_
   refine thenQ_n ?_
   refine AC.re (fun σ1 => RegOK.m1 [0, 1, 2] ⟨[(0, .yieldf y), (1, .ptr s1 0), (2, .ptr s2 0)], (.box s1 [I ((f.nodes.getD (nd f.nodes c j) default).parent)]) :: (.box s2 (fc f)) :: (M (j + 1) z ++ tl)⟩ (.cons (s_fieldAddr fld28_2 (.tmp 2 (.ptr s2 0))) (.cons (s_load1 (cs := (fc f)) (c := .slice ((f.nodes).map Node.av) none) 1 tyS24 (.tmp 11 (.ptr s2 2)) rfl) (.cons (s_load1 (cs := [I ((nd f.nodes c j : Nat) : Int)]) (c := I ((nd f.nodes c j : Nat) : Int)) 0 tyS3 (.tmp 1 (.ptr s1 0)) rfl) (.cons (s_ixM (l := f.nodes) (f := Node.av) (default) slc24 (.tmp 12 (.slice ((f.nodes).map Node.av) none)) (.tmp 13 (I ((nd f.nodes c j : Nat) : Int))) (by omega) rfl) (.cons (s_fieldAddre fld47_1 (.tmp 14 (.eptr (Node.av (f.nodes.getD (nd f.nodes c j) default)) 0))) (.cons (s_load1e (c := I ((f.nodes.getD (nd f.nodes c j) default).parent)) tyS3 (.tmp 15 (.eptr (Node.av (f.nodes.getD (nd f.nodes c j) default)) 1)) rfl) (.cons (s_store (cs := [I ((nd f.nodes c j : Nat) : Int)]) 0 sz3 (.tmp 1 (.ptr s1 0)) (.tmp 16 (I ((f.nodes.getD (nd f.nodes c j) default).parent))) rfl rfl rfl (Nat.le_of_ble_eq_true rfl)) .nil))))))) ?_)
   refine thenQ_n ⟨_, ?_, _, ⟨(j + 1), z, rfl, (by have := (nd_pos g.tree hcc hj).1.1; omega), rfl⟩, Weak.of [] (by kernel_rfl) (by first | (rw [nd_up g.tree hcc (by omega)]; rfl) | (exfalso; omega))⟩
   have := (nd_pos g.tree hcc hj).1.1; omega
  ·have q2 := iF iD hc
   refine AC.exit ?_
   refine thenQ_x ?_
   refine thenQ_x ?_
   refine blockQ_x ?_
   exact FinQ.normal (result0 rfl ) (False.elim (by omega))
 ·have qb := iF iD hb
  refine RunL.skip Fr.plain (.bool true) hb (fun _ _ _ _ hr => unwant_gd rfl rfl rfl hb hr) ?_
  refine RunL.chunk Fr.plain 1 (fun σ0_6 => RegOKL.m1 [0, 1, 2, 10] ⟨[(0, .yieldf y), (1, .ptr s1 0), (2, .ptr s2 0), (10, .bool ((decide (0 < ((nd f.nodes c j : Nat) : Int)) && true)))], (.box s1 [I ((nd f.nodes c j : Nat) : Int)]) :: (.box s2 (fc f)) :: (M j x ++ tl)⟩ (.cons (s_and' (q := true) (fun h => h) (.tmp 6 (.bool (decide (0 < ((nd f.nodes c j : Nat) : Int)))))) .nil) ?_)
  refine RunL.nil (thenQ_n ?_)
  refine AC.cend ((decide (0 < ((nd f.nodes c j : Nat) : Int)) && true)) rfl rfl (fun hc => ?_) (fun hc => ?_)
  ·have q3 := (iA iD iB).1 hc
   refine AC.skip ?_
   refine thenQ_n ?_
   refine AC.bseq ?_
   refine AC.skip ?_
   refine blockQ_n ?_
   refine thenQ_n ?_
   refine AC.re (fun σ1 => RegOK.m1 [0, 1, 2] ⟨[(0, .yieldf y), (1, .ptr s1 0), (2, .ptr s2 0)], (.box s1 [I ((f.nodes.getD (nd f.nodes c j) default).parent)]) :: (.box s2 (fc f)) :: (M j x ++ tl)⟩ (.cons (s_fieldAddr fld28_2 (.tmp 2 (.ptr s2 0))) (.cons (s_load1 (cs := (fc f)) (c := .slice ((f.nodes).map Node.av) none) 1 tyS24 (.tmp 11 (.ptr s2 2)) rfl) (.cons (s_load1 (cs := [I ((nd f.nodes c j : Nat) : Int)]) (c := I ((nd f.nodes c j : Nat) : Int)) 0 tyS3 (.tmp 1 (.ptr s1 0)) rfl) (.cons (s_ixM (l := f.nodes) (f := Node.av) (default) slc24 (.tmp 12 (.slice ((f.nodes).map Node.av) none)) (.tmp 13 (I ((nd f.nodes c j : Nat) : Int))) (by omega) rfl) (.cons (s_fieldAddre fld47_1 (.tmp 14 (.eptr (Node.av (f.nodes.getD (nd f.nodes c j) default)) 0))) (.cons (s_load1e (c := I ((f.nodes.getD (nd f.nodes c j) default).parent)) tyS3 (.tmp 15 (.eptr (Node.av (f.nodes.getD (nd f.nodes c j) default)) 1)) rfl) (.cons (s_store (cs := [I ((nd f.nodes c j : Nat) : Int)]) 0 sz3 (.tmp 1 (.ptr s1 0)) (.tmp 16 (I ((f.nodes.getD (nd f.nodes c j) default).parent))) rfl rfl rfl (Nat.le_of_ble_eq_true rfl)) .nil))))))) ?_)
   refine thenQ_n ⟨_, ?_, _, ⟨(j + 1), x, rfl, (by have := (nd_pos g.tree hcc hj).1.1; omega), rfl⟩, Weak.of [] (by kernel_rfl) (by first | (rw [nd_up g.tree hcc (by omega)]; rfl) | (exfalso; omega))⟩
   have := (nd_pos g.tree hcc hj).1.1; omega
  ·have q4 := iF (iA iD iB) hc
   refine AC.exit ?_
   refine thenQ_x ?_
   refine thenQ_x ?_
   refine blockQ_x ?_
   exact FinQ.normal (result0 rfl ) ⟨(Ent.box s1 [I ((nd f.nodes c j : Nat) : Int)]) :: (Ent.box s2 (fc f)) :: (M j x), rfl, rfl, x, by (have e : j = (anc f.nodes c).length := by omega); subst e; rfl⟩
end Go.Proofs.Ytahdgadjpkcnjaa
end
section
set_option maxRecDepth 100000
namespace Go.Proofs.Ytahdgadjpkcnjaa
open Go.Proofs
theorem F78 (f : Feeder) (g : FG f) (c : Nat) (hcc : c < f.nodes.length) (p : Int) (hp : 0 ≤ p ∧ p ≤ 2) : Pure Try.prog 78 [Feeder.av f, I (c : Int), I p] (I (dropOf f p c)) := by
 intro mem
 refine Meets.body 9 Try.func78 rfl rfl ?_
 refine AC.rq (fun σ0 => RegOK.m1 [1, 3, 5] ⟨[(1, I (c : Int)), (3, .ptr (σ0 0) 0), (5, .ptr (σ0 1) 0)], (.box (σ0 0) (fc f)) :: (.box (σ0 1) [I p]) :: .hole :: .hole :: .hole :: .hole :: .hole :: .hole :: .hole :: mem⟩ (.cons (s_box 0 (σ0 0) (.tmp 0 (Feeder.av f)) rfl) (.cons (s_box 1 (σ0 1) (.tmp 2 (I p)) rfl) (.cons (s_assign (.int .i64 (0))) .nil))) ?_)
 refine AC.rq (fun σ1 => RegOK.m1 [1, 3, 5, 7, 8] ⟨[(1, I (c : Int)), (3, .ptr (σ0 0) 0), (5, .ptr (σ0 1) 0), (7, .ptr (σ1 0) 0), (8, .ptr (σ1 1) 0)], (.box (σ0 0) (fc f)) :: (.box (σ0 1) [I p]) :: (.box (σ1 0) [I 0]) :: (.box (σ1 1) [I 0]) :: .hole :: .hole :: .hole :: .hole :: .hole :: mem⟩ (.cons (s_alloc 2 (σ1 0) zero3) (.cons (s_alloc 3 (σ1 1) zero3) (.cons (s_store (cs := [I 0]) 2 sz3 (.tmp 7 (.ptr (σ1 0) 0)) (.int .i64 (0)) rfl rfl rfl (Nat.le_of_ble_eq_true rfl)) (.cons (s_store (cs := [I 0]) 3 sz3 (.tmp 8 (.ptr (σ1 1) 0)) (.int .i64 (0)) rfl rfl rfl (Nat.le_of_ble_eq_true rfl)) .nil)))) ?_)
 refine AC.seq ?_
 refine AC.seq (RunL.region ?_)
 refine RunL.chunk Fr.plain 2 (fun σ2_0 => RegOKL.m1 [3, 5, 7, 8, 14, 15] ⟨[(3, .ptr (σ0 0) 0), (5, .ptr (σ0 1) 0), (7, .ptr (σ1 0) 0), (8, .ptr (σ1 1) 0), (14, Feeder.av f), (15, I (c : Int))], (.box (σ0 0) (fc f)) :: (.box (σ0 1) [I p]) :: (.box (σ1 0) [I 0]) :: (.box (σ1 1) [I 0]) :: .hole :: .hole :: .hole :: .hole :: .hole :: mem⟩ (.cons (s_loadA (cs := (fc f)) (l := (fc f)) 0 tyA28 (.tmp 3 (.ptr (σ0 0) 0)) rfl rfl) (.cons (s_move (.tmp 1 (I (c : Int)))) .nil)) ?_)
 refine RunL.callNew Fr.plain (.func 95) (.cons (.tmp 14 (Feeder.av f)) (.cons (.tmp 15 (I (c : Int))) .nil)) call95 ⟨by kernel_rfl, by kernel_rfl⟩ (F95 f g c (by omega)) ?_
 rintro _ _ ⟨u0_1, u1_1, rfl, rfl⟩
 refine ⟨_, (Move.cons 6 rfl (Move.cons 7 rfl (Move.nil _))), ?_⟩
 refine RunL.nil (thenQ_n ?_)
 refine AC.block ?_
 refine AC.range2 Fr.plain 8 (n := 123) (fs := []) (caps := [.ptr u1_1 0, .ptr u0_1 0]) (len := (anc f.nodes c).length) (arg := (fun j1 => [I ((nd f.nodes c j1 : Nat) : Int)])) (E1 := fun j1 => Ent.box u1_1 [I ((nd f.nodes c j1 : Nat) : Int)]) rfl rfl call123 rfl (.inl rfl) 7 6 0 [2, 3] (fun j1 x1 => [Ent.box (σ1 0) [I (sumN (dropA f p c) j1)], Ent.box (σ1 1) [I (sumN (dropB f p c) j1)]]) (by decide) rfl rfl rfl (fun _ => rfl) (fun l M hM => F123 f g c hcc u1_1 u0_1 l M hM) (fun l1 L1 Lb1 hL1 hLb1 F1 hF1 hr1 tl1 j1 x1 hj1 => ?_) (fun x1 => ?_)
 ·skip
  obtain ⟨a1, a2, a3⟩ := g.at_ hcc hj1
  have ca := g.cab_of a3
  have cb := a3.cable
  have m1 := g.metre_in a3
  unfold metre nodeAt at m1
  have b1 := g.amp_in a1 p
  unfold amp at b1
  have t1 := Int.tdiv_eq_ediv_of_nonneg (b := 1000000) m1.1
  have sa := g.sumA_in p hcc (Nat.le_of_lt hj1)
  have sb := g.sumB_in p hcc (Nat.le_of_lt hj1)
  have da := g.dropA_in p hcc hj1
  have db := g.dropB_in p hcc hj1
  unfold dropA metre amp nodeAt at da
  unfold dropB metre amp nodeAt at db
  have hcu := g.cur_in a1
  have hne := neut_in hcu
  unfold Cur.In at hcu
  have hh := Cur.hi_in (g.cur_in a1) p
  have l3 := a3.length
  unfold nodeAt at l3
  have c3 := ca.2.core
  refine AC.rend hF1 mixed (fun σ3 => RegOK.m1 [3, 5, 7, 8, 9] ⟨[(3, .ptr (σ0 0) 0), (5, .ptr (σ0 1) 0), (7, .ptr (σ1 0) 0), (8, .ptr (σ1 1) 0), (9, I ((nd f.nodes c j1 : Nat) : Int))], (.box (σ0 0) (fc f)) :: (.box (σ0 1) [I p]) :: (.box (σ1 0) [I (sumN (dropA f p c) j1)]) :: (.box (σ1 1) [I (sumN (dropB f p c) j1)]) :: .hole :: .hole :: (.box u0_1 (fc f)) :: (.box u1_1 [I ((nd f.nodes c j1 : Nat) : Int)]) :: (L1) :: (mem ++ tl1)⟩ (.cons (s_assign (.tmp 17 (I ((nd f.nodes c j1 : Nat) : Int)))) .nil) ?_)
  refine thenQ_n ⟨(.box (σ0 0) (fc f)) :: (.box (σ0 1) [I p]) :: (.box (σ1 0) [I (sumN (dropA f p c) j1)]) :: (.box (σ1 1) [I (sumN (dropB f p c) j1)]) :: .hole :: .hole :: (.box u0_1 (fc f)) :: (.box u1_1 [I ((nd f.nodes c j1 : Nat) : Int)]) :: (L1) :: mem, rfl, rfl, ?_⟩
  refine AC.block ?_
  refine AC.rseq hF1 mixed (fun σ4 => RegOK.m1 [3, 5, 7, 8, 10, 11] ⟨[(3, .ptr (σ0 0) 0), (5, .ptr (σ0 1) 0), (7, .ptr (σ1 0) 0), (8, .ptr (σ1 1) 0), (10, .ptr (σ4 8) 0), (11, .ptr (σ4 9) 0)], (.box (σ0 0) (fc f)) :: (.box (σ0 1) [I p]) :: (.box (σ1 0) [I (sumN (dropA f p c) j1)]) :: (.box (σ1 1) [I (sumN (dropB f p c) j1)]) :: (.box (σ4 8) (Node.av (f.nodes.getD (nd f.nodes c j1) default)).cells) :: (.box (σ4 9) (Cur.av (cur f (nd f.nodes c j1))).cells) :: (.box u0_1 (fc f)) :: (.box u1_1 [I ((nd f.nodes c j1 : Nat) : Int)]) :: (Lb1) :: (mem ++ tl1)⟩ (.cons (s_fieldAddr fld28_2 (.tmp 3 (.ptr (σ0 0) 0))) (.cons (s_load1 (cs := (fc f)) (c := .slice ((f.nodes).map Node.av) none) 0 tyS24 (.tmp 18 (.ptr (σ0 0) 2)) rfl) (.cons (s_move (.tmp 9 (I ((nd f.nodes c j1 : Nat) : Int)))) (.cons (s_ixM (l := f.nodes) (f := Node.av) (default) slc24 (.tmp 19 (.slice ((f.nodes).map Node.av) none)) (.tmp 20 (I ((nd f.nodes c j1 : Nat) : Int))) (by omega) rfl) (.cons (s_loadAe (l := (Node.av (f.nodes.getD (nd f.nodes c j1) default)).cells) tyA47 (.tmp 21 (.eptr (Node.av (f.nodes.getD (nd f.nodes c j1) default)) 0)) rfl rfl) (.cons (s_loadA (cs := (fc f)) (l := (fc f)) 0 tyA28 (.tmp 3 (.ptr (σ0 0) 0)) rfl rfl) (.cons (s_move (.tmp 9 (I ((nd f.nodes c j1 : Nat) : Int)))) (.cons (s_call (r := Cur.av (cur f (nd f.nodes c j1))) (.func 57) (.cons (.tmp 23 (Feeder.av f)) (.cons (.tmp 24 (I ((nd f.nodes c j1 : Nat) : Int))) .nil)) call57 (F57 (f) ((nd f.nodes c j1)) (by assumption) (by omega))) (.cons (s_alloc 4 (σ4 8) zero47) (.cons (s_alloc 5 (σ4 9) zero45) (.cons (s_store (cs := [.str (⟨#[]⟩), I 0, I 0, I 0, I 0, I 0, I 0, I 0, I 0, I 0, I 0]) 4 sz47 (.tmp 10 (.ptr (σ4 8) 0)) (.tmp 22 (Node.av (f.nodes.getD (nd f.nodes c j1) default))) rfl rfl rfl (Nat.le_of_ble_eq_true rfl)) (.cons (s_store (cs := [I 0, I 0, I 0, I 0, I 0, I 0]) 5 sz45 (.tmp 11 (.ptr (σ4 9) 0)) (.tmp 25 (Cur.av (cur f (nd f.nodes c j1)))) rfl rfl rfl (Nat.le_of_ble_eq_true rfl)) .nil)))))))))))) ?_)
  generalize hgx : (f.nodes.getD (nd f.nodes c j1) default) = x at *
  refine AC.rseq hF1 mixed (fun σ5 => RegOK.m1 [7, 8, 12, 13] ⟨[(7, .ptr (σ1 0) 0), (8, .ptr (σ1 1) 0), (12, I (x.length * (f.cables.getD (x.cable).toNat default).coreHi)), (13, I (((cur f (nd f.nodes c j1)).hi p) + (neut (cur f (nd f.nodes c j1)))))], (.box (σ0 0) (fc f)) :: (.box (σ0 1) [I p]) :: (.box (σ1 0) [I (sumN (dropA f p c) j1)]) :: (.box (σ1 1) [I (sumN (dropB f p c) j1)]) :: (.box (σ4 8) (Node.av x).cells) :: (.box (σ4 9) (Cur.av (cur f (nd f.nodes c j1))).cells) :: (.box u0_1 (fc f)) :: (.box u1_1 [I ((nd f.nodes c j1 : Nat) : Int)]) :: (Lb1) :: (mem ++ tl1)⟩ (.cons (s_fieldAddr fld47_3 (.tmp 10 (.ptr (σ4 8) 0))) (.cons (s_load1 (cs := (Node.av x).cells) (c := I (x.length)) 4 tyS3 (.tmp 26 (.ptr (σ4 8) 3)) rfl) (.cons (s_fieldAddr fld28_0 (.tmp 3 (.ptr (σ0 0) 0))) (.cons (s_load1 (cs := (fc f)) (c := .slice ((f.cables).map Cable.av) none) 0 tyS22 (.tmp 28 (.ptr (σ0 0) 0)) rfl) (.cons (s_fieldAddr fld47_2 (.tmp 10 (.ptr (σ4 8) 0))) (.cons (s_load1 (cs := (Node.av x).cells) (c := I (x.cable)) 4 tyS3 (.tmp 30 (.ptr (σ4 8) 2)) rfl) (.cons (s_ixM (l := f.cables) (f := Cable.av) (default) slc22 (.tmp 29 (.slice ((f.cables).map Cable.av) none)) (.tmp 31 (I (x.cable))) (by omega) rfl) (.cons (s_fieldAddre fld71_1 (.tmp 32 (.eptr (Cable.av (f.cables.getD (x.cable).toNat default)) 0))) (.cons (s_fieldAddre fld26_1 (.tmp 33 (.eptr (Cable.av (f.cables.getD (x.cable).toNat default)) 1))) (.cons (s_load1e (c := I ((f.cables.getD (x.cable).toNat default).coreHi)) tyS3 (.tmp 34 (.eptr (Cable.av (f.cables.getD (x.cable).toNat default)) 2)) rfl) (.cons (s_mul (.tmp 27 (I (x.length))) (.tmp 35 (I ((f.cables.getD (x.cable).toNat default).coreHi))) (inK_i64 (by omega))) (.cons (s_load1 (cs := [I p]) (c := I p) 1 tyS3 (.tmp 5 (.ptr (σ0 1) 0)) rfl) (.cons (s_indexAddrA arr45 (.tmp 11 (.ptr (σ4 9) 0)) (.tmp 37 (I p)) (by omega) (by omega)) (.cons (s_fieldAddr fld26_1 (.tmp 38 (.ptr (σ4 9) (0 + (p).toNat * 2)))) (.cons (s_load1 (cs := (Cur.av (cur f (nd f.nodes c j1))).cells) (c := I ((cur f (nd f.nodes c j1)).hi p)) 5 tyS3 (.tmp 39 (.ptr (σ4 9) ((0 + (p).toNat * 2) + 1))) (by rcases (show p = 0 ∨ p = 1 ∨ p = 2 by omega) with e | e | e <;> subst e <;> rfl)) (.cons (s_loadA (cs := (Cur.av (cur f (nd f.nodes c j1))).cells) (l := (Cur.av (cur f (nd f.nodes c j1))).cells) 5 tyA45 (.tmp 11 (.ptr (σ4 9) 0)) rfl rfl) (.cons (s_call (r := I (neut (cur f (nd f.nodes c j1)))) (.func 85) (.cons (.tmp 41 (Cur.av (cur f (nd f.nodes c j1)))) .nil) call85 (F85 ((cur f (nd f.nodes c j1))) (by first | assumption | exact g.cur_in (by omega)))) (.cons (s_add (.tmp 40 (I ((cur f (nd f.nodes c j1)).hi p))) (.tmp 42 (I (neut (cur f (nd f.nodes c j1))))) (inK_i64 (by omega))) (.cons (s_assign (.tmp 36 (I (x.length * (f.cables.getD (x.cable).toNat default).coreHi)))) (.cons (s_assign (.tmp 43 (I (((cur f (nd f.nodes c j1)).hi p) + (neut (cur f (nd f.nodes c j1))))))) .nil)))))))))))))))))))) ?_)
  generalize hgy : (f.cables.getD (x.cable).toNat default) = y at *
  generalize hgm : (x.length * y.coreHi) = m at *
  refine AC.rseq hF1 mixed (fun σ6 => RegOK.m1 [8, 12, 13] ⟨[(8, .ptr (σ1 1) 0), (12, I m), (13, I (((cur f (nd f.nodes c j1)).hi p) + (neut (cur f (nd f.nodes c j1)))))], (.box (σ0 0) (fc f)) :: (.box (σ0 1) [I p]) :: (.box (σ1 0) [I ((sumN (dropA f p c) j1) + ((m.tdiv 1000000) * (((cur f (nd f.nodes c j1)).hi p) + (neut (cur f (nd f.nodes c j1))))))]) :: (.box (σ1 1) [I (sumN (dropB f p c) j1)]) :: (.box (σ4 8) (Node.av x).cells) :: (.box (σ4 9) (Cur.av (cur f (nd f.nodes c j1))).cells) :: (.box u0_1 (fc f)) :: (.box u1_1 [I ((nd f.nodes c j1 : Nat) : Int)]) :: (Lb1) :: (mem ++ tl1)⟩ (.cons (s_load1 (cs := [I (sumN (dropA f p c) j1)]) (c := I (sumN (dropA f p c) j1)) 2 tyS3 (.tmp 7 (.ptr (σ1 0) 0)) rfl) (.cons (s_move (.tmp 12 (I m))) (.cons (s_quo (.tmp 45 (I m)) (.int .i64 (1000000)) (by omega) (inK_i64 (by omega))) (.cons (s_move (.tmp 13 (I (((cur f (nd f.nodes c j1)).hi p) + (neut (cur f (nd f.nodes c j1))))))) (.cons (s_mul (.tmp 46 (I (m.tdiv 1000000))) (.tmp 47 (I (((cur f (nd f.nodes c j1)).hi p) + (neut (cur f (nd f.nodes c j1)))))) (inK_i64 (by omega))) (.cons (s_add (.tmp 44 (I (sumN (dropA f p c) j1))) (.tmp 48 (I ((m.tdiv 1000000) * (((cur f (nd f.nodes c j1)).hi p) + (neut (cur f (nd f.nodes c j1))))))) (inK_i64 (by omega))) (.cons (s_store (cs := [I (sumN (dropA f p c) j1)]) 2 sz3 (.tmp 7 (.ptr (σ1 0) 0)) (.tmp 49 (I ((sumN (dropA f p c) j1) + ((m.tdiv 1000000) * (((cur f (nd f.nodes c j1)).hi p) + (neut (cur f (nd f.nodes c j1)))))))) rfl rfl rfl (Nat.le_of_ble_eq_true rfl)) .nil))))))) ?_)
  refine AC.rend hF1 mixed (fun σ7 => RegOK.m1 [] ⟨[], (.box (σ0 0) (fc f)) :: (.box (σ0 1) [I p]) :: (.box (σ1 0) [I ((sumN (dropA f p c) j1) + ((m.tdiv 1000000) * (((cur f (nd f.nodes c j1)).hi p) + (neut (cur f (nd f.nodes c j1))))))]) :: (.box (σ1 1) [I ((sumN (dropB f p c) j1) + ((m.tmod 1000000) * (((cur f (nd f.nodes c j1)).hi p) + (neut (cur f (nd f.nodes c j1))))))]) :: (.box (σ4 8) (Node.av x).cells) :: (.box (σ4 9) (Cur.av (cur f (nd f.nodes c j1))).cells) :: (.box u0_1 (fc f)) :: (.box u1_1 [I ((nd f.nodes c j1 : Nat) : Int)]) :: (Lb1) :: (mem ++ tl1)⟩ (.cons (s_load1 (cs := [I (sumN (dropB f p c) j1)]) (c := I (sumN (dropB f p c) j1)) 3 tyS3 (.tmp 8 (.ptr (σ1 1) 0)) rfl) (.cons (s_move (.tmp 12 (I m))) (.cons (s_rem (.tmp 51 (I m)) (.int .i64 (1000000)) (by omega)) (.cons (s_move (.tmp 13 (I (((cur f (nd f.nodes c j1)).hi p) + (neut (cur f (nd f.nodes c j1))))))) (.cons (s_mul (.tmp 52 (I (m.tmod 1000000))) (.tmp 53 (I (((cur f (nd f.nodes c j1)).hi p) + (neut (cur f (nd f.nodes c j1)))))) (inK_i64 (by omega))) (.cons (s_add (.tmp 50 (I (sumN (dropB f p c) j1))) (.tmp 54 (I ((m.tmod 1000000) * (((cur f (nd f.nodes c j1)).hi p) + (neut (cur f (nd f.nodes c j1))))))) (inK_i64 (by omega))) (.cons (s_store (cs := [I (sumN (dropB f p c) j1)]) 3 sz3 (.tmp 8 (.ptr (σ1 1) 0)) (.tmp 55 (I ((sumN (dropB f p c) j1) + ((m.tmod 1000000) * (((cur f (nd f.nodes c j1)).hi p) + (neut (cur f (nd f.nodes c j1)))))))) rfl rfl rfl (Nat.le_of_ble_eq_true rfl)) .nil))))))) ?_)
  refine blockQ_n ?_
  exact ⟨⟨[], (.box (σ0 0) (fc f)) :: (.box (σ0 1) [I p]) :: (.box (σ1 0) [I ((sumN (dropA f p c) j1) + ((m.tdiv 1000000) * (((cur f (nd f.nodes c j1)).hi p) + (neut (cur f (nd f.nodes c j1))))))]) :: (.box (σ1 1) [I ((sumN (dropB f p c) j1) + ((m.tmod 1000000) * (((cur f (nd f.nodes c j1)).hi p) + (neut (cur f (nd f.nodes c j1))))))]) :: .hole :: .hole :: (.box u0_1 (fc f)) :: (.box u1_1 [I ((nd f.nodes c j1 : Nat) : Int)]) :: (Lb1) :: (mem ++ tl1)⟩, Weak.of [4, 5] rfl (by kernel_rfl), (.box (σ0 0) (fc f)) :: (.box (σ0 1) [I p]) :: (.box (σ1 0) [I ((sumN (dropA f p c) j1) + ((m.tdiv 1000000) * (((cur f (nd f.nodes c j1)).hi p) + (neut (cur f (nd f.nodes c j1))))))]) :: (.box (σ1 1) [I ((sumN (dropB f p c) j1) + ((m.tmod 1000000) * (((cur f (nd f.nodes c j1)).hi p) + (neut (cur f (nd f.nodes c j1))))))]) :: .hole :: .hole :: (.box u0_1 (fc f)) :: (.box u1_1 [I ((nd f.nodes c j1 : Nat) : Int)]) :: (Lb1) :: mem, rfl, rfl, ⟨0, by subst hgm; subst hgy; subst hgx; rfl⟩⟩
 ·skip
  have sa := g.sumA_in p hcc (Nat.le_refl _)
  have sb := g.sumB_in p hcc (Nat.le_refl _)
  have sq := Int.tdiv_eq_ediv_of_nonneg (a := sumN (dropB f p c) (anc f.nodes c).length + 1000000 - 1) (b := 1000000) (by omega)
  refine blockQ_n ?_
  refine thenQ_n ?_
  refine AC.rq (fun σ8 => RegOK.m1 [6] ⟨[(6, I ((sumN (dropA f p c) (anc f.nodes c).length) + ((((sumN (dropB f p c) (anc f.nodes c).length) + 1000000) - 1).tdiv 1000000)))], (.box (σ0 0) (fc f)) :: (.box (σ0 1) [I p]) :: (.box (σ1 0) [I (sumN (dropA f p c) (anc f.nodes c).length)]) :: (.box (σ1 1) [I (sumN (dropB f p c) (anc f.nodes c).length)]) :: .hole :: .hole :: (.box u0_1 (fc f)) :: (.box u1_1 [I ((nd f.nodes c (anc f.nodes c).length : Nat) : Int)]) :: .hole :: mem⟩ (.cons (s_load1 (cs := [I (sumN (dropA f p c) (anc f.nodes c).length)]) (c := I (sumN (dropA f p c) (anc f.nodes c).length)) 2 tyS3 (.tmp 7 (.ptr (σ1 0) 0)) rfl) (.cons (s_load1 (cs := [I (sumN (dropB f p c) (anc f.nodes c).length)]) (c := I (sumN (dropB f p c) (anc f.nodes c).length)) 3 tyS3 (.tmp 8 (.ptr (σ1 1) 0)) rfl) (.cons (s_add (.tmp 57 (I (sumN (dropB f p c) (anc f.nodes c).length))) (.int .i64 (1000000)) (inK_i64 (by omega))) (.cons (s_sub (.tmp 58 (I ((sumN (dropB f p c) (anc f.nodes c).length) + 1000000))) (.int .i64 (1)) (inK_i64 (by omega))) (.cons (s_quo (.tmp 59 (I (((sumN (dropB f p c) (anc f.nodes c).length) + 1000000) - 1))) (.int .i64 (1000000)) (by omega) (inK_i64 (by omega))) (.cons (s_add (.tmp 56 (I (sumN (dropA f p c) (anc f.nodes c).length))) (.tmp 60 (I ((((sumN (dropB f p c) (anc f.nodes c).length) + 1000000) - 1).tdiv 1000000))) (inK_i64 (by omega))) (.cons (s_assign (.tmp 61 (I ((sumN (dropA f p c) (anc f.nodes c).length) + ((((sumN (dropB f p c) (anc f.nodes c).length) + 1000000) - 1).tdiv 1000000))))) .nil))))))) ?_)
  refine AC.ret ?_
  exact FinQ.ret (result1 rfl (res_tmp (v := I ((sumN (dropA f p c) (anc f.nodes c).length) + ((((sumN (dropB f p c) (anc f.nodes c).length) + 1000000) - 1).tdiv 1000000))) rfl rfl)) ⟨by rfl, rfl⟩
theorem F46 (f : Feeder) (g : FG f) (c : Nat) (hcc : c < f.nodes.length) (e : Bool) : Pure Try.prog 46 [Feeder.av f, I (c : Int), .bool (e)] (.agg [I (faultLo f e c), I (faultHi f e c)]) := by
 intro mem
 refine Meets.body 11 Try.func46 rfl rfl ?_
 refine AC.rq (fun σ0 => RegOK.m1 [1, 3, 5, 6] ⟨[(1, I (c : Int)), (3, .ptr (σ0 0) 0), (5, .ptr (σ0 1) 0), (6, .ptr (σ0 2) 0)], (.box (σ0 0) (fc f)) :: (.box (σ0 1) [.bool (e)]) :: (.box (σ0 2) [I 0, I 0]) :: .hole :: .hole :: .hole :: .hole :: .hole :: .hole :: .hole :: .hole :: mem⟩ (.cons (s_box 0 (σ0 0) (.tmp 0 (Feeder.av f)) rfl) (.cons (s_box 1 (σ0 1) (.tmp 2 (.bool (e))) rfl) (.cons (s_alloc 2 (σ0 2) zero26) .nil))) ?_)
 refine AC.rq (fun σ1 => RegOK.m1 [1, 3, 5, 6, 7] ⟨[(1, I (c : Int)), (3, .ptr (σ0 0) 0), (5, .ptr (σ0 1) 0), (6, .ptr (σ0 2) 0), (7, .ptr (σ1 2) 0)], (.box (σ0 0) (fc f)) :: (.box (σ0 1) [.bool (e)]) :: (.box (σ0 2) [I 0, I 0]) :: (.box (σ1 2) [I f.sLo, I f.sHi]) :: .hole :: .hole :: .hole :: .hole :: .hole :: .hole :: .hole :: mem⟩ (.cons (s_fieldAddr fld28_4 (.tmp 3 (.ptr (σ0 0) 0))) (.cons (s_loadA (cs := (fc f)) (l := [I f.sLo, I f.sHi]) 0 tyA26 (.tmp 13 (.ptr (σ0 0) 5)) rfl rfl) (.cons (s_alloc 3 (σ1 2) zero26) (.cons (s_store (cs := [I 0, I 0]) 3 sz26 (.tmp 7 (.ptr (σ1 2) 0)) (.tmp 14 (.agg [I f.sLo, I f.sHi])) rfl rfl rfl (Nat.le_of_ble_eq_true rfl)) .nil)))) ?_)
 refine AC.seq ?_
 refine AC.seq (RunL.region ?_)
 refine RunL.chunk Fr.plain 2 (fun σ2_0 => RegOKL.m1 [3, 5, 6, 7, 15, 16] ⟨[(3, .ptr (σ0 0) 0), (5, .ptr (σ0 1) 0), (6, .ptr (σ0 2) 0), (7, .ptr (σ1 2) 0), (15, Feeder.av f), (16, I (c : Int))], (.box (σ0 0) (fc f)) :: (.box (σ0 1) [.bool (e)]) :: (.box (σ0 2) [I 0, I 0]) :: (.box (σ1 2) [I f.sLo, I f.sHi]) :: .hole :: .hole :: .hole :: .hole :: .hole :: .hole :: .hole :: mem⟩ (.cons (s_loadA (cs := (fc f)) (l := (fc f)) 0 tyA28 (.tmp 3 (.ptr (σ0 0) 0)) rfl rfl) (.cons (s_move (.tmp 1 (I (c : Int)))) .nil)) ?_)
 refine RunL.callNew Fr.plain (.func 95) (.cons (.tmp 15 (Feeder.av f)) (.cons (.tmp 16 (I (c : Int))) .nil)) call95 ⟨by kernel_rfl, by kernel_rfl⟩ (F95 f g c hcc) ?_
 rintro _ _ ⟨u0_2, u1_2, rfl, rfl⟩
 refine ⟨_, (Move.cons 8 rfl (Move.cons 9 rfl (Move.nil _))), ?_⟩
 refine RunL.nil (thenQ_n ?_)
 refine AC.block ?_
 refine AC.range2 Fr.plain 10 (n := 123) (fs := []) (caps := [.ptr u1_2 0, .ptr u0_2 0]) (len := (anc f.nodes c).length) (arg := (fun j1 => [I ((nd f.nodes c j1 : Nat) : Int)])) (E1 := fun j1 => Ent.box u1_2 [I ((nd f.nodes c j1 : Nat) : Int)]) rfl rfl call123 rfl (.inl rfl) 9 8 0 [3] (fun j1 x1 => [Ent.box (σ1 2) [I (zLo f e c j1), I (zHi f e c j1)]]) (by decide) rfl rfl rfl (fun _ => rfl) (fun l M hM => F123 f g c hcc u1_2 u0_2 l M hM) (fun l1 L1 Lb1 hL1 hLb1 F1 hF1 hr1 tl1 j1 x1 hj1 => ?_) (fun x1 => ?_)
 ·skip
  obtain ⟨a1, a2, a3⟩ := g.at_ hcc hj1
  have ca := g.cab_of a3
  have cb := a3.cable
  have pr := g.prods a3
  have pb := g.prodB a3 e
  have zz := g.z_in e hcc (Nat.le_of_lt hj1)
  refine AC.rend hF1 mixed (fun σ3 => RegOK.m1 [3, 5, 7, 8] ⟨[(3, .ptr (σ0 0) 0), (5, .ptr (σ0 1) 0), (7, .ptr (σ1 2) 0), (8, I ((nd f.nodes c j1 : Nat) : Int))], (.box (σ0 0) (fc f)) :: (.box (σ0 1) [.bool (e)]) :: (.box (σ0 2) [I 0, I 0]) :: (.box (σ1 2) [I (zLo f e c j1), I (zHi f e c j1)]) :: .hole :: .hole :: .hole :: .hole :: (.box u0_2 (fc f)) :: (.box u1_2 [I ((nd f.nodes c j1 : Nat) : Int)]) :: (L1) :: (mem ++ tl1)⟩ (.cons (s_assign (.tmp 18 (I ((nd f.nodes c j1 : Nat) : Int)))) .nil) ?_)
  refine thenQ_n ⟨(.box (σ0 0) (fc f)) :: (.box (σ0 1) [.bool (e)]) :: (.box (σ0 2) [I 0, I 0]) :: (.box (σ1 2) [I (zLo f e c j1), I (zHi f e c j1)]) :: .hole :: .hole :: .hole :: .hole :: (.box u0_2 (fc f)) :: (.box u1_2 [I ((nd f.nodes c j1 : Nat) : Int)]) :: (L1) :: mem, rfl, rfl, ?_⟩
  refine AC.block ?_
  refine AC.rseq hF1 mixed (fun σ4 => RegOK.m1 [3, 5, 7, 9] ⟨[(3, .ptr (σ0 0) 0), (5, .ptr (σ0 1) 0), (7, .ptr (σ1 2) 0), (9, .ptr (σ4 5) 0)], (.box (σ0 0) (fc f)) :: (.box (σ0 1) [.bool (e)]) :: (.box (σ0 2) [I 0, I 0]) :: (.box (σ1 2) [I (zLo f e c j1), I (zHi f e c j1)]) :: (.box (σ4 5) (Node.av (f.nodes.getD (nd f.nodes c j1) default)).cells) :: .hole :: .hole :: .hole :: (.box u0_2 (fc f)) :: (.box u1_2 [I ((nd f.nodes c j1 : Nat) : Int)]) :: (Lb1) :: (mem ++ tl1)⟩ (.cons (s_fieldAddr fld28_2 (.tmp 3 (.ptr (σ0 0) 0))) (.cons (s_load1 (cs := (fc f)) (c := .slice ((f.nodes).map Node.av) none) 0 tyS24 (.tmp 19 (.ptr (σ0 0) 2)) rfl) (.cons (s_move (.tmp 8 (I ((nd f.nodes c j1 : Nat) : Int)))) (.cons (s_ixM (l := f.nodes) (f := Node.av) (default) slc24 (.tmp 20 (.slice ((f.nodes).map Node.av) none)) (.tmp 21 (I ((nd f.nodes c j1 : Nat) : Int))) (by omega) rfl) (.cons (s_loadAe (l := (Node.av (f.nodes.getD (nd f.nodes c j1) default)).cells) tyA47 (.tmp 22 (.eptr (Node.av (f.nodes.getD (nd f.nodes c j1) default)) 0)) rfl rfl) (.cons (s_alloc 4 (σ4 5) zero47) (.cons (s_store (cs := [.str (⟨#[]⟩), I 0, I 0, I 0, I 0, I 0, I 0, I 0, I 0, I 0, I 0]) 4 sz47 (.tmp 9 (.ptr (σ4 5) 0)) (.tmp 23 (Node.av (f.nodes.getD (nd f.nodes c j1) default))) rfl rfl rfl (Nat.le_of_ble_eq_true rfl)) .nil))))))) ?_)
  generalize hgx : (f.nodes.getD (nd f.nodes c j1) default) = x at *
  refine AC.rseq hF1 mixed (fun σ5 => RegOK.m1 [5, 7, 9, 10] ⟨[(5, .ptr (σ0 1) 0), (7, .ptr (σ1 2) 0), (9, .ptr (σ4 5) 0), (10, .ptr (σ5 6) 0)], (.box (σ0 0) (fc f)) :: (.box (σ0 1) [.bool (e)]) :: (.box (σ0 2) [I 0, I 0]) :: (.box (σ1 2) [I (zLo f e c j1), I (zHi f e c j1)]) :: (.box (σ4 5) (Node.av x).cells) :: (.box (σ5 6) (Cable.av (f.cables.getD (x.cable).toNat default)).cells) :: .hole :: .hole :: (.box u0_2 (fc f)) :: (.box u1_2 [I ((nd f.nodes c j1 : Nat) : Int)]) :: (Lb1) :: (mem ++ tl1)⟩ (.cons (s_fieldAddr fld28_0 (.tmp 3 (.ptr (σ0 0) 0))) (.cons (s_load1 (cs := (fc f)) (c := .slice ((f.cables).map Cable.av) none) 0 tyS22 (.tmp 24 (.ptr (σ0 0) 0)) rfl) (.cons (s_fieldAddr fld47_2 (.tmp 9 (.ptr (σ4 5) 0))) (.cons (s_load1 (cs := (Node.av x).cells) (c := I (x.cable)) 4 tyS3 (.tmp 26 (.ptr (σ4 5) 2)) rfl) (.cons (s_ixM (l := f.cables) (f := Cable.av) (default) slc22 (.tmp 25 (.slice ((f.cables).map Cable.av) none)) (.tmp 27 (I (x.cable))) (by omega) rfl) (.cons (s_loadAe (l := (Cable.av (f.cables.getD (x.cable).toNat default)).cells) tyA71 (.tmp 28 (.eptr (Cable.av (f.cables.getD (x.cable).toNat default)) 0)) rfl rfl) (.cons (s_alloc 5 (σ5 6) zero71) (.cons (s_store (cs := [.str (⟨#[]⟩), I 0, I 0, I 0, I 0, I 0]) 5 sz71 (.tmp 10 (.ptr (σ5 6) 0)) (.tmp 29 (Cable.av (f.cables.getD (x.cable).toNat default))) rfl rfl rfl (Nat.le_of_ble_eq_true rfl)) .nil)))))))) ?_)
  generalize hgy : (f.cables.getD (x.cable).toNat default) = y at *
  refine AC.rseq hF1 mixed (fun σ6 => RegOK.m1 [7, 9, 40, 41] ⟨[(7, .ptr (σ1 2) 0), (9, .ptr (σ4 5) 0), (40, .agg [I (y.coreLo), I (y.coreHi), I (y.backLo e), I (y.backHi e)]), (41, I 0)], (.box (σ0 0) (fc f)) :: (.box (σ0 1) [.bool (e)]) :: (.box (σ0 2) [I 0, I 0]) :: (.box (σ1 2) [I (zLo f e c j1), I (zHi f e c j1)]) :: (.box (σ4 5) (Node.av x).cells) :: (.box (σ5 6) (Cable.av y).cells) :: (Ent.obj (σ6 2) (MapIs [(.bool (false), .agg [I (y.coreLo), I (y.coreHi)]), (.bool (true), .agg [I (y.earthLo), I (y.earthHi)])])) :: .hole :: (.box u0_2 (fc f)) :: (.box u1_2 [I ((nd f.nodes c j1 : Nat) : Int)]) :: (Lb1) :: (mem ++ tl1)⟩ (.cons (s_fieldAddr fld71_1 (.tmp 10 (.ptr (σ5 6) 0))) (.cons (s_loadA (cs := (Cable.av y).cells) (l := [I (y.coreLo), I (y.coreHi)]) 5 tyA26 (.tmp 30 (.ptr (σ5 6) 1)) rfl rfl) (.cons (s_makeMap 6 (σ6 2)) (.cons (s_fieldAddr fld71_1 (.tmp 10 (.ptr (σ5 6) 0))) (.cons (s_loadA (cs := (Cable.av y).cells) (l := [I (y.coreLo), I (y.coreHi)]) 5 tyA26 (.tmp 33 (.ptr (σ5 6) 1)) rfl rfl) (.cons (s_insert (es := []) (kv := .bool (false)) (v := .agg [I (y.coreLo), I (y.coreHi)]) 6 Try.underlying138 (.tmp 32 (.mp (σ6 2))) (.bool false) (.tmp 34 (.agg [I (y.coreLo), I (y.coreHi)])) rfl rfl (keyOK_bool Try.underlying4 _) (finds_nil Try.underlying4 _)) (.cons (s_fieldAddr fld71_2 (.tmp 10 (.ptr (σ5 6) 0))) (.cons (s_loadA (cs := (Cable.av y).cells) (l := [I (y.earthLo), I (y.earthHi)]) 5 tyA26 (.tmp 35 (.ptr (σ5 6) 3)) rfl rfl) (.cons (s_insert (es := [(.bool (false), .agg [I (y.coreLo), I (y.coreHi)])]) (kv := .bool (true)) (v := .agg [I (y.earthLo), I (y.earthHi)]) 6 Try.underlying138 (.tmp 32 (.mp (σ6 2))) (.bool true) (.tmp 36 (.agg [I (y.earthLo), I (y.earthHi)])) rfl rfl (keyOK_bool Try.underlying4 _) (finds_bool1 Try.underlying4 _)) (.cons (s_move (.tmp 32 (.mp (σ6 2)))) (.cons (s_load1 (cs := [.bool (e)]) (c := .bool (e)) 1 tyS4 (.tmp 5 (.ptr (σ0 1) 0)) rfl) (.cons (s_lookup (es := [(.bool (false), .agg [I (y.coreLo), I (y.coreHi)]), (.bool (true), .agg [I (y.earthLo), I (y.earthHi)])]) (kv := .bool (e)) (v := .agg [I (y.backLo e), I (y.backHi e)]) (i := cond e 1 0) 6 Try.underlying138 (.tmp 37 (.mp (σ6 2))) (.tmp 38 (.bool (e))) rfl (keyOK_bool Try.underlying4 _) (by cases e <;> first | exact finds_boolF Try.underlying4 _ _ | exact finds_boolT Try.underlying4 _ _) (rep_conc2 _ _)) (.cons (s_buildArr (l := [I (y.coreLo), I (y.coreHi), I (y.backLo e), I (y.backHi e)]) zero139 arr139 (.cons rfl (.tmp 31 (.agg [I (y.coreLo), I (y.coreHi)])) (.cons rfl (.tmp 39 (.agg [I (y.backLo e), I (y.backHi e)])) .nil)) rfl) (.cons (s_move (.int .i64 (0))) .nil)))))))))))))) ?_)
  refine AC.block ?_
  refine AC.turns (ACL.turn ?_)
  refine AC.rseq hF1 mixed (fun σ7 => RegOK.m1 [7, 9, 40, 41, 42] ⟨[(7, .ptr (σ1 2) 0), (9, .ptr (σ4 5) 0), (40, .agg [I (y.coreLo), I (y.coreHi), I (y.backLo e), I (y.backHi e)]), (41, I 0), (42, .bool (decide ((0 : Int) < 2)))], (.box (σ0 0) (fc f)) :: (.box (σ0 1) [.bool (e)]) :: (.box (σ0 2) [I 0, I 0]) :: (.box (σ1 2) [I (zLo f e c j1), I (zHi f e c j1)]) :: (.box (σ4 5) (Node.av x).cells) :: (.box (σ5 6) (Cable.av y).cells) :: (Ent.obj (σ6 2) (MapIs [(.bool (false), .agg [I (y.coreLo), I (y.coreHi)]), (.bool (true), .agg [I (y.earthLo), I (y.earthHi)])])) :: .hole :: (.box u0_2 (fc f)) :: (.box u1_2 [I ((nd f.nodes c j1 : Nat) : Int)]) :: (Lb1) :: (mem ++ tl1)⟩ (.cons (s_lss (.tmp 41 (I 0)) (.int .i64 (2))) .nil) ?_)
  refine AC.cseq (decide ((0 : Int) < 2)) rfl rfl (fun hc => ?_) (fun hc => absurd hc (by simp))
  refine AC.skip ?_
  refine thenQ_n ?_
  refine AC.bseq ?_
  refine AC.rseq hF1 mixed (fun σ8 => RegOK.m1 [7, 9, 12, 40, 41] ⟨[(7, .ptr (σ1 2) 0), (9, .ptr (σ4 5) 0), (12, .ptr (σ8 1) 0), (40, .agg [I (y.coreLo), I (y.coreHi), I (y.backLo e), I (y.backHi e)]), (41, I 0)], (.box (σ0 0) (fc f)) :: (.box (σ0 1) [.bool (e)]) :: (.box (σ0 2) [I 0, I 0]) :: (.box (σ1 2) [I (zLo f e c j1), I (zHi f e c j1)]) :: (.box (σ4 5) (Node.av x).cells) :: (.box (σ5 6) (Cable.av y).cells) :: (Ent.obj (σ6 2) (MapIs [(.bool (false), .agg [I (y.coreLo), I (y.coreHi)]), (.bool (true), .agg [I (y.earthLo), I (y.earthHi)])])) :: (.box (σ8 1) [I (y.coreLo), I (y.coreHi)]) :: (.box u0_2 (fc f)) :: (.box u1_2 [I ((nd f.nodes c j1 : Nat) : Int)]) :: (Lb1) :: (mem ++ tl1)⟩ (.cons (s_indexA (l := [I (y.coreLo), I (y.coreHi)]) arr139 tyA26 (.tmp 40 (.agg [I (y.coreLo), I (y.coreHi), I (y.backLo e), I (y.backHi e)])) (.tmp 41 (I 0)) (by decide) (by decide) rfl) (.cons (s_alloc 7 (σ8 1) zero26) (.cons (s_store (cs := [I 0, I 0]) 7 sz26 (.tmp 12 (.ptr (σ8 1) 0)) (.tmp 43 (.agg [I (y.coreLo), I (y.coreHi)])) rfl rfl rfl (Nat.le_of_ble_eq_true rfl)) .nil))) ?_)
  refine AC.rseq hF1 mixed (fun σ9 => RegOK.m1 [7, 9, 12, 40, 41] ⟨[(7, .ptr (σ1 2) 0), (9, .ptr (σ4 5) 0), (12, .ptr (σ8 1) 0), (40, .agg [I (y.coreLo), I (y.coreHi), I (y.backLo e), I (y.backHi e)]), (41, I 0)], (.box (σ0 0) (fc f)) :: (.box (σ0 1) [.bool (e)]) :: (.box (σ0 2) [I 0, I 0]) :: (.box (σ1 2) [I ((zLo f e c j1) + (x.length * y.coreLo)), I (zHi f e c j1)]) :: (.box (σ4 5) (Node.av x).cells) :: (.box (σ5 6) (Cable.av y).cells) :: (Ent.obj (σ6 2) (MapIs [(.bool (false), .agg [I (y.coreLo), I (y.coreHi)]), (.bool (true), .agg [I (y.earthLo), I (y.earthHi)])])) :: (.box (σ8 1) [I (y.coreLo), I (y.coreHi)]) :: (.box u0_2 (fc f)) :: (.box u1_2 [I ((nd f.nodes c j1 : Nat) : Int)]) :: (Lb1) :: (mem ++ tl1)⟩ (.cons (s_fieldAddr fld26_0 (.tmp 7 (.ptr (σ1 2) 0))) (.cons (s_load1 (cs := [I (zLo f e c j1), I (zHi f e c j1)]) (c := I (zLo f e c j1)) 3 tyS3 (.tmp 44 (.ptr (σ1 2) 0)) rfl) (.cons (s_fieldAddr fld47_3 (.tmp 9 (.ptr (σ4 5) 0))) (.cons (s_load1 (cs := (Node.av x).cells) (c := I (x.length)) 4 tyS3 (.tmp 46 (.ptr (σ4 5) 3)) rfl) (.cons (s_fieldAddr fld26_0 (.tmp 12 (.ptr (σ8 1) 0))) (.cons (s_load1 (cs := [I (y.coreLo), I (y.coreHi)]) (c := I (y.coreLo)) 7 tyS3 (.tmp 48 (.ptr (σ8 1) 0)) rfl) (.cons (s_mul (.tmp 47 (I (x.length))) (.tmp 49 (I (y.coreLo))) (inK_i64 (by omega))) (.cons (s_add (.tmp 45 (I (zLo f e c j1))) (.tmp 50 (I (x.length * y.coreLo))) (inK_i64 (by omega))) (.cons (s_fieldAddr fld26_0 (.tmp 7 (.ptr (σ1 2) 0))) (.cons (s_store (cs := [I (zLo f e c j1), I (zHi f e c j1)]) 3 sz3 (.tmp 52 (.ptr (σ1 2) 0)) (.tmp 51 (I ((zLo f e c j1) + (x.length * y.coreLo)))) rfl rfl rfl (Nat.le_of_ble_eq_true rfl)) .nil)))))))))) ?_)
  refine AC.rend hF1 mixed (fun σ10 => RegOK.m1 [7, 9, 40, 41] ⟨[(7, .ptr (σ1 2) 0), (9, .ptr (σ4 5) 0), (40, .agg [I (y.coreLo), I (y.coreHi), I (y.backLo e), I (y.backHi e)]), (41, I 0)], (.box (σ0 0) (fc f)) :: (.box (σ0 1) [.bool (e)]) :: (.box (σ0 2) [I 0, I 0]) :: (.box (σ1 2) [I ((zLo f e c j1) + (x.length * y.coreLo)), I ((zHi f e c j1) + (x.length * y.coreHi))]) :: (.box (σ4 5) (Node.av x).cells) :: (.box (σ5 6) (Cable.av y).cells) :: (Ent.obj (σ6 2) (MapIs [(.bool (false), .agg [I (y.coreLo), I (y.coreHi)]), (.bool (true), .agg [I (y.earthLo), I (y.earthHi)])])) :: (.box (σ8 1) [I (y.coreLo), I (y.coreHi)]) :: (.box u0_2 (fc f)) :: (.box u1_2 [I ((nd f.nodes c j1 : Nat) : Int)]) :: (Lb1) :: (mem ++ tl1)⟩ (.cons (s_fieldAddr fld26_1 (.tmp 7 (.ptr (σ1 2) 0))) (.cons (s_load1 (cs := [I ((zLo f e c j1) + (x.length * y.coreLo)), I (zHi f e c j1)]) (c := I (zHi f e c j1)) 3 tyS3 (.tmp 53 (.ptr (σ1 2) 1)) rfl) (.cons (s_fieldAddr fld47_3 (.tmp 9 (.ptr (σ4 5) 0))) (.cons (s_load1 (cs := (Node.av x).cells) (c := I (x.length)) 4 tyS3 (.tmp 55 (.ptr (σ4 5) 3)) rfl) (.cons (s_fieldAddr fld26_1 (.tmp 12 (.ptr (σ8 1) 0))) (.cons (s_load1 (cs := [I (y.coreLo), I (y.coreHi)]) (c := I (y.coreHi)) 7 tyS3 (.tmp 57 (.ptr (σ8 1) 1)) rfl) (.cons (s_mul (.tmp 56 (I (x.length))) (.tmp 58 (I (y.coreHi))) (inK_i64 (by omega))) (.cons (s_add (.tmp 54 (I (zHi f e c j1))) (.tmp 59 (I (x.length * y.coreHi))) (inK_i64 (by omega))) (.cons (s_fieldAddr fld26_1 (.tmp 7 (.ptr (σ1 2) 0))) (.cons (s_store (cs := [I ((zLo f e c j1) + (x.length * y.coreLo)), I (zHi f e c j1)]) 3 sz3 (.tmp 61 (.ptr (σ1 2) 1)) (.tmp 60 (I ((zHi f e c j1) + (x.length * y.coreHi)))) rfl rfl rfl (Nat.le_of_ble_eq_true rfl)) .nil)))))))))) ?_)
  refine blockQ_n ?_
  refine thenQ_n ?_
  refine AC.rend hF1 mixed (fun σ11 => RegOK.m1 [7, 9, 40, 41] ⟨[(7, .ptr (σ1 2) 0), (9, .ptr (σ4 5) 0), (40, .agg [I (y.coreLo), I (y.coreHi), I (y.backLo e), I (y.backHi e)]), (41, I 1)], (.box (σ0 0) (fc f)) :: (.box (σ0 1) [.bool (e)]) :: (.box (σ0 2) [I 0, I 0]) :: (.box (σ1 2) [I ((zLo f e c j1) + (x.length * y.coreLo)), I ((zHi f e c j1) + (x.length * y.coreHi))]) :: (.box (σ4 5) (Node.av x).cells) :: (.box (σ5 6) (Cable.av y).cells) :: (Ent.obj (σ6 2) (MapIs [(.bool (false), .agg [I (y.coreLo), I (y.coreHi)]), (.bool (true), .agg [I (y.earthLo), I (y.earthHi)])])) :: (.box (σ8 1) [I (y.coreLo), I (y.coreHi)]) :: (.box u0_2 (fc f)) :: (.box u1_2 [I ((nd f.nodes c j1 : Nat) : Int)]) :: (Lb1) :: (mem ++ tl1)⟩ (.cons (s_add (.tmp 41 (I 0)) (.int .i64 (1)) (inK_i64 (by decide))) (.cons (s_move (.tmp 62 (I 1))) .nil)) ?_)
  refine thenQ_n (ACL.turn ?_)
  refine AC.rseq hF1 mixed (fun σ7 => RegOK.m1 [7, 9, 40, 41, 42] ⟨[(7, .ptr (σ1 2) 0), (9, .ptr (σ4 5) 0), (40, .agg [I (y.coreLo), I (y.coreHi), I (y.backLo e), I (y.backHi e)]), (41, I 1), (42, .bool (decide ((1 : Int) < 2)))], (.box (σ0 0) (fc f)) :: (.box (σ0 1) [.bool (e)]) :: (.box (σ0 2) [I 0, I 0]) :: (.box (σ1 2) [I ((zLo f e c j1) + (x.length * y.coreLo)), I ((zHi f e c j1) + (x.length * y.coreHi))]) :: (.box (σ4 5) (Node.av x).cells) :: (.box (σ5 6) (Cable.av y).cells) :: (Ent.obj (σ6 2) (MapIs [(.bool (false), .agg [I (y.coreLo), I (y.coreHi)]), (.bool (true), .agg [I (y.earthLo), I (y.earthHi)])])) :: (.box (σ8 1) [I (y.coreLo), I (y.coreHi)]) :: (.box u0_2 (fc f)) :: (.box u1_2 [I ((nd f.nodes c j1 : Nat) : Int)]) :: (Lb1) :: (mem ++ tl1)⟩ (.cons (s_lss (.tmp 41 (I 1)) (.int .i64 (2))) .nil) ?_)
  refine AC.cseq (decide ((1 : Int) < 2)) rfl rfl (fun hc => ?_) (fun hc => absurd hc (by simp))
  refine AC.skip ?_
  refine thenQ_n ?_
  refine AC.bseq ?_
  refine AC.rseq hF1 mixed (fun σ8 => RegOK.m1 [7, 9, 12, 40, 41] ⟨[(7, .ptr (σ1 2) 0), (9, .ptr (σ4 5) 0), (12, .ptr (σ8 1) 0), (40, .agg [I (y.coreLo), I (y.coreHi), I (y.backLo e), I (y.backHi e)]), (41, I 1)], (.box (σ0 0) (fc f)) :: (.box (σ0 1) [.bool (e)]) :: (.box (σ0 2) [I 0, I 0]) :: (.box (σ1 2) [I ((zLo f e c j1) + (x.length * y.coreLo)), I ((zHi f e c j1) + (x.length * y.coreHi))]) :: (.box (σ4 5) (Node.av x).cells) :: (.box (σ5 6) (Cable.av y).cells) :: (Ent.obj (σ6 2) (MapIs [(.bool (false), .agg [I (y.coreLo), I (y.coreHi)]), (.bool (true), .agg [I (y.earthLo), I (y.earthHi)])])) :: (.box (σ8 1) [I (y.backLo e), I (y.backHi e)]) :: (.box u0_2 (fc f)) :: (.box u1_2 [I ((nd f.nodes c j1 : Nat) : Int)]) :: (Lb1) :: (mem ++ tl1)⟩ (.cons (s_indexA (l := [I (y.backLo e), I (y.backHi e)]) arr139 tyA26 (.tmp 40 (.agg [I (y.coreLo), I (y.coreHi), I (y.backLo e), I (y.backHi e)])) (.tmp 41 (I 1)) (by decide) (by decide) rfl) (.cons (s_alloc 7 (σ8 1) zero26) (.cons (s_store (cs := [I 0, I 0]) 7 sz26 (.tmp 12 (.ptr (σ8 1) 0)) (.tmp 43 (.agg [I (y.backLo e), I (y.backHi e)])) rfl rfl rfl (Nat.le_of_ble_eq_true rfl)) .nil))) ?_)
  refine AC.rseq hF1 mixed (fun σ9 => RegOK.m1 [7, 9, 12, 40, 41] ⟨[(7, .ptr (σ1 2) 0), (9, .ptr (σ4 5) 0), (12, .ptr (σ8 1) 0), (40, .agg [I (y.coreLo), I (y.coreHi), I (y.backLo e), I (y.backHi e)]), (41, I 1)], (.box (σ0 0) (fc f)) :: (.box (σ0 1) [.bool (e)]) :: (.box (σ0 2) [I 0, I 0]) :: (.box (σ1 2) [I (((zLo f e c j1) + (x.length * y.coreLo)) + (x.length * (y.backLo e))), I ((zHi f e c j1) + (x.length * y.coreHi))]) :: (.box (σ4 5) (Node.av x).cells) :: (.box (σ5 6) (Cable.av y).cells) :: (Ent.obj (σ6 2) (MapIs [(.bool (false), .agg [I (y.coreLo), I (y.coreHi)]), (.bool (true), .agg [I (y.earthLo), I (y.earthHi)])])) :: (.box (σ8 1) [I (y.backLo e), I (y.backHi e)]) :: (.box u0_2 (fc f)) :: (.box u1_2 [I ((nd f.nodes c j1 : Nat) : Int)]) :: (Lb1) :: (mem ++ tl1)⟩ (.cons (s_fieldAddr fld26_0 (.tmp 7 (.ptr (σ1 2) 0))) (.cons (s_load1 (cs := [I ((zLo f e c j1) + (x.length * y.coreLo)), I ((zHi f e c j1) + (x.length * y.coreHi))]) (c := I ((zLo f e c j1) + (x.length * y.coreLo))) 3 tyS3 (.tmp 44 (.ptr (σ1 2) 0)) rfl) (.cons (s_fieldAddr fld47_3 (.tmp 9 (.ptr (σ4 5) 0))) (.cons (s_load1 (cs := (Node.av x).cells) (c := I (x.length)) 4 tyS3 (.tmp 46 (.ptr (σ4 5) 3)) rfl) (.cons (s_fieldAddr fld26_0 (.tmp 12 (.ptr (σ8 1) 0))) (.cons (s_load1 (cs := [I (y.backLo e), I (y.backHi e)]) (c := I (y.backLo e)) 7 tyS3 (.tmp 48 (.ptr (σ8 1) 0)) rfl) (.cons (s_mul (.tmp 47 (I (x.length))) (.tmp 49 (I (y.backLo e))) (inK_i64 (by omega))) (.cons (s_add (.tmp 45 (I ((zLo f e c j1) + (x.length * y.coreLo)))) (.tmp 50 (I (x.length * (y.backLo e)))) (inK_i64 (by omega))) (.cons (s_fieldAddr fld26_0 (.tmp 7 (.ptr (σ1 2) 0))) (.cons (s_store (cs := [I ((zLo f e c j1) + (x.length * y.coreLo)), I ((zHi f e c j1) + (x.length * y.coreHi))]) 3 sz3 (.tmp 52 (.ptr (σ1 2) 0)) (.tmp 51 (I (((zLo f e c j1) + (x.length * y.coreLo)) + (x.length * (y.backLo e))))) rfl rfl rfl (Nat.le_of_ble_eq_true rfl)) .nil)))))))))) ?_)
  refine AC.rend hF1 mixed (fun σ10 => RegOK.m1 [7, 9, 40, 41] ⟨[(7, .ptr (σ1 2) 0), (9, .ptr (σ4 5) 0), (40, .agg [I (y.coreLo), I (y.coreHi), I (y.backLo e), I (y.backHi e)]), (41, I 1)], (.box (σ0 0) (fc f)) :: (.box (σ0 1) [.bool (e)]) :: (.box (σ0 2) [I 0, I 0]) :: (.box (σ1 2) [I (((zLo f e c j1) + (x.length * y.coreLo)) + (x.length * (y.backLo e))), I (((zHi f e c j1) + (x.length * y.coreHi)) + (x.length * (y.backHi e)))]) :: (.box (σ4 5) (Node.av x).cells) :: (.box (σ5 6) (Cable.av y).cells) :: (Ent.obj (σ6 2) (MapIs [(.bool (false), .agg [I (y.coreLo), I (y.coreHi)]), (.bool (true), .agg [I (y.earthLo), I (y.earthHi)])])) :: (.box (σ8 1) [I (y.backLo e), I (y.backHi e)]) :: (.box u0_2 (fc f)) :: (.box u1_2 [I ((nd f.nodes c j1 : Nat) : Int)]) :: (Lb1) :: (mem ++ tl1)⟩ (.cons (s_fieldAddr fld26_1 (.tmp 7 (.ptr (σ1 2) 0))) (.cons (s_load1 (cs := [I (((zLo f e c j1) + (x.length * y.coreLo)) + (x.length * (y.backLo e))), I ((zHi f e c j1) + (x.length * y.coreHi))]) (c := I ((zHi f e c j1) + (x.length * y.coreHi))) 3 tyS3 (.tmp 53 (.ptr (σ1 2) 1)) rfl) (.cons (s_fieldAddr fld47_3 (.tmp 9 (.ptr (σ4 5) 0))) (.cons (s_load1 (cs := (Node.av x).cells) (c := I (x.length)) 4 tyS3 (.tmp 55 (.ptr (σ4 5) 3)) rfl) (.cons (s_fieldAddr fld26_1 (.tmp 12 (.ptr (σ8 1) 0))) (.cons (s_load1 (cs := [I (y.backLo e), I (y.backHi e)]) (c := I (y.backHi e)) 7 tyS3 (.tmp 57 (.ptr (σ8 1) 1)) rfl) (.cons (s_mul (.tmp 56 (I (x.length))) (.tmp 58 (I (y.backHi e))) (inK_i64 (by omega))) (.cons (s_add (.tmp 54 (I ((zHi f e c j1) + (x.length * y.coreHi)))) (.tmp 59 (I (x.length * (y.backHi e)))) (inK_i64 (by omega))) (.cons (s_fieldAddr fld26_1 (.tmp 7 (.ptr (σ1 2) 0))) (.cons (s_store (cs := [I (((zLo f e c j1) + (x.length * y.coreLo)) + (x.length * (y.backLo e))), I ((zHi f e c j1) + (x.length * y.coreHi))]) 3 sz3 (.tmp 61 (.ptr (σ1 2) 1)) (.tmp 60 (I (((zHi f e c j1) + (x.length * y.coreHi)) + (x.length * (y.backHi e))))) rfl rfl rfl (Nat.le_of_ble_eq_true rfl)) .nil)))))))))) ?_)
  refine blockQ_n ?_
  refine thenQ_n ?_
  refine AC.rend hF1 mixed (fun σ11 => RegOK.m1 [7, 9, 40, 41] ⟨[(7, .ptr (σ1 2) 0), (9, .ptr (σ4 5) 0), (40, .agg [I (y.coreLo), I (y.coreHi), I (y.backLo e), I (y.backHi e)]), (41, I 2)], (.box (σ0 0) (fc f)) :: (.box (σ0 1) [.bool (e)]) :: (.box (σ0 2) [I 0, I 0]) :: (.box (σ1 2) [I (((zLo f e c j1) + (x.length * y.coreLo)) + (x.length * (y.backLo e))), I (((zHi f e c j1) + (x.length * y.coreHi)) + (x.length * (y.backHi e)))]) :: (.box (σ4 5) (Node.av x).cells) :: (.box (σ5 6) (Cable.av y).cells) :: (Ent.obj (σ6 2) (MapIs [(.bool (false), .agg [I (y.coreLo), I (y.coreHi)]), (.bool (true), .agg [I (y.earthLo), I (y.earthHi)])])) :: (.box (σ8 1) [I (y.backLo e), I (y.backHi e)]) :: (.box u0_2 (fc f)) :: (.box u1_2 [I ((nd f.nodes c j1 : Nat) : Int)]) :: (Lb1) :: (mem ++ tl1)⟩ (.cons (s_add (.tmp 41 (I 1)) (.int .i64 (1)) (inK_i64 (by decide))) (.cons (s_move (.tmp 62 (I 2))) .nil)) ?_)
  refine thenQ_n (ACL.turn ?_)
  refine AC.rseq hF1 mixed (fun σ7 => RegOK.m1 [7, 9, 40, 41, 42] ⟨[(7, .ptr (σ1 2) 0), (9, .ptr (σ4 5) 0), (40, .agg [I (y.coreLo), I (y.coreHi), I (y.backLo e), I (y.backHi e)]), (41, I 2), (42, .bool (decide ((2 : Int) < 2)))], (.box (σ0 0) (fc f)) :: (.box (σ0 1) [.bool (e)]) :: (.box (σ0 2) [I 0, I 0]) :: (.box (σ1 2) [I (((zLo f e c j1) + (x.length * y.coreLo)) + (x.length * (y.backLo e))), I (((zHi f e c j1) + (x.length * y.coreHi)) + (x.length * (y.backHi e)))]) :: (.box (σ4 5) (Node.av x).cells) :: (.box (σ5 6) (Cable.av y).cells) :: (Ent.obj (σ6 2) (MapIs [(.bool (false), .agg [I (y.coreLo), I (y.coreHi)]), (.bool (true), .agg [I (y.earthLo), I (y.earthHi)])])) :: (.box (σ8 1) [I (y.backLo e), I (y.backHi e)]) :: (.box u0_2 (fc f)) :: (.box u1_2 [I ((nd f.nodes c j1 : Nat) : Int)]) :: (Lb1) :: (mem ++ tl1)⟩ (.cons (s_lss (.tmp 41 (I 2)) (.int .i64 (2))) .nil) ?_)
  refine AC.cseq (decide ((2 : Int) < 2)) rfl rfl (fun hc => absurd hc (by simp)) (fun hc => ?_)
  refine AC.exit ?_
  refine thenQ_x ?_
  refine thenQ_x ?_
  refine blockQ_x ?_
  refine blockQ_n ?_
  exact ⟨⟨[], (.box (σ0 0) (fc f)) :: (.box (σ0 1) [.bool (e)]) :: (.box (σ0 2) [I 0, I 0]) :: (.box (σ1 2) [I (((zLo f e c j1) + (x.length * y.coreLo)) + (x.length * (y.backLo e))), I (((zHi f e c j1) + (x.length * y.coreHi)) + (x.length * (y.backHi e)))]) :: .hole :: .hole :: .hole :: .hole :: (.box u0_2 (fc f)) :: (.box u1_2 [I ((nd f.nodes c j1 : Nat) : Int)]) :: (Lb1) :: (mem ++ tl1)⟩, Weak.of [4, 5, 6, 7] rfl (by kernel_rfl), (.box (σ0 0) (fc f)) :: (.box (σ0 1) [.bool (e)]) :: (.box (σ0 2) [I 0, I 0]) :: (.box (σ1 2) [I (((zLo f e c j1) + (x.length * y.coreLo)) + (x.length * (y.backLo e))), I (((zHi f e c j1) + (x.length * y.coreHi)) + (x.length * (y.backHi e)))]) :: .hole :: .hole :: .hole :: .hole :: (.box u0_2 (fc f)) :: (.box u1_2 [I ((nd f.nodes c j1 : Nat) : Int)]) :: (Lb1) :: mem, rfl, rfl, ⟨0, by subst hgy; subst hgx; rfl⟩⟩
 ·skip
  have zz := g.z_in e hcc (Nat.le_refl _)
  have gv := g.volts
  have q1 := tdiv_in (a := 1000000 * f.vLo) (b := zHi f e c (anc f.nodes c).length) (by omega) (by omega)
  have q2 := tdiv_in (a := 1000000 * f.vHi + zLo f e c (anc f.nodes c).length - 1) (b := zLo f e c (anc f.nodes c).length) (by omega) (by omega)
  refine blockQ_n ?_
  refine thenQ_n ?_
  refine AC.rq (fun σ12 => RegOK.m1 [6] ⟨[(6, .ptr (σ0 2) 0)], (.box (σ0 0) (fc f)) :: (.box (σ0 1) [.bool (e)]) :: (.box (σ0 2) [I ((1000000 * f.vLo).tdiv ((zHi f e c (anc f.nodes c).length))), I ((((1000000 * f.vHi) + (zLo f e c (anc f.nodes c).length)) - 1).tdiv ((zLo f e c (anc f.nodes c).length)))]) :: (.box (σ1 2) [I (zLo f e c (anc f.nodes c).length), I (zHi f e c (anc f.nodes c).length)]) :: .hole :: .hole :: .hole :: .hole :: (.box u0_2 (fc f)) :: (.box u1_2 [I ((nd f.nodes c (anc f.nodes c).length : Nat) : Int)]) :: .hole :: mem⟩ (.cons (s_fieldAddr fld28_3 (.tmp 3 (.ptr (σ0 0) 0))) (.cons (s_fieldAddr fld26_0 (.tmp 63 (.ptr (σ0 0) 3))) (.cons (s_load1 (cs := (fc f)) (c := I f.vLo) 0 tyS3 (.tmp 64 (.ptr (σ0 0) 3)) rfl) (.cons (s_mul (.int .i64 (1000000)) (.tmp 65 (I f.vLo)) (inK_i64 (by omega))) (.cons (s_fieldAddr fld26_1 (.tmp 7 (.ptr (σ1 2) 0))) (.cons (s_load1 (cs := [I (zLo f e c (anc f.nodes c).length), I (zHi f e c (anc f.nodes c).length)]) (c := I (zHi f e c (anc f.nodes c).length)) 3 tyS3 (.tmp 67 (.ptr (σ1 2) 1)) rfl) (.cons (s_quo (.tmp 66 (I (1000000 * f.vLo))) (.tmp 68 (I (zHi f e c (anc f.nodes c).length))) (by omega) (inK_i64 (by omega))) (.cons (s_fieldAddr fld28_3 (.tmp 3 (.ptr (σ0 0) 0))) (.cons (s_fieldAddr fld26_1 (.tmp 70 (.ptr (σ0 0) 3))) (.cons (s_load1 (cs := (fc f)) (c := I f.vHi) 0 tyS3 (.tmp 71 (.ptr (σ0 0) 4)) rfl) (.cons (s_mul (.int .i64 (1000000)) (.tmp 72 (I f.vHi)) (inK_i64 (by omega))) (.cons (s_fieldAddr fld26_0 (.tmp 7 (.ptr (σ1 2) 0))) (.cons (s_load1 (cs := [I (zLo f e c (anc f.nodes c).length), I (zHi f e c (anc f.nodes c).length)]) (c := I (zLo f e c (anc f.nodes c).length)) 3 tyS3 (.tmp 74 (.ptr (σ1 2) 0)) rfl) (.cons (s_add (.tmp 73 (I (1000000 * f.vHi))) (.tmp 75 (I (zLo f e c (anc f.nodes c).length))) (inK_i64 (by omega))) (.cons (s_sub (.tmp 76 (I ((1000000 * f.vHi) + (zLo f e c (anc f.nodes c).length)))) (.int .i64 (1)) (inK_i64 (by omega))) (.cons (s_fieldAddr fld26_0 (.tmp 7 (.ptr (σ1 2) 0))) (.cons (s_load1 (cs := [I (zLo f e c (anc f.nodes c).length), I (zHi f e c (anc f.nodes c).length)]) (c := I (zLo f e c (anc f.nodes c).length)) 3 tyS3 (.tmp 78 (.ptr (σ1 2) 0)) rfl) (.cons (s_quo (.tmp 77 (I (((1000000 * f.vHi) + (zLo f e c (anc f.nodes c).length)) - 1))) (.tmp 79 (I (zLo f e c (anc f.nodes c).length))) (by omega) (inK_i64 (by omega))) (.cons (s_build (l := [I ((1000000 * f.vLo).tdiv ((zHi f e c (anc f.nodes c).length))), I ((((1000000 * f.vHi) + (zLo f e c (anc f.nodes c).length)) - 1).tdiv ((zLo f e c (anc f.nodes c).length)))]) zero26 plc26 (.cons rfl (.tmp 69 (I ((1000000 * f.vLo).tdiv ((zHi f e c (anc f.nodes c).length))))) (.cons rfl (.tmp 80 (I ((((1000000 * f.vHi) + (zLo f e c (anc f.nodes c).length)) - 1).tdiv ((zLo f e c (anc f.nodes c).length))))) .nil)) rfl) (.cons (s_store (cs := [I 0, I 0]) 2 sz26 (.tmp 6 (.ptr (σ0 2) 0)) (.tmp 81 (.agg [I ((1000000 * f.vLo).tdiv ((zHi f e c (anc f.nodes c).length))), I ((((1000000 * f.vHi) + (zLo f e c (anc f.nodes c).length)) - 1).tdiv ((zLo f e c (anc f.nodes c).length)))])) rfl rfl rfl (Nat.le_of_ble_eq_true rfl)) .nil)))))))))))))))))))) ?_)
  refine AC.ret ?_
  exact FinQ.ret (result1 rfl (res_cell (s := (σ0 2)) (cs := [I ((1000000 * f.vLo).tdiv ((zHi f e c (anc f.nodes c).length))), I ((((1000000 * f.vHi) + (zLo f e c (anc f.nodes c).length)) - 1).tdiv ((zLo f e c (anc f.nodes c).length)))]) (l := [I ((1000000 * f.vLo).tdiv ((zHi f e c (anc f.nodes c).length))), I ((((1000000 * f.vHi) + (zLo f e c (anc f.nodes c).length)) - 1).tdiv ((zLo f e c (anc f.nodes c).length)))]) 2 rfl rfl rfl tyA26 rfl rfl)) ⟨by rfl, rfl⟩
end Go.Proofs.Ytahdgadjpkcnjaa
end
section
set_option maxRecDepth 100000
namespace Go.Proofs.Ytahdgadjpkcnjaa
open Go.Proofs
theorem F97 (l : List Guard) (f : FuncId) (caps : List AV) (es : List Ent) (p : Guard → Bool) (hcall : Callable Try.prog f) (hf : ∀ x : Guard, x ∈ l → EffR Try.prog f ([] ++ [Guard.av x] ++ caps) es (.bool (p x))) (hl : (l.length : Int) ≤ 9223372036854775807) : EffR Try.prog 97 [.slice ((l).map Guard.av) none, .func f [] caps] es (.int .i64 (idxI p l)) := by
 intro mem hes
 refine Meets.body 0 Try.func97 rfl rfl ?_
 refine AC.rq (fun σ0 => RegOK.m1 [0, 1] ⟨[(0, .slice ((l).map Guard.av) none), (1, .func f [] caps)], mem⟩ (.cons (s_assign (.int .i64 (0))) .nil) ?_)
 refine AC.seq ?_
 refine AC.rq (fun σ1 => RegOK.m1 [0, 1, 7, 8] ⟨[(0, .slice ((l).map Guard.av) none), (1, .func f [] caps), (7, I (l.length : Int)), (8, I 0)], mem⟩ (.cons (s_move (.tmp 0 (.slice ((l).map Guard.av) none))) (.cons (s_lenM (l := l) slc90 (.tmp 6 (.slice ((l).map Guard.av) none))) (.cons (s_move (.int .i64 (0))) .nil))) ?_)
 refine AC.block ?_
 refine AC.loopW (fun mz T => ∃ (k : Nat), mz = l.length - k ∧ ((k ≤ l.length) ∧ (∀ j : Nat, j < k → p (l.getD j default) = false)) ∧ T = ⟨[(0, .slice ((l).map Guard.av) none), (1, .func f [] caps), (7, I (l.length : Int)), (8, I (k : Int))], mem⟩) _ ⟨[(0, .slice ((l).map Guard.av) none), (1, .func f [] caps), (7, I (l.length : Int)), (8, I ((0) : Int))], mem⟩ ⟨0, rfl, ⟨(by omega), (by intro j hj; omega)⟩, rfl⟩ (Weak.of [] (by kernel_rfl) (by kernel_rfl)) ?_ Fr.plain
 rintro _ _ ⟨k, rfl, ⟨hk, hn⟩, rfl⟩
 refine AC.rq (fun σ2 => RegOK.m1 [0, 1, 7, 8, 9] ⟨[(0, .slice ((l).map Guard.av) none), (1, .func f [] caps), (7, I (l.length : Int)), (8, I (k : Int)), (9, .bool (decide ((k : Int) < (l.length : Int))))], mem⟩ (.cons (s_lss (.tmp 8 (I (k : Int))) (.tmp 7 (I (l.length : Int)))) .nil) ?_)
 refine AC.cseq (decide ((k : Int) < (l.length : Int))) rfl rfl (fun hc => ?_) (fun hc => ?_)
 ·have q1 := iD.1 hc
  refine AC.skip ?_
  refine thenQ_n ?_
  refine AC.bseq ?_
  refine AC.rq (fun σ3 => RegOK.m1 [0, 1, 5, 7, 8] ⟨[(0, .slice ((l).map Guard.av) none), (1, .func f [] caps), (5, I (k : Int)), (7, I (l.length : Int)), (8, I (k : Int))], mem⟩ (.cons (s_move (.tmp 8 (I (k : Int)))) (.cons (s_assign (.tmp 10 (I (k : Int)))) .nil)) ?_)
  refine AC.rq (fun σ4 => RegOK.mkN [0, 1, 5, 7, 8, 16] ⟨[(0, .slice ((l).map Guard.av) none), (1, .func f [] caps), (5, I (k : Int)), (7, I (l.length : Int)), (8, I (k : Int)), (16, .bool ((p (l.getD k default))))], mem⟩ (.cons (s_move (.tmp 1 (.func f [] caps))) (.cons (s_move (.tmp 0 (.slice ((l).map Guard.av) none))) (.cons (s_move (.tmp 5 (I (k : Int)))) (.cons (s_ixM (l := l) (f := Guard.av) (default) slc90 (.tmp 12 (.slice ((l).map Guard.av) none)) (.tmp 13 (I (k : Int))) (by omega) rfl) (.cons (s_loadAe (l := (Guard.av (l.getD k default)).cells) tyA96 (.tmp 14 (.eptr (Guard.av (l.getD k default)) 0)) rfl rfl) (.cons (s_callR (r := .bool ((p (l.getD k default)))) (es := (es)) (.tmp 11 (.func f [] caps)) (.cons (.tmp 15 (Guard.av (l.getD k default))) .nil) hcall (hf (l.getD k default) (getD_mem (by omega)))) .nil)))))) (by kernel_rfl) (by kernel_rfl) (by kernel_rfl) ⟨trivial, trivial, trivial, trivial, trivial, (fun lq => (Has.left (Has.right (pre := []) hes))), trivial⟩ (by kernel_rfl) (by kernel_rfl) (by kernel_rfl) ?_)
  refine AC.cend ((p (l.getD k default))) rfl rfl (fun hc => ?_) (fun hc => ?_)
  ·have q2 := iB.1 hc
   refine AC.rq (fun σ5 => RegOK.m1 [4] ⟨[(4, I (k : Int))], mem⟩ (.cons (s_move (.tmp 5 (I (k : Int)))) (.cons (s_assign (.tmp 17 (I (k : Int)))) .nil)) ?_)
   refine AC.ret ?_
   refine blockQ_r ?_
   refine thenQ_r ?_
   refine thenQ_r ?_
   refine blockQ_r ?_
   refine thenQ_r ?_
   exact FinQ.ret (result1 rfl (res_tmp (v := I (k : Int)) rfl rfl)) ⟨by first | exact congrArg I (idx_found default (by omega) hn hc) | exact congrArg I (idx_none default (by intro j hj; exact hn j (by omega))), rfl⟩
  ·have q3 := iF iB hc
   refine AC.skip ?_
   refine blockQ_n ?_
   refine thenQ_n ?_
   refine AC.re (fun σ6 => RegOK.m1 [0, 1, 7, 8] ⟨[(0, .slice ((l).map Guard.av) none), (1, .func f [] caps), (7, I (l.length : Int)), (8, I ((k : Int) + 1))], mem⟩ (.cons (s_add (.tmp 8 (I (k : Int))) (.int .i64 (1)) (inK_i64 (by omega))) (.cons (s_move (.tmp 18 (I ((k : Int) + 1)))) .nil)) ?_)
   refine thenQ_n ⟨_, ?_, _, ⟨(k + 1), rfl, ⟨(by omega), (by intro j hj; rcases Decidable.em (j = k) with h | h; (subst h; exact hc); exact hn j (by omega))⟩, rfl⟩, Weak.of [] (by kernel_rfl) (by kernel_rfl)⟩
   omega
 ·have q4 := iF iD hc
  refine AC.exit ?_
  refine thenQ_x ?_
  refine thenQ_x ?_
  refine blockQ_x ?_
  refine thenQ_n ?_
  refine AC.rq (fun σ7 => RegOK.m1 [4] ⟨[(4, I (-1))], mem⟩ (.cons (s_assign (.int .i64 (-1))) .nil) ?_)
  refine AC.ret ?_
  exact FinQ.ret (result1 rfl (res_tmp (v := I (-1)) rfl rfl)) ⟨by first | exact congrArg I (idx_found default (by omega) hn hc) | exact congrArg I (idx_none default (by intro j hj; exact hn j (by omega))), rfl⟩
theorem F55 (l : List Guard) (f : FuncId) (caps : List AV) (es : List Ent) (p : Guard → Bool) (hcall : Callable Try.prog f) (hf : ∀ x : Guard, x ∈ l → EffR Try.prog f ([] ++ [Guard.av x] ++ caps) es (.bool (p x))) (hl : (l.length : Int) ≤ 9223372036854775807) : EffR Try.prog 55 [.slice ((l).map Guard.av) none, .func f [] caps] es (.bool (l.any p)) := by
 intro mem hes
 refine Meets.body 0 Try.func55 rfl rfl ?_
 refine AC.rq (fun σ0 => RegOK.m1 [0, 1] ⟨[(0, .slice ((l).map Guard.av) none), (1, .func f [] caps)], mem⟩ (.cons (s_assign (.bool false)) .nil) ?_)
 refine AC.rq (fun σ1 => RegOK.mkN [4] ⟨[(4, .bool (decide (0 ≤ (idxI p l))))], mem⟩ (.cons (s_move (.tmp 0 (.slice ((l).map Guard.av) none))) (.cons (s_move (.tmp 1 (.func f [] caps))) (.cons (s_callR (r := I (idxI p l)) (es := (es)) (.func 97) (.cons (.tmp 5 (.slice ((l).map Guard.av) none)) (.cons (.tmp 6 (.func f [] caps)) .nil)) call97 (F97 l f caps es p hcall hf hl)) (.cons (s_geq (.tmp 7 (I (idxI p l))) (.int .i64 (0))) (.cons (s_assign (.tmp 8 (.bool (decide (0 ≤ (idxI p l)))))) .nil))))) (by kernel_rfl) (by kernel_rfl) (by kernel_rfl) ⟨trivial, trivial, (fun lq => (Has.left (Has.right (pre := []) hes))), trivial, trivial, trivial⟩ (by kernel_rfl) (by kernel_rfl) (by kernel_rfl) ?_)
 refine AC.ret ?_
 exact FinQ.ret (result1 rfl (res_tmp (v := .bool (decide (0 ≤ (idxI p l)))) rfl rfl)) ⟨by exact congrArg AV.bool (idx_any p l), rfl⟩
theorem F126 (l : List Cable) (f : FuncId) (caps : List AV) (es : List Ent) (p : Cable → Bool) (hcall : Callable Try.prog f) (hf : ∀ x : Cable, x ∈ l → EffR Try.prog f ([] ++ [Cable.av x] ++ caps) es (.bool (p x))) (hl : (l.length : Int) ≤ 9223372036854775807) : EffR Try.prog 126 [.slice ((l).map Cable.av) none, .func f [] caps] es (.int .i64 (idxI p l)) := by
 intro mem hes
 refine Meets.body 0 Try.func126 rfl rfl ?_
 refine AC.rq (fun σ0 => RegOK.m1 [0, 1] ⟨[(0, .slice ((l).map Cable.av) none), (1, .func f [] caps)], mem⟩ (.cons (s_assign (.int .i64 (0))) .nil) ?_)
 refine AC.seq ?_
 refine AC.rq (fun σ1 => RegOK.m1 [0, 1, 7, 8] ⟨[(0, .slice ((l).map Cable.av) none), (1, .func f [] caps), (7, I (l.length : Int)), (8, I 0)], mem⟩ (.cons (s_move (.tmp 0 (.slice ((l).map Cable.av) none))) (.cons (s_lenM (l := l) slc22 (.tmp 6 (.slice ((l).map Cable.av) none))) (.cons (s_move (.int .i64 (0))) .nil))) ?_)
 refine AC.block ?_
 refine AC.loopW (fun mz T => ∃ (k : Nat), mz = l.length - k ∧ ((k ≤ l.length) ∧ (∀ j : Nat, j < k → p (l.getD j default) = false)) ∧ T = ⟨[(0, .slice ((l).map Cable.av) none), (1, .func f [] caps), (7, I (l.length : Int)), (8, I (k : Int))], mem⟩) _ ⟨[(0, .slice ((l).map Cable.av) none), (1, .func f [] caps), (7, I (l.length : Int)), (8, I ((0) : Int))], mem⟩ ⟨0, rfl, ⟨(by omega), (by intro j hj; omega)⟩, rfl⟩ (Weak.of [] (by kernel_rfl) (by kernel_rfl)) ?_ Fr.plain
 rintro _ _ ⟨k, rfl, ⟨hk, hn⟩, rfl⟩
 refine AC.rq (fun σ2 => RegOK.m1 [0, 1, 7, 8, 9] ⟨[(0, .slice ((l).map Cable.av) none), (1, .func f [] caps), (7, I (l.length : Int)), (8, I (k : Int)), (9, .bool (decide ((k : Int) < (l.length : Int))))], mem⟩ (.cons (s_lss (.tmp 8 (I (k : Int))) (.tmp 7 (I (l.length : Int)))) .nil) ?_)
 refine AC.cseq (decide ((k : Int) < (l.length : Int))) rfl rfl (fun hc => ?_) (fun hc => ?_)
 ·have q1 := iD.1 hc
  refine AC.skip ?_
  refine thenQ_n ?_
  refine AC.bseq ?_
  refine AC.rq (fun σ3 => RegOK.m1 [0, 1, 5, 7, 8] ⟨[(0, .slice ((l).map Cable.av) none), (1, .func f [] caps), (5, I (k : Int)), (7, I (l.length : Int)), (8, I (k : Int))], mem⟩ (.cons (s_move (.tmp 8 (I (k : Int)))) (.cons (s_assign (.tmp 10 (I (k : Int)))) .nil)) ?_)
  refine AC.rq (fun σ4 => RegOK.mkN [0, 1, 5, 7, 8, 16] ⟨[(0, .slice ((l).map Cable.av) none), (1, .func f [] caps), (5, I (k : Int)), (7, I (l.length : Int)), (8, I (k : Int)), (16, .bool ((p (l.getD k default))))], mem⟩ (.cons (s_move (.tmp 1 (.func f [] caps))) (.cons (s_move (.tmp 0 (.slice ((l).map Cable.av) none))) (.cons (s_move (.tmp 5 (I (k : Int)))) (.cons (s_ixM (l := l) (f := Cable.av) (default) slc22 (.tmp 12 (.slice ((l).map Cable.av) none)) (.tmp 13 (I (k : Int))) (by omega) rfl) (.cons (s_loadAe (l := (Cable.av (l.getD k default)).cells) tyA71 (.tmp 14 (.eptr (Cable.av (l.getD k default)) 0)) rfl rfl) (.cons (s_callR (r := .bool ((p (l.getD k default)))) (es := (es)) (.tmp 11 (.func f [] caps)) (.cons (.tmp 15 (Cable.av (l.getD k default))) .nil) hcall (hf (l.getD k default) (getD_mem (by omega)))) .nil)))))) (by kernel_rfl) (by kernel_rfl) (by kernel_rfl) ⟨trivial, trivial, trivial, trivial, trivial, (fun lq => (Has.left (Has.right (pre := []) hes))), trivial⟩ (by kernel_rfl) (by kernel_rfl) (by kernel_rfl) ?_)
  refine AC.cend ((p (l.getD k default))) rfl rfl (fun hc => ?_) (fun hc => ?_)
  ·have q2 := iB.1 hc
   refine AC.rq (fun σ5 => RegOK.m1 [4] ⟨[(4, I (k : Int))], mem⟩ (.cons (s_move (.tmp 5 (I (k : Int)))) (.cons (s_assign (.tmp 17 (I (k : Int)))) .nil)) ?_)
   refine AC.ret ?_
   refine blockQ_r ?_
   refine thenQ_r ?_
   refine thenQ_r ?_
   refine blockQ_r ?_
   refine thenQ_r ?_
   exact FinQ.ret (result1 rfl (res_tmp (v := I (k : Int)) rfl rfl)) ⟨by first | exact congrArg I (idx_found default (by omega) hn hc) | exact congrArg I (idx_none default (by intro j hj; exact hn j (by omega))), rfl⟩
  ·have q3 := iF iB hc
   refine AC.skip ?_
   refine blockQ_n ?_
   refine thenQ_n ?_
   refine AC.re (fun σ6 => RegOK.m1 [0, 1, 7, 8] ⟨[(0, .slice ((l).map Cable.av) none), (1, .func f [] caps), (7, I (l.length : Int)), (8, I ((k : Int) + 1))], mem⟩ (.cons (s_add (.tmp 8 (I (k : Int))) (.int .i64 (1)) (inK_i64 (by omega))) (.cons (s_move (.tmp 18 (I ((k : Int) + 1)))) .nil)) ?_)
   refine thenQ_n ⟨_, ?_, _, ⟨(k + 1), rfl, ⟨(by omega), (by intro j hj; rcases Decidable.em (j = k) with h | h; (subst h; exact hc); exact hn j (by omega))⟩, rfl⟩, Weak.of [] (by kernel_rfl) (by kernel_rfl)⟩
   omega
 ·have q4 := iF iD hc
  refine AC.exit ?_
  refine thenQ_x ?_
  refine thenQ_x ?_
  refine blockQ_x ?_
  refine thenQ_n ?_
  refine AC.rq (fun σ7 => RegOK.m1 [4] ⟨[(4, I (-1))], mem⟩ (.cons (s_assign (.int .i64 (-1))) .nil) ?_)
  refine AC.ret ?_
  exact FinQ.ret (result1 rfl (res_tmp (v := I (-1)) rfl rfl)) ⟨by first | exact congrArg I (idx_found default (by omega) hn hc) | exact congrArg I (idx_none default (by intro j hj; exact hn j (by omega))), rfl⟩
theorem F105 (l : List Cable) (f : FuncId) (caps : List AV) (es : List Ent) (p : Cable → Bool) (hcall : Callable Try.prog f) (hf : ∀ x : Cable, x ∈ l → EffR Try.prog f ([] ++ [Cable.av x] ++ caps) es (.bool (p x))) (hl : (l.length : Int) ≤ 9223372036854775807) : EffR Try.prog 105 [.slice ((l).map Cable.av) none, .func f [] caps] es (.bool (l.any p)) := by
 intro mem hes
 refine Meets.body 0 Try.func105 rfl rfl ?_
 refine AC.rq (fun σ0 => RegOK.m1 [0, 1] ⟨[(0, .slice ((l).map Cable.av) none), (1, .func f [] caps)], mem⟩ (.cons (s_assign (.bool false)) .nil) ?_)
 refine AC.rq (fun σ1 => RegOK.mkN [4] ⟨[(4, .bool (decide (0 ≤ (idxI p l))))], mem⟩ (.cons (s_move (.tmp 0 (.slice ((l).map Cable.av) none))) (.cons (s_move (.tmp 1 (.func f [] caps))) (.cons (s_callR (r := I (idxI p l)) (es := (es)) (.func 126) (.cons (.tmp 5 (.slice ((l).map Cable.av) none)) (.cons (.tmp 6 (.func f [] caps)) .nil)) call126 (F126 l f caps es p hcall hf hl)) (.cons (s_geq (.tmp 7 (I (idxI p l))) (.int .i64 (0))) (.cons (s_assign (.tmp 8 (.bool (decide (0 ≤ (idxI p l)))))) .nil))))) (by kernel_rfl) (by kernel_rfl) (by kernel_rfl) ⟨trivial, trivial, (fun lq => (Has.left (Has.right (pre := []) hes))), trivial, trivial, trivial⟩ (by kernel_rfl) (by kernel_rfl) (by kernel_rfl) ?_)
 refine AC.ret ?_
 exact FinQ.ret (result1 rfl (res_tmp (v := .bool (decide (0 ≤ (idxI p l)))) rfl rfl)) ⟨by exact congrArg AV.bool (idx_any p l), rfl⟩
theorem F127 (l : List Fuse) (f : FuncId) (caps : List AV) (es : List Ent) (p : Fuse → Bool) (hcall : Callable Try.prog f) (hf : ∀ x : Fuse, x ∈ l → EffR Try.prog f ([] ++ [Fuse.av x] ++ caps) es (.bool (p x))) (hl : (l.length : Int) ≤ 9223372036854775807) : EffR Try.prog 127 [.slice ((l).map Fuse.av) none, .func f [] caps] es (.int .i64 (idxI p l)) := by
 intro mem hes
 refine Meets.body 0 Try.func127 rfl rfl ?_
 refine AC.rq (fun σ0 => RegOK.m1 [0, 1] ⟨[(0, .slice ((l).map Fuse.av) none), (1, .func f [] caps)], mem⟩ (.cons (s_assign (.int .i64 (0))) .nil) ?_)
 refine AC.seq ?_
 refine AC.rq (fun σ1 => RegOK.m1 [0, 1, 7, 8] ⟨[(0, .slice ((l).map Fuse.av) none), (1, .func f [] caps), (7, I (l.length : Int)), (8, I 0)], mem⟩ (.cons (s_move (.tmp 0 (.slice ((l).map Fuse.av) none))) (.cons (s_lenM (l := l) slc23 (.tmp 6 (.slice ((l).map Fuse.av) none))) (.cons (s_move (.int .i64 (0))) .nil))) ?_)
 refine AC.block ?_
 refine AC.loopW (fun mz T => ∃ (k : Nat), mz = l.length - k ∧ ((k ≤ l.length) ∧ (∀ j : Nat, j < k → p (l.getD j default) = false)) ∧ T = ⟨[(0, .slice ((l).map Fuse.av) none), (1, .func f [] caps), (7, I (l.length : Int)), (8, I (k : Int))], mem⟩) _ ⟨[(0, .slice ((l).map Fuse.av) none), (1, .func f [] caps), (7, I (l.length : Int)), (8, I ((0) : Int))], mem⟩ ⟨0, rfl, ⟨(by omega), (by intro j hj; omega)⟩, rfl⟩ (Weak.of [] (by kernel_rfl) (by kernel_rfl)) ?_ Fr.plain
 rintro _ _ ⟨k, rfl, ⟨hk, hn⟩, rfl⟩
 refine AC.rq (fun σ2 => RegOK.m1 [0, 1, 7, 8, 9] ⟨[(0, .slice ((l).map Fuse.av) none), (1, .func f [] caps), (7, I (l.length : Int)), (8, I (k : Int)), (9, .bool (decide ((k : Int) < (l.length : Int))))], mem⟩ (.cons (s_lss (.tmp 8 (I (k : Int))) (.tmp 7 (I (l.length : Int)))) .nil) ?_)
 refine AC.cseq (decide ((k : Int) < (l.length : Int))) rfl rfl (fun hc => ?_) (fun hc => ?_)
 ·have q1 := iD.1 hc
  refine AC.skip ?_
  refine thenQ_n ?_
  refine AC.bseq ?_
  refine AC.rq (fun σ3 => RegOK.m1 [0, 1, 5, 7, 8] ⟨[(0, .slice ((l).map Fuse.av) none), (1, .func f [] caps), (5, I (k : Int)), (7, I (l.length : Int)), (8, I (k : Int))], mem⟩ (.cons (s_move (.tmp 8 (I (k : Int)))) (.cons (s_assign (.tmp 10 (I (k : Int)))) .nil)) ?_)
  refine AC.rq (fun σ4 => RegOK.mkN [0, 1, 5, 7, 8, 16] ⟨[(0, .slice ((l).map Fuse.av) none), (1, .func f [] caps), (5, I (k : Int)), (7, I (l.length : Int)), (8, I (k : Int)), (16, .bool ((p (l.getD k default))))], mem⟩ (.cons (s_move (.tmp 1 (.func f [] caps))) (.cons (s_move (.tmp 0 (.slice ((l).map Fuse.av) none))) (.cons (s_move (.tmp 5 (I (k : Int)))) (.cons (s_ixM (l := l) (f := Fuse.av) (default) slc23 (.tmp 12 (.slice ((l).map Fuse.av) none)) (.tmp 13 (I (k : Int))) (by omega) rfl) (.cons (s_loadAe (l := (Fuse.av (l.getD k default)).cells) tyA94 (.tmp 14 (.eptr (Fuse.av (l.getD k default)) 0)) rfl rfl) (.cons (s_callR (r := .bool ((p (l.getD k default)))) (es := (es)) (.tmp 11 (.func f [] caps)) (.cons (.tmp 15 (Fuse.av (l.getD k default))) .nil) hcall (hf (l.getD k default) (getD_mem (by omega)))) .nil)))))) (by kernel_rfl) (by kernel_rfl) (by kernel_rfl) ⟨trivial, trivial, trivial, trivial, trivial, (fun lq => (Has.left (Has.right (pre := []) hes))), trivial⟩ (by kernel_rfl) (by kernel_rfl) (by kernel_rfl) ?_)
  refine AC.cend ((p (l.getD k default))) rfl rfl (fun hc => ?_) (fun hc => ?_)
  ·have q2 := iB.1 hc
   refine AC.rq (fun σ5 => RegOK.m1 [4] ⟨[(4, I (k : Int))], mem⟩ (.cons (s_move (.tmp 5 (I (k : Int)))) (.cons (s_assign (.tmp 17 (I (k : Int)))) .nil)) ?_)
   refine AC.ret ?_
   refine blockQ_r ?_
   refine thenQ_r ?_
   refine thenQ_r ?_
   refine blockQ_r ?_
   refine thenQ_r ?_
   exact FinQ.ret (result1 rfl (res_tmp (v := I (k : Int)) rfl rfl)) ⟨by first | exact congrArg I (idx_found default (by omega) hn hc) | exact congrArg I (idx_none default (by intro j hj; exact hn j (by omega))), rfl⟩
  ·have q3 := iF iB hc
   refine AC.skip ?_
   refine blockQ_n ?_
   refine thenQ_n ?_
   refine AC.re (fun σ6 => RegOK.m1 [0, 1, 7, 8] ⟨[(0, .slice ((l).map Fuse.av) none), (1, .func f [] caps), (7, I (l.length : Int)), (8, I ((k : Int) + 1))], mem⟩ (.cons (s_add (.tmp 8 (I (k : Int))) (.int .i64 (1)) (inK_i64 (by omega))) (.cons (s_move (.tmp 18 (I ((k : Int) + 1)))) .nil)) ?_)
   refine thenQ_n ⟨_, ?_, _, ⟨(k + 1), rfl, ⟨(by omega), (by intro j hj; rcases Decidable.em (j = k) with h | h; (subst h; exact hc); exact hn j (by omega))⟩, rfl⟩, Weak.of [] (by kernel_rfl) (by kernel_rfl)⟩
   omega
 ·have q4 := iF iD hc
  refine AC.exit ?_
  refine thenQ_x ?_
  refine thenQ_x ?_
  refine blockQ_x ?_
  refine thenQ_n ?_
  refine AC.rq (fun σ7 => RegOK.m1 [4] ⟨[(4, I (-1))], mem⟩ (.cons (s_assign (.int .i64 (-1))) .nil) ?_)
  refine AC.ret ?_
  exact FinQ.ret (result1 rfl (res_tmp (v := I (-1)) rfl rfl)) ⟨by first | exact congrArg I (idx_found default (by omega) hn hc) | exact congrArg I (idx_none default (by intro j hj; exact hn j (by omega))), rfl⟩
theorem F107 (l : List Fuse) (f : FuncId) (caps : List AV) (es : List Ent) (p : Fuse → Bool) (hcall : Callable Try.prog f) (hf : ∀ x : Fuse, x ∈ l → EffR Try.prog f ([] ++ [Fuse.av x] ++ caps) es (.bool (p x))) (hl : (l.length : Int) ≤ 9223372036854775807) : EffR Try.prog 107 [.slice ((l).map Fuse.av) none, .func f [] caps] es (.bool (l.any p)) := by
 intro mem hes
 refine Meets.body 0 Try.func107 rfl rfl ?_
 refine AC.rq (fun σ0 => RegOK.m1 [0, 1] ⟨[(0, .slice ((l).map Fuse.av) none), (1, .func f [] caps)], mem⟩ (.cons (s_assign (.bool false)) .nil) ?_)
 refine AC.rq (fun σ1 => RegOK.mkN [4] ⟨[(4, .bool (decide (0 ≤ (idxI p l))))], mem⟩ (.cons (s_move (.tmp 0 (.slice ((l).map Fuse.av) none))) (.cons (s_move (.tmp 1 (.func f [] caps))) (.cons (s_callR (r := I (idxI p l)) (es := (es)) (.func 127) (.cons (.tmp 5 (.slice ((l).map Fuse.av) none)) (.cons (.tmp 6 (.func f [] caps)) .nil)) call127 (F127 l f caps es p hcall hf hl)) (.cons (s_geq (.tmp 7 (I (idxI p l))) (.int .i64 (0))) (.cons (s_assign (.tmp 8 (.bool (decide (0 ≤ (idxI p l)))))) .nil))))) (by kernel_rfl) (by kernel_rfl) (by kernel_rfl) ⟨trivial, trivial, (fun lq => (Has.left (Has.right (pre := []) hes))), trivial, trivial, trivial⟩ (by kernel_rfl) (by kernel_rfl) (by kernel_rfl) ?_)
 refine AC.ret ?_
 exact FinQ.ret (result1 rfl (res_tmp (v := .bool (decide (0 ≤ (idxI p l)))) rfl rfl)) ⟨by exact congrArg AV.bool (idx_any p l), rfl⟩
theorem F128 (l : List Point) (f : FuncId) (caps : List AV) (es : List Ent) (p : Point → Bool) (hcall : Callable Try.prog f) (hf : ∀ x : Point, x ∈ l → EffR Try.prog f ([] ++ [Point.av x] ++ caps) es (.bool (p x))) (hl : (l.length : Int) ≤ 9223372036854775807) : EffR Try.prog 128 [.slice ((l).map Point.av) none, .func f [] caps] es (.int .i64 (idxI p l)) := by
 intro mem hes
 refine Meets.body 0 Try.func128 rfl rfl ?_
 refine AC.rq (fun σ0 => RegOK.m1 [0, 1] ⟨[(0, .slice ((l).map Point.av) none), (1, .func f [] caps)], mem⟩ (.cons (s_assign (.int .i64 (0))) .nil) ?_)
 refine AC.seq ?_
 refine AC.rq (fun σ1 => RegOK.m1 [0, 1, 7, 8] ⟨[(0, .slice ((l).map Point.av) none), (1, .func f [] caps), (7, I (l.length : Int)), (8, I 0)], mem⟩ (.cons (s_move (.tmp 0 (.slice ((l).map Point.av) none))) (.cons (s_lenM (l := l) slc92 (.tmp 6 (.slice ((l).map Point.av) none))) (.cons (s_move (.int .i64 (0))) .nil))) ?_)
 refine AC.block ?_
 refine AC.loopW (fun mz T => ∃ (k : Nat), mz = l.length - k ∧ ((k ≤ l.length) ∧ (∀ j : Nat, j < k → p (l.getD j default) = false)) ∧ T = ⟨[(0, .slice ((l).map Point.av) none), (1, .func f [] caps), (7, I (l.length : Int)), (8, I (k : Int))], mem⟩) _ ⟨[(0, .slice ((l).map Point.av) none), (1, .func f [] caps), (7, I (l.length : Int)), (8, I ((0) : Int))], mem⟩ ⟨0, rfl, ⟨(by omega), (by intro j hj; omega)⟩, rfl⟩ (Weak.of [] (by kernel_rfl) (by kernel_rfl)) ?_ Fr.plain
 rintro _ _ ⟨k, rfl, ⟨hk, hn⟩, rfl⟩
 refine AC.rq (fun σ2 => RegOK.m1 [0, 1, 7, 8, 9] ⟨[(0, .slice ((l).map Point.av) none), (1, .func f [] caps), (7, I (l.length : Int)), (8, I (k : Int)), (9, .bool (decide ((k : Int) < (l.length : Int))))], mem⟩ (.cons (s_lss (.tmp 8 (I (k : Int))) (.tmp 7 (I (l.length : Int)))) .nil) ?_)
 refine AC.cseq (decide ((k : Int) < (l.length : Int))) rfl rfl (fun hc => ?_) (fun hc => ?_)
 ·have q1 := iD.1 hc
  refine AC.skip ?_
  refine thenQ_n ?_
  refine AC.bseq ?_
  refine AC.rq (fun σ3 => RegOK.m1 [0, 1, 5, 7, 8] ⟨[(0, .slice ((l).map Point.av) none), (1, .func f [] caps), (5, I (k : Int)), (7, I (l.length : Int)), (8, I (k : Int))], mem⟩ (.cons (s_move (.tmp 8 (I (k : Int)))) (.cons (s_assign (.tmp 10 (I (k : Int)))) .nil)) ?_)
  refine AC.rq (fun σ4 => RegOK.mkN [0, 1, 5, 7, 8, 16] ⟨[(0, .slice ((l).map Point.av) none), (1, .func f [] caps), (5, I (k : Int)), (7, I (l.length : Int)), (8, I (k : Int)), (16, .bool ((p (l.getD k default))))], mem⟩ (.cons (s_move (.tmp 1 (.func f [] caps))) (.cons (s_move (.tmp 0 (.slice ((l).map Point.av) none))) (.cons (s_move (.tmp 5 (I (k : Int)))) (.cons (s_ixM (l := l) (f := Point.av) (default) slc92 (.tmp 12 (.slice ((l).map Point.av) none)) (.tmp 13 (I (k : Int))) (by omega) rfl) (.cons (s_loadAe (l := (Point.av (l.getD k default)).cells) tyA141 (.tmp 14 (.eptr (Point.av (l.getD k default)) 0)) rfl rfl) (.cons (s_callR (r := .bool ((p (l.getD k default)))) (es := (es)) (.tmp 11 (.func f [] caps)) (.cons (.tmp 15 (Point.av (l.getD k default))) .nil) hcall (hf (l.getD k default) (getD_mem (by omega)))) .nil)))))) (by kernel_rfl) (by kernel_rfl) (by kernel_rfl) ⟨trivial, trivial, trivial, trivial, trivial, (fun lq => (Has.left (Has.right (pre := []) hes))), trivial⟩ (by kernel_rfl) (by kernel_rfl) (by kernel_rfl) ?_)
  refine AC.cend ((p (l.getD k default))) rfl rfl (fun hc => ?_) (fun hc => ?_)
  ·have q2 := iB.1 hc
   refine AC.rq (fun σ5 => RegOK.m1 [4] ⟨[(4, I (k : Int))], mem⟩ (.cons (s_move (.tmp 5 (I (k : Int)))) (.cons (s_assign (.tmp 17 (I (k : Int)))) .nil)) ?_)
   refine AC.ret ?_
   refine blockQ_r ?_
   refine thenQ_r ?_
   refine thenQ_r ?_
   refine blockQ_r ?_
   refine thenQ_r ?_
   exact FinQ.ret (result1 rfl (res_tmp (v := I (k : Int)) rfl rfl)) ⟨by first | exact congrArg I (idx_found default (by omega) hn hc) | exact congrArg I (idx_none default (by intro j hj; exact hn j (by omega))), rfl⟩
  ·have q3 := iF iB hc
   refine AC.skip ?_
   refine blockQ_n ?_
   refine thenQ_n ?_
   refine AC.re (fun σ6 => RegOK.m1 [0, 1, 7, 8] ⟨[(0, .slice ((l).map Point.av) none), (1, .func f [] caps), (7, I (l.length : Int)), (8, I ((k : Int) + 1))], mem⟩ (.cons (s_add (.tmp 8 (I (k : Int))) (.int .i64 (1)) (inK_i64 (by omega))) (.cons (s_move (.tmp 18 (I ((k : Int) + 1)))) .nil)) ?_)
   refine thenQ_n ⟨_, ?_, _, ⟨(k + 1), rfl, ⟨(by omega), (by intro j hj; rcases Decidable.em (j = k) with h | h; (subst h; exact hc); exact hn j (by omega))⟩, rfl⟩, Weak.of [] (by kernel_rfl) (by kernel_rfl)⟩
   omega
 ·have q4 := iF iD hc
  refine AC.exit ?_
  refine thenQ_x ?_
  refine thenQ_x ?_
  refine blockQ_x ?_
  refine thenQ_n ?_
  refine AC.rq (fun σ7 => RegOK.m1 [4] ⟨[(4, I (-1))], mem⟩ (.cons (s_assign (.int .i64 (-1))) .nil) ?_)
  refine AC.ret ?_
  exact FinQ.ret (result1 rfl (res_tmp (v := I (-1)) rfl rfl)) ⟨by first | exact congrArg I (idx_found default (by omega) hn hc) | exact congrArg I (idx_none default (by intro j hj; exact hn j (by omega))), rfl⟩
theorem F109 (l : List Point) (f : FuncId) (caps : List AV) (es : List Ent) (p : Point → Bool) (hcall : Callable Try.prog f) (hf : ∀ x : Point, x ∈ l → EffR Try.prog f ([] ++ [Point.av x] ++ caps) es (.bool (p x))) (hl : (l.length : Int) ≤ 9223372036854775807) : EffR Try.prog 109 [.slice ((l).map Point.av) none, .func f [] caps] es (.bool (l.any p)) := by
 intro mem hes
 refine Meets.body 0 Try.func109 rfl rfl ?_
 refine AC.rq (fun σ0 => RegOK.m1 [0, 1] ⟨[(0, .slice ((l).map Point.av) none), (1, .func f [] caps)], mem⟩ (.cons (s_assign (.bool false)) .nil) ?_)
 refine AC.rq (fun σ1 => RegOK.mkN [4] ⟨[(4, .bool (decide (0 ≤ (idxI p l))))], mem⟩ (.cons (s_move (.tmp 0 (.slice ((l).map Point.av) none))) (.cons (s_move (.tmp 1 (.func f [] caps))) (.cons (s_callR (r := I (idxI p l)) (es := (es)) (.func 128) (.cons (.tmp 5 (.slice ((l).map Point.av) none)) (.cons (.tmp 6 (.func f [] caps)) .nil)) call128 (F128 l f caps es p hcall hf hl)) (.cons (s_geq (.tmp 7 (I (idxI p l))) (.int .i64 (0))) (.cons (s_assign (.tmp 8 (.bool (decide (0 ≤ (idxI p l)))))) .nil))))) (by kernel_rfl) (by kernel_rfl) (by kernel_rfl) ⟨trivial, trivial, (fun lq => (Has.left (Has.right (pre := []) hes))), trivial, trivial, trivial⟩ (by kernel_rfl) (by kernel_rfl) (by kernel_rfl) ?_)
 refine AC.ret ?_
 exact FinQ.ret (result1 rfl (res_tmp (v := .bool (decide (0 ≤ (idxI p l)))) rfl rfl)) ⟨by exact congrArg AV.bool (idx_any p l), rfl⟩
theorem F129 (l : List Node) (f : FuncId) (caps : List AV) (es : List Ent) (p : Node → Bool) (hcall : Callable Try.prog f) (hf : ∀ x : Node, x ∈ l → EffR Try.prog f ([] ++ [Node.av x] ++ caps) es (.bool (p x))) (hl : (l.length : Int) ≤ 9223372036854775807) : EffR Try.prog 129 [.slice ((l).map Node.av) none, .func f [] caps] es (.int .i64 (idxI p l)) := by
 intro mem hes
 refine Meets.body 0 Try.func129 rfl rfl ?_
 refine AC.rq (fun σ0 => RegOK.m1 [0, 1] ⟨[(0, .slice ((l).map Node.av) none), (1, .func f [] caps)], mem⟩ (.cons (s_assign (.int .i64 (0))) .nil) ?_)
 refine AC.seq ?_
 refine AC.rq (fun σ1 => RegOK.m1 [0, 1, 7, 8] ⟨[(0, .slice ((l).map Node.av) none), (1, .func f [] caps), (7, I (l.length : Int)), (8, I 0)], mem⟩ (.cons (s_move (.tmp 0 (.slice ((l).map Node.av) none))) (.cons (s_lenM (l := l) slc24 (.tmp 6 (.slice ((l).map Node.av) none))) (.cons (s_move (.int .i64 (0))) .nil))) ?_)
 refine AC.block ?_
 refine AC.loopW (fun mz T => ∃ (k : Nat), mz = l.length - k ∧ ((k ≤ l.length) ∧ (∀ j : Nat, j < k → p (l.getD j default) = false)) ∧ T = ⟨[(0, .slice ((l).map Node.av) none), (1, .func f [] caps), (7, I (l.length : Int)), (8, I (k : Int))], mem⟩) _ ⟨[(0, .slice ((l).map Node.av) none), (1, .func f [] caps), (7, I (l.length : Int)), (8, I ((0) : Int))], mem⟩ ⟨0, rfl, ⟨(by omega), (by intro j hj; omega)⟩, rfl⟩ (Weak.of [] (by kernel_rfl) (by kernel_rfl)) ?_ Fr.plain
 rintro _ _ ⟨k, rfl, ⟨hk, hn⟩, rfl⟩
 refine AC.rq (fun σ2 => RegOK.m1 [0, 1, 7, 8, 9] ⟨[(0, .slice ((l).map Node.av) none), (1, .func f [] caps), (7, I (l.length : Int)), (8, I (k : Int)), (9, .bool (decide ((k : Int) < (l.length : Int))))], mem⟩ (.cons (s_lss (.tmp 8 (I (k : Int))) (.tmp 7 (I (l.length : Int)))) .nil) ?_)
 refine AC.cseq (decide ((k : Int) < (l.length : Int))) rfl rfl (fun hc => ?_) (fun hc => ?_)
 ·have q1 := iD.1 hc
  refine AC.skip ?_
  refine thenQ_n ?_
  refine AC.bseq ?_
  refine AC.rq (fun σ3 => RegOK.m1 [0, 1, 5, 7, 8] ⟨[(0, .slice ((l).map Node.av) none), (1, .func f [] caps), (5, I (k : Int)), (7, I (l.length : Int)), (8, I (k : Int))], mem⟩ (.cons (s_move (.tmp 8 (I (k : Int)))) (.cons (s_assign (.tmp 10 (I (k : Int)))) .nil)) ?_)
  refine AC.rq (fun σ4 => RegOK.mkN [0, 1, 5, 7, 8, 16] ⟨[(0, .slice ((l).map Node.av) none), (1, .func f [] caps), (5, I (k : Int)), (7, I (l.length : Int)), (8, I (k : Int)), (16, .bool ((p (l.getD k default))))], mem⟩ (.cons (s_move (.tmp 1 (.func f [] caps))) (.cons (s_move (.tmp 0 (.slice ((l).map Node.av) none))) (.cons (s_move (.tmp 5 (I (k : Int)))) (.cons (s_ixM (l := l) (f := Node.av) (default) slc24 (.tmp 12 (.slice ((l).map Node.av) none)) (.tmp 13 (I (k : Int))) (by omega) rfl) (.cons (s_loadAe (l := (Node.av (l.getD k default)).cells) tyA47 (.tmp 14 (.eptr (Node.av (l.getD k default)) 0)) rfl rfl) (.cons (s_callR (r := .bool ((p (l.getD k default)))) (es := (es)) (.tmp 11 (.func f [] caps)) (.cons (.tmp 15 (Node.av (l.getD k default))) .nil) hcall (hf (l.getD k default) (getD_mem (by omega)))) .nil)))))) (by kernel_rfl) (by kernel_rfl) (by kernel_rfl) ⟨trivial, trivial, trivial, trivial, trivial, (fun lq => (Has.left (Has.right (pre := []) hes))), trivial⟩ (by kernel_rfl) (by kernel_rfl) (by kernel_rfl) ?_)
  refine AC.cend ((p (l.getD k default))) rfl rfl (fun hc => ?_) (fun hc => ?_)
  ·have q2 := iB.1 hc
   refine AC.rq (fun σ5 => RegOK.m1 [4] ⟨[(4, I (k : Int))], mem⟩ (.cons (s_move (.tmp 5 (I (k : Int)))) (.cons (s_assign (.tmp 17 (I (k : Int)))) .nil)) ?_)
   refine AC.ret ?_
   refine blockQ_r ?_
   refine thenQ_r ?_
   refine thenQ_r ?_
   refine blockQ_r ?_
   refine thenQ_r ?_
   exact FinQ.ret (result1 rfl (res_tmp (v := I (k : Int)) rfl rfl)) ⟨by first | exact congrArg I (idx_found default (by omega) hn hc) | exact congrArg I (idx_none default (by intro j hj; exact hn j (by omega))), rfl⟩
  ·have q3 := iF iB hc
   refine AC.skip ?_
   refine blockQ_n ?_
   refine thenQ_n ?_
   refine AC.re (fun σ6 => RegOK.m1 [0, 1, 7, 8] ⟨[(0, .slice ((l).map Node.av) none), (1, .func f [] caps), (7, I (l.length : Int)), (8, I ((k : Int) + 1))], mem⟩ (.cons (s_add (.tmp 8 (I (k : Int))) (.int .i64 (1)) (inK_i64 (by omega))) (.cons (s_move (.tmp 18 (I ((k : Int) + 1)))) .nil)) ?_)
   refine thenQ_n ⟨_, ?_, _, ⟨(k + 1), rfl, ⟨(by omega), (by intro j hj; rcases Decidable.em (j = k) with h | h; (subst h; exact hc); exact hn j (by omega))⟩, rfl⟩, Weak.of [] (by kernel_rfl) (by kernel_rfl)⟩
   omega
 ·have q4 := iF iD hc
  refine AC.exit ?_
  refine thenQ_x ?_
  refine thenQ_x ?_
  refine blockQ_x ?_
  refine thenQ_n ?_
  refine AC.rq (fun σ7 => RegOK.m1 [4] ⟨[(4, I (-1))], mem⟩ (.cons (s_assign (.int .i64 (-1))) .nil) ?_)
  refine AC.ret ?_
  exact FinQ.ret (result1 rfl (res_tmp (v := I (-1)) rfl rfl)) ⟨by first | exact congrArg I (idx_found default (by omega) hn hc) | exact congrArg I (idx_none default (by intro j hj; exact hn j (by omega))), rfl⟩
theorem F111 (l : List Node) (f : FuncId) (caps : List AV) (es : List Ent) (p : Node → Bool) (hcall : Callable Try.prog f) (hf : ∀ x : Node, x ∈ l → EffR Try.prog f ([] ++ [Node.av x] ++ caps) es (.bool (p x))) (hl : (l.length : Int) ≤ 9223372036854775807) : EffR Try.prog 111 [.slice ((l).map Node.av) none, .func f [] caps] es (.bool (l.any p)) := by
 intro mem hes
 refine Meets.body 0 Try.func111 rfl rfl ?_
 refine AC.rq (fun σ0 => RegOK.m1 [0, 1] ⟨[(0, .slice ((l).map Node.av) none), (1, .func f [] caps)], mem⟩ (.cons (s_assign (.bool false)) .nil) ?_)
 refine AC.rq (fun σ1 => RegOK.mkN [4] ⟨[(4, .bool (decide (0 ≤ (idxI p l))))], mem⟩ (.cons (s_move (.tmp 0 (.slice ((l).map Node.av) none))) (.cons (s_move (.tmp 1 (.func f [] caps))) (.cons (s_callR (r := I (idxI p l)) (es := (es)) (.func 129) (.cons (.tmp 5 (.slice ((l).map Node.av) none)) (.cons (.tmp 6 (.func f [] caps)) .nil)) call129 (F129 l f caps es p hcall hf hl)) (.cons (s_geq (.tmp 7 (I (idxI p l))) (.int .i64 (0))) (.cons (s_assign (.tmp 8 (.bool (decide (0 ≤ (idxI p l)))))) .nil))))) (by kernel_rfl) (by kernel_rfl) (by kernel_rfl) ⟨trivial, trivial, (fun lq => (Has.left (Has.right (pre := []) hes))), trivial, trivial, trivial⟩ (by kernel_rfl) (by kernel_rfl) (by kernel_rfl) ?_)
 refine AC.ret ?_
 exact FinQ.ret (result1 rfl (res_tmp (v := .bool (decide (0 ≤ (idxI p l)))) rfl rfl)) ⟨by exact congrArg AV.bool (idx_any p l), rfl⟩
theorem F130 (l : List (Int × Int)) (f : FuncId) (caps : List AV) (es : List Ent) (p : (Int × Int) → Bool) (hcall : Callable Try.prog f) (hf : ∀ x : (Int × Int), x ∈ l → EffR Try.prog f ([] ++ [encA x] ++ caps) es (.bool (p x))) (hl : (l.length : Int) ≤ 9223372036854775807) : EffR Try.prog 130 [.slice ((l).map encA) none, .func f [] caps] es (.int .i64 (idxI p l)) := by
 intro mem hes
 refine Meets.body 0 Try.func130 rfl rfl ?_
 refine AC.rq (fun σ0 => RegOK.m1 [0, 1] ⟨[(0, .slice ((l).map encA) none), (1, .func f [] caps)], mem⟩ (.cons (s_assign (.int .i64 (0))) .nil) ?_)
 refine AC.seq ?_
 refine AC.rq (fun σ1 => RegOK.m1 [0, 1, 7, 8] ⟨[(0, .slice ((l).map encA) none), (1, .func f [] caps), (7, I (l.length : Int)), (8, I 0)], mem⟩ (.cons (s_move (.tmp 0 (.slice ((l).map encA) none))) (.cons (s_lenM (l := l) slc160 (.tmp 6 (.slice ((l).map encA) none))) (.cons (s_move (.int .i64 (0))) .nil))) ?_)
 refine AC.block ?_
 refine AC.loopW (fun mz T => ∃ (k : Nat), mz = l.length - k ∧ ((k ≤ l.length) ∧ (∀ j : Nat, j < k → p (l.getD j (0, 0)) = false)) ∧ T = ⟨[(0, .slice ((l).map encA) none), (1, .func f [] caps), (7, I (l.length : Int)), (8, I (k : Int))], mem⟩) _ ⟨[(0, .slice ((l).map encA) none), (1, .func f [] caps), (7, I (l.length : Int)), (8, I ((0) : Int))], mem⟩ ⟨0, rfl, ⟨(by omega), (by intro j hj; omega)⟩, rfl⟩ (Weak.of [] (by kernel_rfl) (by kernel_rfl)) ?_ Fr.plain
 rintro _ _ ⟨k, rfl, ⟨hk, hn⟩, rfl⟩
 refine AC.rq (fun σ2 => RegOK.m1 [0, 1, 7, 8, 9] ⟨[(0, .slice ((l).map encA) none), (1, .func f [] caps), (7, I (l.length : Int)), (8, I (k : Int)), (9, .bool (decide ((k : Int) < (l.length : Int))))], mem⟩ (.cons (s_lss (.tmp 8 (I (k : Int))) (.tmp 7 (I (l.length : Int)))) .nil) ?_)
 refine AC.cseq (decide ((k : Int) < (l.length : Int))) rfl rfl (fun hc => ?_) (fun hc => ?_)
 ·have q1 := iD.1 hc
  refine AC.skip ?_
  refine thenQ_n ?_
  refine AC.bseq ?_
  refine AC.rq (fun σ3 => RegOK.m1 [0, 1, 5, 7, 8] ⟨[(0, .slice ((l).map encA) none), (1, .func f [] caps), (5, I (k : Int)), (7, I (l.length : Int)), (8, I (k : Int))], mem⟩ (.cons (s_move (.tmp 8 (I (k : Int)))) (.cons (s_assign (.tmp 10 (I (k : Int)))) .nil)) ?_)
  refine AC.rq (fun σ4 => RegOK.mkN [0, 1, 5, 7, 8, 16] ⟨[(0, .slice ((l).map encA) none), (1, .func f [] caps), (5, I (k : Int)), (7, I (l.length : Int)), (8, I (k : Int)), (16, .bool ((p (l.getD k (0, 0)))))], mem⟩ (.cons (s_move (.tmp 1 (.func f [] caps))) (.cons (s_move (.tmp 0 (.slice ((l).map encA) none))) (.cons (s_move (.tmp 5 (I (k : Int)))) (.cons (s_ixM (l := l) (f := encA) ((0, 0)) slc160 (.tmp 12 (.slice ((l).map encA) none)) (.tmp 13 (I (k : Int))) (by omega) rfl) (.cons (s_loadAe (l := [I ((l.getD k (0, 0)).1), I ((l.getD k (0, 0)).2)]) tyA26 (.tmp 14 (.eptr (.agg [I ((l.getD k (0, 0)).1), I ((l.getD k (0, 0)).2)]) 0)) rfl rfl) (.cons (s_callR (r := .bool ((p (l.getD k (0, 0))))) (es := (es)) (.tmp 11 (.func f [] caps)) (.cons (.tmp 15 (.agg [I ((l.getD k (0, 0)).1), I ((l.getD k (0, 0)).2)])) .nil) hcall (hf (l.getD k (0, 0)) (getD_mem (by omega)))) .nil)))))) (by kernel_rfl) (by kernel_rfl) (by kernel_rfl) ⟨trivial, trivial, trivial, trivial, trivial, (fun lq => (Has.left (Has.right (pre := []) hes))), trivial⟩ (by kernel_rfl) (by kernel_rfl) (by kernel_rfl) ?_)
  refine AC.cend ((p (l.getD k (0, 0)))) rfl rfl (fun hc => ?_) (fun hc => ?_)
  ·have q2 := iB.1 hc
   refine AC.rq (fun σ5 => RegOK.m1 [4] ⟨[(4, I (k : Int))], mem⟩ (.cons (s_move (.tmp 5 (I (k : Int)))) (.cons (s_assign (.tmp 17 (I (k : Int)))) .nil)) ?_)
   refine AC.ret ?_
   refine blockQ_r ?_
   refine thenQ_r ?_
   refine thenQ_r ?_
   refine blockQ_r ?_
   refine thenQ_r ?_
   exact FinQ.ret (result1 rfl (res_tmp (v := I (k : Int)) rfl rfl)) ⟨by first | exact congrArg I (idx_found (0, 0) (by omega) hn hc) | exact congrArg I (idx_none (0, 0) (by intro j hj; exact hn j (by omega))), rfl⟩
  ·have q3 := iF iB hc
   refine AC.skip ?_
   refine blockQ_n ?_
   refine thenQ_n ?_
   refine AC.re (fun σ6 => RegOK.m1 [0, 1, 7, 8] ⟨[(0, .slice ((l).map encA) none), (1, .func f [] caps), (7, I (l.length : Int)), (8, I ((k : Int) + 1))], mem⟩ (.cons (s_add (.tmp 8 (I (k : Int))) (.int .i64 (1)) (inK_i64 (by omega))) (.cons (s_move (.tmp 18 (I ((k : Int) + 1)))) .nil)) ?_)
   refine thenQ_n ⟨_, ?_, _, ⟨(k + 1), rfl, ⟨(by omega), (by intro j hj; rcases Decidable.em (j = k) with h | h; (subst h; exact hc); exact hn j (by omega))⟩, rfl⟩, Weak.of [] (by kernel_rfl) (by kernel_rfl)⟩
   omega
 ·have q4 := iF iD hc
  refine AC.exit ?_
  refine thenQ_x ?_
  refine thenQ_x ?_
  refine blockQ_x ?_
  refine thenQ_n ?_
  refine AC.rq (fun σ7 => RegOK.m1 [4] ⟨[(4, I (-1))], mem⟩ (.cons (s_assign (.int .i64 (-1))) .nil) ?_)
  refine AC.ret ?_
  exact FinQ.ret (result1 rfl (res_tmp (v := I (-1)) rfl rfl)) ⟨by first | exact congrArg I (idx_found (0, 0) (by omega) hn hc) | exact congrArg I (idx_none (0, 0) (by intro j hj; exact hn j (by omega))), rfl⟩
theorem F113 (l : List (Int × Int)) (f : FuncId) (caps : List AV) (es : List Ent) (p : (Int × Int) → Bool) (hcall : Callable Try.prog f) (hf : ∀ x : (Int × Int), x ∈ l → EffR Try.prog f ([] ++ [encA x] ++ caps) es (.bool (p x))) (hl : (l.length : Int) ≤ 9223372036854775807) : EffR Try.prog 113 [.slice ((l).map encA) none, .func f [] caps] es (.bool (l.any p)) := by
 intro mem hes
 refine Meets.body 0 Try.func113 rfl rfl ?_
 refine AC.rq (fun σ0 => RegOK.m1 [0, 1] ⟨[(0, .slice ((l).map encA) none), (1, .func f [] caps)], mem⟩ (.cons (s_assign (.bool false)) .nil) ?_)
 refine AC.rq (fun σ1 => RegOK.mkN [4] ⟨[(4, .bool (decide (0 ≤ (idxI p l))))], mem⟩ (.cons (s_move (.tmp 0 (.slice ((l).map encA) none))) (.cons (s_move (.tmp 1 (.func f [] caps))) (.cons (s_callR (r := I (idxI p l)) (es := (es)) (.func 130) (.cons (.tmp 5 (.slice ((l).map encA) none)) (.cons (.tmp 6 (.func f [] caps)) .nil)) call130 (F130 l f caps es p hcall hf hl)) (.cons (s_geq (.tmp 7 (I (idxI p l))) (.int .i64 (0))) (.cons (s_assign (.tmp 8 (.bool (decide (0 ≤ (idxI p l)))))) .nil))))) (by kernel_rfl) (by kernel_rfl) (by kernel_rfl) ⟨trivial, trivial, (fun lq => (Has.left (Has.right (pre := []) hes))), trivial, trivial, trivial⟩ (by kernel_rfl) (by kernel_rfl) (by kernel_rfl) ?_)
 refine AC.ret ?_
 exact FinQ.ret (result1 rfl (res_tmp (v := .bool (decide (0 ≤ (idxI p l)))) rfl rfl)) ⟨by exact congrArg AV.bool (idx_any p l), rfl⟩
theorem F131 (l : List Int) (f : FuncId) (caps : List AV) (es : List Ent) (p : Int → Bool) (hcall : Callable Try.prog f) (hf : ∀ x : Int, x ∈ l → EffR Try.prog f ([] ++ [I x] ++ caps) es (.bool (p x))) (hl : (l.length : Int) ≤ 9223372036854775807) : EffR Try.prog 131 [.slice ((l).map I) none, .func f [] caps] es (.int .i64 (idxI p l)) := by
 intro mem hes
 refine Meets.body 0 Try.func131 rfl rfl ?_
 refine AC.rq (fun σ0 => RegOK.m1 [0, 1] ⟨[(0, .slice ((l).map I) none), (1, .func f [] caps)], mem⟩ (.cons (s_assign (.int .i64 (0))) .nil) ?_)
 refine AC.seq ?_
 refine AC.rq (fun σ1 => RegOK.m1 [0, 1, 7, 8] ⟨[(0, .slice ((l).map I) none), (1, .func f [] caps), (7, I (l.length : Int)), (8, I 0)], mem⟩ (.cons (s_move (.tmp 0 (.slice ((l).map I) none))) (.cons (s_lenM (l := l) slc48 (.tmp 6 (.slice ((l).map I) none))) (.cons (s_move (.int .i64 (0))) .nil))) ?_)
 refine AC.block ?_
 refine AC.loopW (fun mz T => ∃ (k : Nat), mz = l.length - k ∧ ((k ≤ l.length) ∧ (∀ j : Nat, j < k → p (l.getD j 0) = false)) ∧ T = ⟨[(0, .slice ((l).map I) none), (1, .func f [] caps), (7, I (l.length : Int)), (8, I (k : Int))], mem⟩) _ ⟨[(0, .slice ((l).map I) none), (1, .func f [] caps), (7, I (l.length : Int)), (8, I ((0) : Int))], mem⟩ ⟨0, rfl, ⟨(by omega), (by intro j hj; omega)⟩, rfl⟩ (Weak.of [] (by kernel_rfl) (by kernel_rfl)) ?_ Fr.plain
 rintro _ _ ⟨k, rfl, ⟨hk, hn⟩, rfl⟩
 refine AC.rq (fun σ2 => RegOK.m1 [0, 1, 7, 8, 9] ⟨[(0, .slice ((l).map I) none), (1, .func f [] caps), (7, I (l.length : Int)), (8, I (k : Int)), (9, .bool (decide ((k : Int) < (l.length : Int))))], mem⟩ (.cons (s_lss (.tmp 8 (I (k : Int))) (.tmp 7 (I (l.length : Int)))) .nil) ?_)
 refine AC.cseq (decide ((k : Int) < (l.length : Int))) rfl rfl (fun hc => ?_) (fun hc => ?_)
 ·have q1 := iD.1 hc
  refine AC.skip ?_
  refine thenQ_n ?_
  refine AC.bseq ?_
  refine AC.rq (fun σ3 => RegOK.m1 [0, 1, 5, 7, 8] ⟨[(0, .slice ((l).map I) none), (1, .func f [] caps), (5, I (k : Int)), (7, I (l.length : Int)), (8, I (k : Int))], mem⟩ (.cons (s_move (.tmp 8 (I (k : Int)))) (.cons (s_assign (.tmp 10 (I (k : Int)))) .nil)) ?_)
  refine AC.rq (fun σ4 => RegOK.mkN [0, 1, 5, 7, 8, 16] ⟨[(0, .slice ((l).map I) none), (1, .func f [] caps), (5, I (k : Int)), (7, I (l.length : Int)), (8, I (k : Int)), (16, .bool ((p (l.getD k 0))))], mem⟩ (.cons (s_move (.tmp 1 (.func f [] caps))) (.cons (s_move (.tmp 0 (.slice ((l).map I) none))) (.cons (s_move (.tmp 5 (I (k : Int)))) (.cons (s_ixM (l := l) (f := I) (0) slc48 (.tmp 12 (.slice ((l).map I) none)) (.tmp 13 (I (k : Int))) (by omega) rfl) (.cons (s_load1e (c := I (l.getD k 0)) tyS3 (.tmp 14 (.eptr (I (l.getD k 0)) 0)) rfl) (.cons (s_callR (r := .bool ((p (l.getD k 0)))) (es := (es)) (.tmp 11 (.func f [] caps)) (.cons (.tmp 15 (I (l.getD k 0))) .nil) hcall (hf (l.getD k 0) (getD_mem (by omega)))) .nil)))))) (by kernel_rfl) (by kernel_rfl) (by kernel_rfl) ⟨trivial, trivial, trivial, trivial, trivial, (fun lq => (Has.left (Has.right (pre := []) hes))), trivial⟩ (by kernel_rfl) (by kernel_rfl) (by kernel_rfl) ?_)
  refine AC.cend ((p (l.getD k 0))) rfl rfl (fun hc => ?_) (fun hc => ?_)
  ·have q2 := iB.1 hc
   refine AC.rq (fun σ5 => RegOK.m1 [4] ⟨[(4, I (k : Int))], mem⟩ (.cons (s_move (.tmp 5 (I (k : Int)))) (.cons (s_assign (.tmp 17 (I (k : Int)))) .nil)) ?_)
   refine AC.ret ?_
   refine blockQ_r ?_
   refine thenQ_r ?_
   refine thenQ_r ?_
   refine blockQ_r ?_
   refine thenQ_r ?_
   exact FinQ.ret (result1 rfl (res_tmp (v := I (k : Int)) rfl rfl)) ⟨by first | exact congrArg I (idx_found 0 (by omega) hn hc) | exact congrArg I (idx_none 0 (by intro j hj; exact hn j (by omega))), rfl⟩
  ·have q3 := iF iB hc
   refine AC.skip ?_
   refine blockQ_n ?_
   refine thenQ_n ?_
   refine AC.re (fun σ6 => RegOK.m1 [0, 1, 7, 8] ⟨[(0, .slice ((l).map I) none), (1, .func f [] caps), (7, I (l.length : Int)), (8, I ((k : Int) + 1))], mem⟩ (.cons (s_add (.tmp 8 (I (k : Int))) (.int .i64 (1)) (inK_i64 (by omega))) (.cons (s_move (.tmp 18 (I ((k : Int) + 1)))) .nil)) ?_)
   refine thenQ_n ⟨_, ?_, _, ⟨(k + 1), rfl, ⟨(by omega), (by intro j hj; rcases Decidable.em (j = k) with h | h; (subst h; exact hc); exact hn j (by omega))⟩, rfl⟩, Weak.of [] (by kernel_rfl) (by kernel_rfl)⟩
   omega
 ·have q4 := iF iD hc
  refine AC.exit ?_
  refine thenQ_x ?_
  refine thenQ_x ?_
  refine blockQ_x ?_
  refine thenQ_n ?_
  refine AC.rq (fun σ7 => RegOK.m1 [4] ⟨[(4, I (-1))], mem⟩ (.cons (s_assign (.int .i64 (-1))) .nil) ?_)
  refine AC.ret ?_
  exact FinQ.ret (result1 rfl (res_tmp (v := I (-1)) rfl rfl)) ⟨by first | exact congrArg I (idx_found 0 (by omega) hn hc) | exact congrArg I (idx_none 0 (by intro j hj; exact hn j (by omega))), rfl⟩
theorem F121 (l : List Int) (f : FuncId) (caps : List AV) (es : List Ent) (p : Int → Bool) (hcall : Callable Try.prog f) (hf : ∀ x : Int, x ∈ l → EffR Try.prog f ([] ++ [I x] ++ caps) es (.bool (p x))) (hl : (l.length : Int) ≤ 9223372036854775807) : EffR Try.prog 121 [.slice ((l).map I) none, .func f [] caps] es (.bool (l.any p)) := by
 intro mem hes
 refine Meets.body 0 Try.func121 rfl rfl ?_
 refine AC.rq (fun σ0 => RegOK.m1 [0, 1] ⟨[(0, .slice ((l).map I) none), (1, .func f [] caps)], mem⟩ (.cons (s_assign (.bool false)) .nil) ?_)
 refine AC.rq (fun σ1 => RegOK.mkN [4] ⟨[(4, .bool (decide (0 ≤ (idxI p l))))], mem⟩ (.cons (s_move (.tmp 0 (.slice ((l).map I) none))) (.cons (s_move (.tmp 1 (.func f [] caps))) (.cons (s_callR (r := I (idxI p l)) (es := (es)) (.func 131) (.cons (.tmp 5 (.slice ((l).map I) none)) (.cons (.tmp 6 (.func f [] caps)) .nil)) call131 (F131 l f caps es p hcall hf hl)) (.cons (s_geq (.tmp 7 (I (idxI p l))) (.int .i64 (0))) (.cons (s_assign (.tmp 8 (.bool (decide (0 ≤ (idxI p l)))))) .nil))))) (by kernel_rfl) (by kernel_rfl) (by kernel_rfl) ⟨trivial, trivial, (fun lq => (Has.left (Has.right (pre := []) hes))), trivial, trivial, trivial⟩ (by kernel_rfl) (by kernel_rfl) (by kernel_rfl) ?_)
 refine AC.ret ?_
 exact FinQ.ret (result1 rfl (res_tmp (v := .bool (decide (0 ≤ (idxI p l)))) rfl rfl)) ⟨by exact congrArg AV.bool (idx_any p l), rfl⟩
end Go.Proofs.Ytahdgadjpkcnjaa
end
section
set_option maxRecDepth 100000
namespace Go.Proofs.Ytahdgadjpkcnjaa
open Go.Proofs
theorem eqD26 (d : Nat) (a b c e : Int) : EqD Try.prog (d + 2) 26 (.agg #[.int .i64 a, .int .i64 b]) (.agg #[.int .i64 c, .int .i64 e]) (decide (a = c) && (decide (b = e) && true)) :=
  EqD.struct Try.underlying26 (by kernel_rfl) (.cons (by decide) (PartD.one tyS3 rfl) (PartD.one tyS3 rfl) (EqD.int Try.underlying3 _ _ _ _) (.cons (by decide) (PartD.one tyS3 rfl) (PartD.one tyS3 rfl) (EqD.int Try.underlying3 _ _ _ _) .nil))
theorem eqT26 (a b c e : Int) : EqT Try.prog 26 (.agg [I a, I b]) (.agg [I c, I e]) (decide (a = c) && (decide (b = e) && true)) :=
  EqT.of (eqD26 9998 a b c e) (fun w op o p => eqGuard_agg (by kernel_rfl) _ _ w op o p)
theorem eqD45 (d : Nat) (a1 a2 a3 a4 a5 a6 b1 b2 b3 b4 b5 b6 : Int) : EqD Try.prog (d + 3) 45 (.agg #[.int .i64 a1, .int .i64 a2, .int .i64 a3, .int .i64 a4, .int .i64 a5, .int .i64 a6]) (.agg #[.int .i64 b1, .int .i64 b2, .int .i64 b3, .int .i64 b4, .int .i64 b5, .int .i64 b6]) ((decide (a1 = b1) && (decide (a2 = b2) && true)) && ((decide (a3 = b3) && (decide (a4 = b4) && true)) && (decide (a5 = b5) && (decide (a6 = b6) && true)))) :=
  EqD.array3 Try.underlying45 sz26 (PartD.agg tyA26 rfl rfl) (PartD.agg tyA26 rfl rfl) (PartD.agg tyA26 rfl rfl) (PartD.agg tyA26 rfl rfl) (PartD.agg tyA26 rfl rfl) (PartD.agg tyA26 rfl rfl) (eqD26 d _ _ _ _) (eqD26 d _ _ _ _) (eqD26 d _ _ _ _)
theorem eqT47 (n : ByteArray) (p1 p2 p3 p4 a1 a2 a3 a4 a5 a6 : Int) (m : ByteArray) (q1 q2 q3 q4 b1 b2 b3 b4 b5 b6 : Int) : EqT Try.prog 47 (.agg [.str n, I p1, I p2, I p3, I p4, I a1, I a2, I a3, I a4, I a5, I a6]) (.agg [.str m, I q1, I q2, I q3, I q4, I b1, I b2, I b3, I b4, I b5, I b6])
    (decide (n = m) && (decide (p1 = q1) && (decide (p2 = q2) && (decide (p3 = q3) && (decide (p4 = q4) && (((decide (a1 = b1) && (decide (a2 = b2) && true)) && ((decide (a3 = b3) && (decide (a4 = b4) && true)) && (decide (a5 = b5) && (decide (a6 = b6) && true)))) && true)))))) :=
  EqT.of (EqD.struct Try.underlying47 (by kernel_rfl) (.cons (by decide) (PartD.one tyS9 rfl) (PartD.one tyS9 rfl) (EqD.str Try.underlying9 _ _ _) (.cons (by decide) (PartD.one tyS3 rfl) (PartD.one tyS3 rfl) (EqD.int Try.underlying3 _ _ _ _) (.cons (by decide) (PartD.one tyS3 rfl) (PartD.one tyS3 rfl) (EqD.int Try.underlying3 _ _ _ _) (.cons (by decide) (PartD.one tyS3 rfl) (PartD.one tyS3 rfl) (EqD.int Try.underlying3 _ _ _ _) (.cons (by decide) (PartD.one tyS3 rfl) (PartD.one tyS3 rfl) (EqD.int Try.underlying3 _ _ _ _) (.cons (by decide) (PartD.agg tyA45 rfl rfl) (PartD.agg tyA45 rfl rfl) (eqD45 9996 _ _ _ _ _ _ _ _ _ _ _ _) .nil))))))) (fun w op o p => eqGuard_agg (by kernel_rfl) _ _ w op o p)
end Go.Proofs.Ytahdgadjpkcnjaa
end
section
set_option maxRecDepth 100000
namespace Go.Proofs.Ytahdgadjpkcnjaa
open Go.Proofs
theorem F64 (x : Cable) : Pure Try.prog 64 [Cable.av x] (.str (x.name)) := by
 intro mem
 refine Meets.body 1 Try.func64 rfl rfl ?_
 refine AC.rq (fun σ0 => RegOK.m1 [1] ⟨[(1, .ptr (σ0 0) 0)], (.box (σ0 0) (Cable.av x).cells) :: mem⟩ (.cons (s_box 0 (σ0 0) (.tmp 0 (Cable.av x)) rfl) (.cons (s_assign (.str ⟨#[]⟩)) .nil)) ?_)
 refine AC.rq (fun σ1 => RegOK.m1 [2] ⟨[(2, .str (x.name))], (.box (σ0 0) (Cable.av x).cells) :: mem⟩ (.cons (s_fieldAddr fld71_0 (.tmp 1 (.ptr (σ0 0) 0))) (.cons (s_load1 (cs := (Cable.av x).cells) (c := .str (x.name)) 0 tyS9 (.tmp 3 (.ptr (σ0 0) 0)) rfl) (.cons (s_assign (.tmp 4 (.str (x.name)))) .nil))) ?_)
 refine AC.ret ?_
 exact FinQ.ret (result1 rfl (res_tmp (v := .str (x.name)) rfl rfl)) ⟨by rfl, rfl⟩
theorem F67 (x : Fuse) : Pure Try.prog 67 [Fuse.av x] (.str (x.name)) := by
 intro mem
 refine Meets.body 1 Try.func67 rfl rfl ?_
 refine AC.rq (fun σ0 => RegOK.m1 [1] ⟨[(1, .ptr (σ0 0) 0)], (.box (σ0 0) (Fuse.av x).cells) :: mem⟩ (.cons (s_box 0 (σ0 0) (.tmp 0 (Fuse.av x)) rfl) (.cons (s_assign (.str ⟨#[]⟩)) .nil)) ?_)
 refine AC.rq (fun σ1 => RegOK.m1 [2] ⟨[(2, .str (x.name))], (.box (σ0 0) (Fuse.av x).cells) :: mem⟩ (.cons (s_fieldAddr fld94_0 (.tmp 1 (.ptr (σ0 0) 0))) (.cons (s_load1 (cs := (Fuse.av x).cells) (c := .str (x.name)) 0 tyS9 (.tmp 3 (.ptr (σ0 0) 0)) rfl) (.cons (s_assign (.tmp 4 (.str (x.name)))) .nil))) ?_)
 refine AC.ret ?_
 exact FinQ.ret (result1 rfl (res_tmp (v := .str (x.name)) rfl rfl)) ⟨by rfl, rfl⟩
theorem F70 (x : Node) : Pure Try.prog 70 [Node.av x] (.str (x.name)) := by
 intro mem
 refine Meets.body 1 Try.func70 rfl rfl ?_
 refine AC.rq (fun σ0 => RegOK.m1 [1] ⟨[(1, .ptr (σ0 0) 0)], (.box (σ0 0) (Node.av x).cells) :: mem⟩ (.cons (s_box 0 (σ0 0) (.tmp 0 (Node.av x)) rfl) (.cons (s_assign (.str ⟨#[]⟩)) .nil)) ?_)
 refine AC.rq (fun σ1 => RegOK.m1 [2] ⟨[(2, .str (x.name))], (.box (σ0 0) (Node.av x).cells) :: mem⟩ (.cons (s_fieldAddr fld47_0 (.tmp 1 (.ptr (σ0 0) 0))) (.cons (s_load1 (cs := (Node.av x).cells) (c := .str (x.name)) 0 tyS9 (.tmp 3 (.ptr (σ0 0) 0)) rfl) (.cons (s_assign (.tmp 4 (.str (x.name)))) .nil))) ?_)
 refine AC.ret ?_
 exact FinQ.ret (result1 rfl (res_tmp (v := .str (x.name)) rfl rfl)) ⟨by rfl, rfl⟩
theorem F103 (y x : Cable) (s0 s1 : Nat) : EffR Try.prog 103 [Cable.av y, .ptr s0 0, .ptr s1 0] [Ent.box s0 [.func 64 [] []], Ent.box s1 (Cable.av x).cells] (.bool (decide (y.name = x.name))) := by
 intro mem hes
 obtain ⟨p0, hm0⟩ := List.mem_iff_getElem?.1 (hes (Ent.box s0 [.func 64 [] []]) (by simp))
 obtain ⟨p1, hm1⟩ := List.mem_iff_getElem?.1 (hes (Ent.box s1 (Cable.av x).cells) (by simp))
 refine Meets.body 1 Try.func103 rfl rfl ?_
 refine AC.rq (fun σ0 => RegOK.m1 [1, 2, 3] ⟨[(1, .ptr s0 0), (2, .ptr s1 0), (3, .ptr (σ0 0) 0)], (.box (σ0 0) (Cable.av y).cells) :: mem⟩ (.cons (s_box 0 (σ0 0) (.tmp 0 (Cable.av y)) rfl) (.cons (s_assign (.bool false)) .nil)) ?_)
 refine AC.rq (fun σ1 => RegOK.mk [4] ⟨[(4, .bool (decide (y.name = x.name)))], (.box (σ0 0) (Cable.av y).cells) :: mem⟩ (.cons (s_load1 (cs := [.func 64 [] []]) (c := .func 64 [] []) (p0 + 1) tyS113 (.tmp 1 (.ptr s0 0)) rfl) (.cons (s_loadA (cs := (Cable.av y).cells) (l := (Cable.av y).cells) 0 tyA71 (.tmp 3 (.ptr (σ0 0) 0)) rfl rfl) (.cons (s_call (r := .str (y.name)) (.tmp 5 (.func 64 [] [])) (.cons (.tmp 6 (Cable.av y)) .nil) call64 (F64 (y))) (.cons (s_load1 (cs := [.func 64 [] []]) (c := .func 64 [] []) (p0 + 1) tyS113 (.tmp 1 (.ptr s0 0)) rfl) (.cons (s_loadA (cs := (Cable.av x).cells) (l := (Cable.av x).cells) (p1 + 1) tyA71 (.tmp 2 (.ptr s1 0)) rfl rfl) (.cons (s_call (r := .str (x.name)) (.tmp 8 (.func 64 [] [])) (.cons (.tmp 9 (Cable.av x)) .nil) call64 (F64 (x))) (.cons (s_bytes_eql (.tmp 7 (.str (y.name))) (.tmp 10 (.str (x.name)))) (.cons (s_assign (.tmp 11 (.bool (decide (y.name = x.name))))) .nil)))))))) (by kernel_rfl) (show _ = _ from cg2 (fun z0 z1 => [z0, some (Ent.box (σ0 0) (Cable.av y).cells), z0, z1]) hm0 hm1) (by kernel_rfl) (by kernel_rfl) (by kernel_rfl) (by kernel_rfl) (by kernel_rfl) ?_)
 refine AC.ret ?_
 exact FinQ.ret (result1 rfl (res_tmp (v := .bool (decide (y.name = x.name))) rfl rfl)) ⟨by rfl, rfl⟩
theorem F106 (y x : Fuse) (s0 s1 : Nat) : EffR Try.prog 106 [Fuse.av y, .ptr s0 0, .ptr s1 0] [Ent.box s0 [.func 67 [] []], Ent.box s1 (Fuse.av x).cells] (.bool (decide (y.name = x.name))) := by
 intro mem hes
 obtain ⟨p0, hm0⟩ := List.mem_iff_getElem?.1 (hes (Ent.box s0 [.func 67 [] []]) (by simp))
 obtain ⟨p1, hm1⟩ := List.mem_iff_getElem?.1 (hes (Ent.box s1 (Fuse.av x).cells) (by simp))
 refine Meets.body 1 Try.func106 rfl rfl ?_
 refine AC.rq (fun σ0 => RegOK.m1 [1, 2, 3] ⟨[(1, .ptr s0 0), (2, .ptr s1 0), (3, .ptr (σ0 0) 0)], (.box (σ0 0) (Fuse.av y).cells) :: mem⟩ (.cons (s_box 0 (σ0 0) (.tmp 0 (Fuse.av y)) rfl) (.cons (s_assign (.bool false)) .nil)) ?_)
 refine AC.rq (fun σ1 => RegOK.mk [4] ⟨[(4, .bool (decide (y.name = x.name)))], (.box (σ0 0) (Fuse.av y).cells) :: mem⟩ (.cons (s_load1 (cs := [.func 67 [] []]) (c := .func 67 [] []) (p0 + 1) tyS116 (.tmp 1 (.ptr s0 0)) rfl) (.cons (s_loadA (cs := (Fuse.av y).cells) (l := (Fuse.av y).cells) 0 tyA94 (.tmp 3 (.ptr (σ0 0) 0)) rfl rfl) (.cons (s_call (r := .str (y.name)) (.tmp 5 (.func 67 [] [])) (.cons (.tmp 6 (Fuse.av y)) .nil) call67 (F67 (y))) (.cons (s_load1 (cs := [.func 67 [] []]) (c := .func 67 [] []) (p0 + 1) tyS116 (.tmp 1 (.ptr s0 0)) rfl) (.cons (s_loadA (cs := (Fuse.av x).cells) (l := (Fuse.av x).cells) (p1 + 1) tyA94 (.tmp 2 (.ptr s1 0)) rfl rfl) (.cons (s_call (r := .str (x.name)) (.tmp 8 (.func 67 [] [])) (.cons (.tmp 9 (Fuse.av x)) .nil) call67 (F67 (x))) (.cons (s_bytes_eql (.tmp 7 (.str (y.name))) (.tmp 10 (.str (x.name)))) (.cons (s_assign (.tmp 11 (.bool (decide (y.name = x.name))))) .nil)))))))) (by kernel_rfl) (show _ = _ from cg2 (fun z0 z1 => [z0, some (Ent.box (σ0 0) (Fuse.av y).cells), z0, z1]) hm0 hm1) (by kernel_rfl) (by kernel_rfl) (by kernel_rfl) (by kernel_rfl) (by kernel_rfl) ?_)
 refine AC.ret ?_
 exact FinQ.ret (result1 rfl (res_tmp (v := .bool (decide (y.name = x.name))) rfl rfl)) ⟨by rfl, rfl⟩
theorem F110 (y x : Node) (s0 s1 : Nat) : EffR Try.prog 110 [Node.av y, .ptr s0 0, .ptr s1 0] [Ent.box s0 [.func 70 [] []], Ent.box s1 (Node.av x).cells] (.bool (decide (y.name = x.name))) := by
 intro mem hes
 obtain ⟨p0, hm0⟩ := List.mem_iff_getElem?.1 (hes (Ent.box s0 [.func 70 [] []]) (by simp))
 obtain ⟨p1, hm1⟩ := List.mem_iff_getElem?.1 (hes (Ent.box s1 (Node.av x).cells) (by simp))
 refine Meets.body 1 Try.func110 rfl rfl ?_
 refine AC.rq (fun σ0 => RegOK.m1 [1, 2, 3] ⟨[(1, .ptr s0 0), (2, .ptr s1 0), (3, .ptr (σ0 0) 0)], (.box (σ0 0) (Node.av y).cells) :: mem⟩ (.cons (s_box 0 (σ0 0) (.tmp 0 (Node.av y)) rfl) (.cons (s_assign (.bool false)) .nil)) ?_)
 refine AC.rq (fun σ1 => RegOK.mk [4] ⟨[(4, .bool (decide (y.name = x.name)))], (.box (σ0 0) (Node.av y).cells) :: mem⟩ (.cons (s_load1 (cs := [.func 70 [] []]) (c := .func 70 [] []) (p0 + 1) tyS119 (.tmp 1 (.ptr s0 0)) rfl) (.cons (s_loadA (cs := (Node.av y).cells) (l := (Node.av y).cells) 0 tyA47 (.tmp 3 (.ptr (σ0 0) 0)) rfl rfl) (.cons (s_call (r := .str (y.name)) (.tmp 5 (.func 70 [] [])) (.cons (.tmp 6 (Node.av y)) .nil) call70 (F70 (y))) (.cons (s_load1 (cs := [.func 70 [] []]) (c := .func 70 [] []) (p0 + 1) tyS119 (.tmp 1 (.ptr s0 0)) rfl) (.cons (s_loadA (cs := (Node.av x).cells) (l := (Node.av x).cells) (p1 + 1) tyA47 (.tmp 2 (.ptr s1 0)) rfl rfl) (.cons (s_call (r := .str (x.name)) (.tmp 8 (.func 70 [] [])) (.cons (.tmp 9 (Node.av x)) .nil) call70 (F70 (x))) (.cons (s_bytes_eql (.tmp 7 (.str (y.name))) (.tmp 10 (.str (x.name)))) (.cons (s_assign (.tmp 11 (.bool (decide (y.name = x.name))))) .nil)))))))) (by kernel_rfl) (show _ = _ from cg2 (fun z0 z1 => [z0, some (Ent.box (σ0 0) (Node.av y).cells), z0, z1]) hm0 hm1) (by kernel_rfl) (by kernel_rfl) (by kernel_rfl) (by kernel_rfl) (by kernel_rfl) ?_)
 refine AC.ret ?_
 exact FinQ.ret (result1 rfl (res_tmp (v := .bool (decide (y.name = x.name))) rfl rfl)) ⟨by rfl, rfl⟩
theorem F65 (i : Int) (x : Cable) : Pure Try.prog 65 [I i, Cable.av x] (I (cableErr x)) := by
 intro mem
 refine Meets.body 1 Try.func65 rfl rfl ?_
 refine AC.rq (fun σ0 => RegOK.m1 [3] ⟨[(3, .ptr (σ0 0) 0)], (.box (σ0 0) (Cable.av x).cells) :: mem⟩ (.cons (s_box 0 (σ0 0) (.tmp 1 (Cable.av x)) rfl) (.cons (s_assign (.int .i64 (0))) .nil)) ?_)
 refine AC.seq ?_
 refine AC.rq (fun σ1 => RegOK.m1 [20] ⟨[(20, .bool ((((!(wvB x.coreLo x.coreHi 1 1000000)) || (!(wvB x.earthLo x.earthHi 1 1000000))) || (!(inB x.rated 1 100000000)))))], (.box (σ0 0) (Cable.av x).cells) :: mem⟩ (.cons (s_fieldAddr fld71_1 (.tmp 3 (.ptr (σ0 0) 0))) (.cons (s_loadA (cs := (Cable.av x).cells) (l := [I x.coreLo, I x.coreHi]) 0 tyA26 (.tmp 5 (.ptr (σ0 0) 1)) rfl rfl) (.cons (s_call (r := .bool ((wvB x.coreLo x.coreHi 1 1000000))) (.func 62) (.cons (.tmp 6 (.agg [I x.coreLo, I x.coreHi])) (.cons (.int .i64 (1)) (.cons (.int .i64 (1000000)) .nil))) call62 (F62 (x.coreLo) (x.coreHi) (1) (1000000))) (.cons (s_not (.tmp 7 (.bool ((wvB x.coreLo x.coreHi 1 1000000))))) (.cons (s_move (.tmp 8 (.bool ((!(wvB x.coreLo x.coreHi 1 1000000)))))) (.cons (Step.guard _ rfl (.bool ((!(wvB x.coreLo x.coreHi 1 1000000)))) gF (fun hb => s_fieldAddr fld71_2 (.tmp 3 (.ptr (σ0 0) 0)))) (.cons (Step.guard _ rfl (.bool ((!(wvB x.coreLo x.coreHi 1 1000000)))) gF (fun hb => s_loadA (cs := (Cable.av x).cells) (l := [I x.earthLo, I x.earthHi]) 0 tyA26 (.tmpC hb 10 (.ptr (σ0 0) 3)) rfl rfl)) (.cons (Step.guard _ rfl (.bool ((!(wvB x.coreLo x.coreHi 1 1000000)))) gF (fun hb => s_call (r := .bool ((wvB x.earthLo x.earthHi 1 1000000))) (.func 62) (.cons (.tmpC hb 11 (.agg [I x.earthLo, I x.earthHi])) (.cons (.int .i64 (1)) (.cons (.int .i64 (1000000)) .nil))) call62 (F62 (x.earthLo) (x.earthHi) (1) (1000000)))) (.cons (Step.guard _ rfl (.bool ((!(wvB x.coreLo x.coreHi 1 1000000)))) gF (fun hb => s_not (.tmpC hb 12 (.bool ((wvB x.earthLo x.earthHi 1 1000000)))))) (.cons (s_or' (e := (!(!(wvB x.coreLo x.coreHi 1 1000000)))) (q := (!(wvB x.earthLo x.earthHi 1 1000000))) (fun h => (notMk h)) (.tmp 9 (.bool ((!(wvB x.coreLo x.coreHi 1 1000000)))))) (.cons (s_move (.tmp 14 (.bool (((!(wvB x.coreLo x.coreHi 1 1000000)) || (!(wvB x.earthLo x.earthHi 1 1000000))))))) (.cons (Step.guard _ rfl (.bool (((!(wvB x.coreLo x.coreHi 1 1000000)) || (!(wvB x.earthLo x.earthHi 1 1000000))))) gF (fun hb => s_fieldAddr fld71_3 (.tmp 3 (.ptr (σ0 0) 0)))) (.cons (Step.guard _ rfl (.bool (((!(wvB x.coreLo x.coreHi 1 1000000)) || (!(wvB x.earthLo x.earthHi 1 1000000))))) gF (fun hb => s_load1 (cs := (Cable.av x).cells) (c := I x.rated) 0 tyS3 (.tmpC hb 16 (.ptr (σ0 0) 5)) rfl)) (.cons (Step.guard _ rfl (.bool (((!(wvB x.coreLo x.coreHi 1 1000000)) || (!(wvB x.earthLo x.earthHi 1 1000000))))) gF (fun hb => s_call (r := .bool ((inB x.rated 1 100000000))) (.func 51) (.cons (.tmpC hb 17 (I x.rated)) (.cons (.int .i64 (1)) (.cons (.int .i64 (100000000)) .nil))) call51 (F51 (x.rated) (1) (100000000)))) (.cons (Step.guard _ rfl (.bool (((!(wvB x.coreLo x.coreHi 1 1000000)) || (!(wvB x.earthLo x.earthHi 1 1000000))))) gF (fun hb => s_not (.tmpC hb 18 (.bool ((inB x.rated 1 100000000)))))) (.cons (s_or' (e := (!((!(wvB x.coreLo x.coreHi 1 1000000)) || (!(wvB x.earthLo x.earthHi 1 1000000))))) (q := (!(inB x.rated 1 100000000))) (fun h => (notMk h)) (.tmp 15 (.bool (((!(wvB x.coreLo x.coreHi 1 1000000)) || (!(wvB x.earthLo x.earthHi 1 1000000))))))) .nil)))))))))))))))) ?_)
 refine AC.cend ((((!(wvB x.coreLo x.coreHi 1 1000000)) || (!(wvB x.earthLo x.earthHi 1 1000000))) || (!(inB x.rated 1 100000000)))) rfl rfl (fun hc => ?_) (fun hc => ?_)
 ·have q1 := (iO (iO (iN wvB_i) (iN wvB_i)) (iN inB_i)).1 hc
  refine AC.rq (fun σ2 => RegOK.m1 [4] ⟨[(4, I 7)], (.box (σ0 0) (Cable.av x).cells) :: mem⟩ (.cons (s_assign (.int .i64 (7))) .nil) ?_)
  refine AC.ret ?_
  refine thenQ_r ?_
  exact FinQ.ret (result1 rfl (res_tmp (v := I 7) rfl rfl)) ⟨by refine congrArg I ?_; unfold cableErr; (repeat' split) <;> first | rfl | (exfalso; omega), rfl⟩
 ·have q2 := iF (iO (iO (iN wvB_i) (iN wvB_i)) (iN inB_i)) hc
  refine AC.skip ?_
  refine thenQ_n ?_
  refine AC.rq (fun σ3 => RegOK.m1 [4] ⟨[(4, I 0)], (.box (σ0 0) (Cable.av x).cells) :: mem⟩ (.cons (s_assign (.int .i64 (0))) .nil) ?_)
  refine AC.ret ?_
  exact FinQ.ret (result1 rfl (res_tmp (v := I 0) rfl rfl)) ⟨by refine congrArg I ?_; unfold cableErr; (repeat' split) <;> first | rfl | (exfalso; omega), rfl⟩
theorem F108 (p : Point) : Pure Try.prog 108 [Point.av p] (.bool ((wildP p))) := by
 intro mem
 refine Meets.body 1 Try.func108 rfl rfl ?_
 refine AC.rq (fun σ0 => RegOK.m1 [1] ⟨[(1, .ptr (σ0 0) 0)], (.box (σ0 0) (Point.av p).cells) :: mem⟩ (.cons (s_box 0 (σ0 0) (.tmp 0 (Point.av p)) rfl) (.cons (s_assign (.bool false)) .nil)) ?_)
 refine AC.rq (fun σ1 => RegOK.m1 [2] ⟨[(2, .bool (((!(inB p.cur 1 100000000)) || (!(wvB p.lo p.hi 1 100000000)))))], (.box (σ0 0) (Point.av p).cells) :: mem⟩ (.cons (s_fieldAddr fld141_0 (.tmp 1 (.ptr (σ0 0) 0))) (.cons (s_load1 (cs := (Point.av p).cells) (c := I p.cur) 0 tyS3 (.tmp 3 (.ptr (σ0 0) 0)) rfl) (.cons (s_call (r := .bool ((inB p.cur 1 100000000))) (.func 51) (.cons (.tmp 4 (I p.cur)) (.cons (.int .i64 (1)) (.cons (.int .i64 (100000000)) .nil))) call51 (F51 (p.cur) (1) (100000000))) (.cons (s_not (.tmp 5 (.bool ((inB p.cur 1 100000000))))) (.cons (s_move (.tmp 6 (.bool ((!(inB p.cur 1 100000000)))))) (.cons (Step.guard _ rfl (.bool ((!(inB p.cur 1 100000000)))) gF (fun hb => s_fieldAddr fld141_1 (.tmp 1 (.ptr (σ0 0) 0)))) (.cons (Step.guard _ rfl (.bool ((!(inB p.cur 1 100000000)))) gF (fun hb => s_loadA (cs := (Point.av p).cells) (l := [I p.lo, I p.hi]) 0 tyA26 (.tmpC hb 8 (.ptr (σ0 0) 1)) rfl rfl)) (.cons (Step.guard _ rfl (.bool ((!(inB p.cur 1 100000000)))) gF (fun hb => s_call (r := .bool ((wvB p.lo p.hi 1 100000000))) (.func 62) (.cons (.tmpC hb 9 (.agg [I p.lo, I p.hi])) (.cons (.int .i64 (1)) (.cons (.int .i64 (100000000)) .nil))) call62 (F62 (p.lo) (p.hi) (1) (100000000)))) (.cons (Step.guard _ rfl (.bool ((!(inB p.cur 1 100000000)))) gF (fun hb => s_not (.tmpC hb 10 (.bool ((wvB p.lo p.hi 1 100000000)))))) (.cons (s_or' (e := (!(!(inB p.cur 1 100000000)))) (q := (!(wvB p.lo p.hi 1 100000000))) (fun h => (notMk h)) (.tmp 7 (.bool ((!(inB p.cur 1 100000000)))))) (.cons (s_assign (.tmp 12 (.bool (((!(inB p.cur 1 100000000)) || (!(wvB p.lo p.hi 1 100000000))))))) .nil))))))))))) ?_)
 refine AC.ret ?_
 exact FinQ.ret (result1 rfl (res_tmp (v := .bool (((!(inB p.cur 1 100000000)) || (!(wvB p.lo p.hi 1 100000000))))) rfl rfl)) ⟨by rfl, rfl⟩
theorem F68 (i : Int) (x : Fuse) (hok : x.ok) : Pure Try.prog 68 [I i, Fuse.av x] (I (fuseErr x)) := by
 intro mem
 have ⟨ho1, ho2⟩ := hok
 have hd : (x.points.drop 1).length = x.points.length - 1 := List.length_drop
 refine Meets.body 3 Try.func68 rfl rfl ?_
 refine AC.rq (fun σ0 => RegOK.m1 [3] ⟨[(3, .ptr (σ0 0) 0)], (.box (σ0 0) (Fuse.av x).cells) :: .hole :: .hole :: mem⟩ (.cons (s_box 0 (σ0 0) (.tmp 1 (Fuse.av x)) rfl) (.cons (s_assign (.int .i64 (0))) .nil)) ?_)
 refine AC.seq ?_
 refine AC.rq (fun σ1 => RegOK.m1 [3, 13] ⟨[(3, .ptr (σ0 0) 0), (13, .bool ((!(inB (x.points.length : Int) 1 8))))], (.box (σ0 0) (Fuse.av x).cells) :: .hole :: .hole :: mem⟩ (.cons (s_fieldAddr fld94_2 (.tmp 3 (.ptr (σ0 0) 0))) (.cons (s_load1 (cs := (Fuse.av x).cells) (c := .slice ((x.points).map Point.av) none) 0 tyS92 (.tmp 9 (.ptr (σ0 0) 2)) rfl) (.cons (s_lenM (l := x.points) slc92 (.tmp 10 (.slice ((x.points).map Point.av) none))) (.cons (s_call (r := .bool ((inB (x.points.length : Int) 1 8))) (.func 51) (.cons (.tmp 11 (I (x.points.length : Int))) (.cons (.int .i64 (1)) (.cons (.int .i64 (8)) .nil))) call51 (F51 ((x.points.length : Int)) (1) (8))) (.cons (s_not (.tmp 12 (.bool ((inB (x.points.length : Int) 1 8))))) .nil))))) ?_)
 refine AC.cend ((!(inB (x.points.length : Int) 1 8))) rfl rfl (fun hc => ?_) (fun hc => ?_)
 ·have q1 := (iN inB_i).1 hc
  refine AC.rq (fun σ2 => RegOK.m1 [4] ⟨[(4, I 3)], (.box (σ0 0) (Fuse.av x).cells) :: .hole :: .hole :: mem⟩ (.cons (s_assign (.int .i64 (3))) .nil) ?_)
  refine AC.ret ?_
  refine thenQ_r ?_
  exact FinQ.ret (result1 rfl (res_tmp (v := I 3) rfl rfl)) ⟨by refine congrArg I ?_; unfold fuseErr; grind, rfl⟩
 ·have q2 := iF (iN inB_i) hc
  refine AC.skip ?_
  refine thenQ_n ?_
  refine AC.rq (fun σ3 => RegOK.m1 [3, 5] ⟨[(3, .ptr (σ0 0) 0), (5, .func 108 [] [])], (.box (σ0 0) (Fuse.av x).cells) :: .hole :: .hole :: mem⟩ (.cons (s_assign (.func 108)) .nil) ?_)
  refine AC.seq ?_
  refine AC.rq (fun σ4 => RegOK.mkN [3, 23] ⟨[(3, .ptr (σ0 0) 0), (23, .bool (((!(inB x.rated 1 100000000)) || (x.points.any (wildP)))))], (.box (σ0 0) (Fuse.av x).cells) :: .hole :: .hole :: mem⟩ (.cons (s_fieldAddr fld94_1 (.tmp 3 (.ptr (σ0 0) 0))) (.cons (s_load1 (cs := (Fuse.av x).cells) (c := I x.rated) 0 tyS3 (.tmp 14 (.ptr (σ0 0) 1)) rfl) (.cons (s_call (r := .bool ((inB x.rated 1 100000000))) (.func 51) (.cons (.tmp 15 (I x.rated)) (.cons (.int .i64 (1)) (.cons (.int .i64 (100000000)) .nil))) call51 (F51 (x.rated) (1) (100000000))) (.cons (s_not (.tmp 16 (.bool ((inB x.rated 1 100000000))))) (.cons (s_move (.tmp 17 (.bool ((!(inB x.rated 1 100000000)))))) (.cons (Step.guard _ rfl (.bool ((!(inB x.rated 1 100000000)))) gF (fun hb => s_fieldAddr fld94_2 (.tmp 3 (.ptr (σ0 0) 0)))) (.cons (Step.guard _ rfl (.bool ((!(inB x.rated 1 100000000)))) gF (fun hb => s_load1 (cs := (Fuse.av x).cells) (c := .slice ((x.points).map Point.av) none) 0 tyS92 (.tmpC hb 19 (.ptr (σ0 0) 2)) rfl)) (.cons (Step.guard _ rfl (.bool ((!(inB x.rated 1 100000000)))) gF (fun hb => s_move (.tmp 5 (.func 108 [] [])))) (.cons (Step.guard _ rfl (.bool ((!(inB x.rated 1 100000000)))) gF (fun hb => s_callR (r := .bool ((x.points.any (wildP)))) (es := ([])) (.func 109) (.cons (.tmpC hb 20 (.slice ((x.points).map Point.av) none)) (.cons (.tmpC hb 21 (.func 108 [] [])) .nil)) call109 (F109 (x.points) 108 [] ([]) (wildP) call108 (fun x _ => (F108 x).effR) (by have hq := (iN (iN inB_i)).1 hb; omega)))) (.cons (s_or' (e := (!(!(inB x.rated 1 100000000)))) (q := (x.points.any (wildP))) (fun h => (notMk h)) (.tmp 18 (.bool ((!(inB x.rated 1 100000000)))))) .nil)))))))))) (by kernel_rfl) (by kernel_rfl) (by kernel_rfl) ⟨trivial, trivial, trivial, trivial, trivial, trivial, trivial, trivial, (fun lq => (Has.nil _)), trivial, trivial⟩ (by kernel_rfl) (by kernel_rfl) (by kernel_rfl) ?_)
  refine AC.cend (((!(inB x.rated 1 100000000)) || (x.points.any (wildP)))) rfl rfl (fun hc => ?_) (fun hc => ?_)
  ·have q3 := (iO (iN inB_i) iB).1 hc
   refine AC.rq (fun σ5 => RegOK.m1 [4] ⟨[(4, I 7)], (.box (σ0 0) (Fuse.av x).cells) :: .hole :: .hole :: mem⟩ (.cons (s_assign (.int .i64 (7))) .nil) ?_)
   refine AC.ret ?_
   refine thenQ_r ?_
   exact FinQ.ret (result1 rfl (res_tmp (v := I 7) rfl rfl)) ⟨by refine congrArg I ?_; unfold fuseErr; grind, rfl⟩
  ·have q4 := iF (iO (iN inB_i) iB) hc
   refine AC.skip ?_
   refine thenQ_n ?_
   refine AC.seq ?_
   refine AC.rq (fun σ6 => RegOK.m1 [3, 26, 27, 28] ⟨[(3, .ptr (σ0 0) 0), (26, .slice (((x.points.drop 1)).map Point.av) none), (27, I ((x.points.drop 1).length : Int)), (28, I 0)], (.box (σ0 0) (Fuse.av x).cells) :: .hole :: .hole :: mem⟩ (.cons (s_fieldAddr fld94_2 (.tmp 3 (.ptr (σ0 0) 0))) (.cons (s_load1 (cs := (Fuse.av x).cells) (c := .slice ((x.points).map Point.av) none) 0 tyS92 (.tmp 24 (.ptr (σ0 0) 2)) rfl) (.cons (s_fromM (l := x.points) (f := Point.av) slc92 (.tmp 25 (.slice ((x.points).map Point.av) none)) (.int .i64 (1)) (by omega) (fun _ => rfl)) (.cons (s_lenM (l := (x.points.drop 1)) slc92 (.tmp 26 (.slice (((x.points.drop 1)).map Point.av) none))) (.cons (s_move (.int .i64 (0))) .nil))))) ?_)
   refine AC.block ?_
   refine AC.loopW (fun mz T => ∃ (k : Nat), mz = x.points.length - 1 - k ∧ ((k ≤ x.points.length - 1) ∧ (∀ j : Nat, j < k → badP (x.points.getD j default) (x.points.getD (j + 1) default) = false)) ∧ T = ⟨[(3, .ptr (σ0 0) 0), (26, .slice (((x.points.drop 1)).map Point.av) none), (27, I ((x.points.drop 1).length : Int)), (28, I (k : Int))], (.box (σ0 0) (Fuse.av x).cells) :: .hole :: .hole :: mem⟩) _ ⟨[(3, .ptr (σ0 0) 0), (26, .slice (((x.points.drop 1)).map Point.av) none), (27, I ((x.points.drop 1).length : Int)), (28, I ((0) : Int))], (.box (σ0 0) (Fuse.av x).cells) :: .hole :: .hole :: mem⟩ ⟨0, rfl, ⟨(by omega), (by intro j hj; omega)⟩, rfl⟩ (Weak.of [] (by kernel_rfl) (by kernel_rfl)) ?_ Fr.plain
   rintro _ _ ⟨k, rfl, ⟨hk, hn⟩, rfl⟩
   refine AC.rq (fun σ7 => RegOK.m1 [3, 26, 27, 28, 29] ⟨[(3, .ptr (σ0 0) 0), (26, .slice (((x.points.drop 1)).map Point.av) none), (27, I ((x.points.drop 1).length : Int)), (28, I (k : Int)), (29, .bool (decide ((k : Int) < ((x.points.drop 1).length : Int))))], (.box (σ0 0) (Fuse.av x).cells) :: .hole :: .hole :: mem⟩ (.cons (s_lss (.tmp 28 (I (k : Int))) (.tmp 27 (I ((x.points.drop 1).length : Int)))) .nil) ?_)
   refine AC.cseq (decide ((k : Int) < ((x.points.drop 1).length : Int))) rfl rfl (fun hc => ?_) (fun hc => ?_)
   ·have q5 := iD.1 hc
    refine AC.skip ?_
    refine thenQ_n ?_
    refine AC.bseq ?_
    refine AC.rq (fun σ8 => RegOK.m1 [3, 6, 7, 26, 27, 28] ⟨[(3, .ptr (σ0 0) 0), (6, I (k : Int)), (7, .ptr (σ8 3) 0), (26, .slice (((x.points.drop 1)).map Point.av) none), (27, I ((x.points.drop 1).length : Int)), (28, I (k : Int))], (.box (σ0 0) (Fuse.av x).cells) :: (.box (σ8 3) (Point.av ((x.points.drop 1).getD k default)).cells) :: .hole :: mem⟩ (.cons (s_move (.tmp 28 (I (k : Int)))) (.cons (s_ixM (l := (x.points.drop 1)) (f := Point.av) (default) slc92 (.tmp 26 (.slice (((x.points.drop 1)).map Point.av) none)) (.tmp 28 (I (k : Int))) (by omega) rfl) (.cons (s_loadAe (l := (Point.av ((x.points.drop 1).getD k default)).cells) tyA141 (.tmp 31 (.eptr (Point.av ((x.points.drop 1).getD k default)) 0)) rfl rfl) (.cons (s_alloc 1 (σ8 3) zero141) (.cons (s_assign (.tmp 30 (I (k : Int)))) (.cons (s_store (cs := [I 0, I 0, I 0]) 1 sz141 (.tmp 7 (.ptr (σ8 3) 0)) (.tmp 32 (Point.av ((x.points.drop 1).getD k default))) rfl rfl rfl (Nat.le_of_ble_eq_true rfl)) .nil)))))) ?_)
    refine AC.rq (fun σ9 => RegOK.m1 [3, 7, 8, 26, 27, 28] ⟨[(3, .ptr (σ0 0) 0), (7, .ptr (σ8 3) 0), (8, .ptr (σ9 5) 0), (26, .slice (((x.points.drop 1)).map Point.av) none), (27, I ((x.points.drop 1).length : Int)), (28, I (k : Int))], (.box (σ0 0) (Fuse.av x).cells) :: (.box (σ8 3) (Point.av ((x.points.drop 1).getD k default)).cells) :: (.box (σ9 5) (Point.av (x.points.getD k default)).cells) :: mem⟩ (.cons (s_fieldAddr fld94_2 (.tmp 3 (.ptr (σ0 0) 0))) (.cons (s_load1 (cs := (Fuse.av x).cells) (c := .slice ((x.points).map Point.av) none) 0 tyS92 (.tmp 33 (.ptr (σ0 0) 2)) rfl) (.cons (s_move (.tmp 6 (I (k : Int)))) (.cons (s_ixM (l := x.points) (f := Point.av) (default) slc92 (.tmp 34 (.slice ((x.points).map Point.av) none)) (.tmp 35 (I (k : Int))) (by omega) rfl) (.cons (s_loadAe (l := (Point.av (x.points.getD k default)).cells) tyA141 (.tmp 36 (.eptr (Point.av (x.points.getD k default)) 0)) rfl rfl) (.cons (s_alloc 2 (σ9 5) zero141) (.cons (s_store (cs := [I 0, I 0, I 0]) 2 sz141 (.tmp 8 (.ptr (σ9 5) 0)) (.tmp 37 (Point.av (x.points.getD k default))) rfl rfl rfl (Nat.le_of_ble_eq_true rfl)) .nil))))))) ?_)
    refine AC.rq (fun σ10 => RegOK.m1 [3, 26, 27, 28, 60] ⟨[(3, .ptr (σ0 0) 0), (26, .slice (((x.points.drop 1)).map Point.av) none), (27, I ((x.points.drop 1).length : Int)), (28, I (k : Int)), (60, .bool (((decide (((x.points.drop 1).getD k default).cur ≤ (x.points.getD k default).cur) || decide ((x.points.getD k default).lo < ((x.points.drop 1).getD k default).lo)) || decide ((x.points.getD k default).hi < ((x.points.drop 1).getD k default).hi))))], (.box (σ0 0) (Fuse.av x).cells) :: (.box (σ8 3) (Point.av ((x.points.drop 1).getD k default)).cells) :: (.box (σ9 5) (Point.av (x.points.getD k default)).cells) :: mem⟩ (.cons (s_fieldAddr fld141_0 (.tmp 7 (.ptr (σ8 3) 0))) (.cons (s_load1 (cs := (Point.av ((x.points.drop 1).getD k default)).cells) (c := I (((x.points.drop 1).getD k default).cur)) 1 tyS3 (.tmp 38 (.ptr (σ8 3) 0)) rfl) (.cons (s_fieldAddr fld141_0 (.tmp 8 (.ptr (σ9 5) 0))) (.cons (s_load1 (cs := (Point.av (x.points.getD k default)).cells) (c := I ((x.points.getD k default).cur)) 2 tyS3 (.tmp 40 (.ptr (σ9 5) 0)) rfl) (.cons (s_leq (.tmp 39 (I (((x.points.drop 1).getD k default).cur))) (.tmp 41 (I ((x.points.getD k default).cur)))) (.cons (s_move (.tmp 42 (.bool (decide (((x.points.drop 1).getD k default).cur ≤ (x.points.getD k default).cur))))) (.cons (Step.guard _ rfl (.bool (decide (((x.points.drop 1).getD k default).cur ≤ (x.points.getD k default).cur))) gF (fun hb => s_fieldAddr fld141_1 (.tmp 7 (.ptr (σ8 3) 0)))) (.cons (Step.guard _ rfl (.bool (decide (((x.points.drop 1).getD k default).cur ≤ (x.points.getD k default).cur))) gF (fun hb => s_fieldAddr fld26_0 (.tmpC hb 44 (.ptr (σ8 3) 1)))) (.cons (Step.guard _ rfl (.bool (decide (((x.points.drop 1).getD k default).cur ≤ (x.points.getD k default).cur))) gF (fun hb => s_load1 (cs := (Point.av ((x.points.drop 1).getD k default)).cells) (c := I (((x.points.drop 1).getD k default).lo)) 1 tyS3 (.tmpC hb 45 (.ptr (σ8 3) 1)) rfl)) (.cons (Step.guard _ rfl (.bool (decide (((x.points.drop 1).getD k default).cur ≤ (x.points.getD k default).cur))) gF (fun hb => s_fieldAddr fld141_1 (.tmp 8 (.ptr (σ9 5) 0)))) (.cons (Step.guard _ rfl (.bool (decide (((x.points.drop 1).getD k default).cur ≤ (x.points.getD k default).cur))) gF (fun hb => s_fieldAddr fld26_0 (.tmpC hb 47 (.ptr (σ9 5) 1)))) (.cons (Step.guard _ rfl (.bool (decide (((x.points.drop 1).getD k default).cur ≤ (x.points.getD k default).cur))) gF (fun hb => s_load1 (cs := (Point.av (x.points.getD k default)).cells) (c := I ((x.points.getD k default).lo)) 2 tyS3 (.tmpC hb 48 (.ptr (σ9 5) 1)) rfl)) (.cons (Step.guard _ rfl (.bool (decide (((x.points.drop 1).getD k default).cur ≤ (x.points.getD k default).cur))) gF (fun hb => s_gtr (.tmpC hb 46 (I (((x.points.drop 1).getD k default).lo))) (.tmpC hb 49 (I ((x.points.getD k default).lo))))) (.cons (s_or' (e := (!(decide (((x.points.drop 1).getD k default).cur ≤ (x.points.getD k default).cur)))) (q := decide ((x.points.getD k default).lo < ((x.points.drop 1).getD k default).lo)) (fun h => (notMk h)) (.tmp 43 (.bool (decide (((x.points.drop 1).getD k default).cur ≤ (x.points.getD k default).cur))))) (.cons (s_move (.tmp 51 (.bool ((decide (((x.points.drop 1).getD k default).cur ≤ (x.points.getD k default).cur) || decide ((x.points.getD k default).lo < ((x.points.drop 1).getD k default).lo)))))) (.cons (Step.guard _ rfl (.bool ((decide (((x.points.drop 1).getD k default).cur ≤ (x.points.getD k default).cur) || decide ((x.points.getD k default).lo < ((x.points.drop 1).getD k default).lo)))) gF (fun hb => s_fieldAddr fld141_1 (.tmp 7 (.ptr (σ8 3) 0)))) (.cons (Step.guard _ rfl (.bool ((decide (((x.points.drop 1).getD k default).cur ≤ (x.points.getD k default).cur) || decide ((x.points.getD k default).lo < ((x.points.drop 1).getD k default).lo)))) gF (fun hb => s_fieldAddr fld26_1 (.tmpC hb 53 (.ptr (σ8 3) 1)))) (.cons (Step.guard _ rfl (.bool ((decide (((x.points.drop 1).getD k default).cur ≤ (x.points.getD k default).cur) || decide ((x.points.getD k default).lo < ((x.points.drop 1).getD k default).lo)))) gF (fun hb => s_load1 (cs := (Point.av ((x.points.drop 1).getD k default)).cells) (c := I (((x.points.drop 1).getD k default).hi)) 1 tyS3 (.tmpC hb 54 (.ptr (σ8 3) 2)) rfl)) (.cons (Step.guard _ rfl (.bool ((decide (((x.points.drop 1).getD k default).cur ≤ (x.points.getD k default).cur) || decide ((x.points.getD k default).lo < ((x.points.drop 1).getD k default).lo)))) gF (fun hb => s_fieldAddr fld141_1 (.tmp 8 (.ptr (σ9 5) 0)))) (.cons (Step.guard _ rfl (.bool ((decide (((x.points.drop 1).getD k default).cur ≤ (x.points.getD k default).cur) || decide ((x.points.getD k default).lo < ((x.points.drop 1).getD k default).lo)))) gF (fun hb => s_fieldAddr fld26_1 (.tmpC hb 56 (.ptr (σ9 5) 1)))) (.cons (Step.guard _ rfl (.bool ((decide (((x.points.drop 1).getD k default).cur ≤ (x.points.getD k default).cur) || decide ((x.points.getD k default).lo < ((x.points.drop 1).getD k default).lo)))) gF (fun hb => s_load1 (cs := (Point.av (x.points.getD k default)).cells) (c := I ((x.points.getD k default).hi)) 2 tyS3 (.tmpC hb 57 (.ptr (σ9 5) 2)) rfl)) (.cons (Step.guard _ rfl (.bool ((decide (((x.points.drop 1).getD k default).cur ≤ (x.points.getD k default).cur) || decide ((x.points.getD k default).lo < ((x.points.drop 1).getD k default).lo)))) gF (fun hb => s_gtr (.tmpC hb 55 (I (((x.points.drop 1).getD k default).hi))) (.tmpC hb 58 (I ((x.points.getD k default).hi))))) (.cons (s_or' (e := (!(decide (((x.points.drop 1).getD k default).cur ≤ (x.points.getD k default).cur) || decide ((x.points.getD k default).lo < ((x.points.drop 1).getD k default).lo)))) (q := decide ((x.points.getD k default).hi < ((x.points.drop 1).getD k default).hi)) (fun h => (notMk h)) (.tmp 52 (.bool ((decide (((x.points.drop 1).getD k default).cur ≤ (x.points.getD k default).cur) || decide ((x.points.getD k default).lo < ((x.points.drop 1).getD k default).lo)))))) .nil))))))))))))))))))))))) ?_)
    refine AC.cend (((decide (((x.points.drop 1).getD k default).cur ≤ (x.points.getD k default).cur) || decide ((x.points.getD k default).lo < ((x.points.drop 1).getD k default).lo)) || decide ((x.points.getD k default).hi < ((x.points.drop 1).getD k default).hi))) rfl rfl (fun hc => ?_) (fun hc => ?_)
    ·have q6 := (iO (iO iD iD) iD).1 hc
     have hb : badPs x.points = true := badPs_of (j := k) (by omega) (by unfold badP; rw [← drop1_getD]; exact hc)
     refine AC.rq (fun σ11 => RegOK.m1 [4] ⟨[(4, I 2)], (.box (σ0 0) (Fuse.av x).cells) :: (.box (σ8 3) (Point.av ((x.points.drop 1).getD k default)).cells) :: (.box (σ9 5) (Point.av (x.points.getD k default)).cells) :: mem⟩ (.cons (s_assign (.int .i64 (2))) .nil) ?_)
     refine AC.ret ?_
     refine blockQ_r ?_
     refine thenQ_r ?_
     refine thenQ_r ?_
     refine blockQ_r ?_
     refine thenQ_r ?_
     exact FinQ.ret (result1 rfl (res_tmp (v := I 2) rfl rfl)) ⟨by refine congrArg I ?_; unfold fuseErr; grind, rfl⟩
    ·have q7 := iF (iO (iO iD iD) iD) hc
     refine AC.skip ?_
     refine blockQ_n ?_
     refine thenQ_n ?_
     refine AC.re (fun σ12 => RegOK.m1 [3, 26, 27, 28] ⟨[(3, .ptr (σ0 0) 0), (26, .slice (((x.points.drop 1)).map Point.av) none), (27, I ((x.points.drop 1).length : Int)), (28, I ((k : Int) + 1))], (.box (σ0 0) (Fuse.av x).cells) :: (.box (σ8 3) (Point.av ((x.points.drop 1).getD k default)).cells) :: (.box (σ9 5) (Point.av (x.points.getD k default)).cells) :: mem⟩ (.cons (s_add (.tmp 28 (I (k : Int))) (.int .i64 (1)) (inK_i64 (by omega))) (.cons (s_move (.tmp 61 (I ((k : Int) + 1)))) .nil)) ?_)
     refine thenQ_n ⟨_, ?_, _, ⟨(k + 1), rfl, ⟨(by omega), (by intro j hj; rcases Decidable.em (j = k) with e | e; (subst e; unfold badP; rw [← drop1_getD]; exact hc); exact hn j (by omega))⟩, rfl⟩, Weak.of [1, 2] (by kernel_rfl) (by kernel_rfl)⟩
     omega
   ·have q8 := iF iD hc
    refine AC.exit ?_
    refine thenQ_x ?_
    refine thenQ_x ?_
    refine blockQ_x ?_
    refine thenQ_n ?_
    refine AC.rq (fun σ13 => RegOK.m1 [4] ⟨[(4, I 0)], (.box (σ0 0) (Fuse.av x).cells) :: .hole :: .hole :: mem⟩ (.cons (s_assign (.int .i64 (0))) .nil) ?_)
    refine AC.ret ?_
    exact FinQ.ret (result1 rfl (res_tmp (v := I 0) rfl rfl)) ⟨by refine congrArg I ?_; unfold fuseErr; (have hb : badPs x.points = false := badPs_not (fun j hj => hn j (by omega))); grind, rfl⟩
theorem F112 (a b : Int) : Pure Try.prog 112 [.agg [I a, I b]] (.bool ((!((decide (0 ≤ a) && decide (a ≤ b)) && decide (b ≤ 1000000))))) := by
 intro mem
 refine Meets.body 1 Try.func112 rfl rfl ?_
 refine AC.rq (fun σ0 => RegOK.m1 [1] ⟨[(1, .ptr (σ0 0) 0)], (.box (σ0 0) [I a, I b]) :: mem⟩ (.cons (s_box 0 (σ0 0) (.tmp 0 (.agg [I a, I b])) rfl) (.cons (s_assign (.bool false)) .nil)) ?_)
 refine AC.rq (fun σ1 => RegOK.m1 [2] ⟨[(2, .bool ((!(wvB a b 0 1000000))))], (.box (σ0 0) [I a, I b]) :: mem⟩ (.cons (s_loadA (cs := [I a, I b]) (l := [I a, I b]) 0 tyA26 (.tmp 1 (.ptr (σ0 0) 0)) rfl rfl) (.cons (s_call (r := .bool ((wvB a b 0 1000000))) (.func 62) (.cons (.tmp 3 (.agg [I a, I b])) (.cons (.int .i64 (0)) (.cons (.int .i64 (1000000)) .nil))) call62 (F62 (a) (b) (0) (1000000))) (.cons (s_not (.tmp 4 (.bool ((wvB a b 0 1000000))))) (.cons (s_assign (.tmp 5 (.bool ((!(wvB a b 0 1000000)))))) .nil)))) ?_)
 refine AC.ret ?_
 exact FinQ.ret (result1 rfl (res_tmp (v := .bool ((!(wvB a b 0 1000000)))) rfl rfl)) ⟨by rfl, rfl⟩
theorem F72 (f : Feeder) (i : Nat) (x : Node) (hok : f.ok) (hi : (i : Int) ≤ 9223372036854775807) : Pure Try.prog 72 [Feeder.av f, I (i : Int), Node.av x] (I (nodeErr f i x)) := by
 intro mem
 have ⟨hc1, hc2, hc3, hc4, hc5, hc6⟩ := hok
 refine Meets.body 2 Try.func72 rfl rfl ?_
 refine AC.rq (fun σ0 => RegOK.m1 [1, 3, 5] ⟨[(1, I (i : Int)), (3, .ptr (σ0 0) 0), (5, .ptr (σ0 1) 0)], (.box (σ0 0) (fc f)) :: (.box (σ0 1) (Node.av x).cells) :: mem⟩ (.cons (s_box 0 (σ0 0) (.tmp 0 (Feeder.av f)) rfl) (.cons (s_box 1 (σ0 1) (.tmp 2 (Node.av x)) rfl) (.cons (s_assign (.int .i64 (0))) .nil))) ?_)
 refine AC.seq ?_
 refine AC.rq (fun σ1 => RegOK.m1 [1, 3, 5, 9] ⟨[(1, I (i : Int)), (3, .ptr (σ0 0) 0), (5, .ptr (σ0 1) 0), (9, .bool (decide ((i : Int) = 0)))], (.box (σ0 0) (fc f)) :: (.box (σ0 1) (Node.av x).cells) :: mem⟩ (.cons (s_move (.tmp 1 (I (i : Int)))) (.cons (s_eql (.tmp 8 (I (i : Int))) (.int .i64 (0))) .nil)) ?_)
 refine AC.cend (decide ((i : Int) = 0)) rfl rfl (fun hc => ?_) (fun hc => ?_)
 ·have q1 := iD.1 hc
  refine AC.seq ?_
  refine AC.rq (fun σ2 => RegOK.m1 [14] ⟨[(14, .bool ((!(decide (x.name = x.name) && (decide (x.parent = (-1)) && (decide (x.cable = (-1)) && (decide (x.length = 0) && (decide (x.fuse = (-1)) && (((decide (x.lo0 = 0) && (decide (x.hi0 = 0) && true)) && ((decide (x.lo1 = 0) && (decide (x.hi1 = 0) && true)) && (decide (x.lo2 = 0) && (decide (x.hi2 = 0) && true)))) && true)))))))))], (.box (σ0 0) (fc f)) :: (.box (σ0 1) (Node.av x).cells) :: mem⟩ (.cons (s_loadA (cs := (Node.av x).cells) (l := (Node.av x).cells) 1 tyA47 (.tmp 5 (.ptr (σ0 1) 0)) rfl rfl) (.cons (s_fieldAddr fld47_0 (.tmp 5 (.ptr (σ0 1) 0))) (.cons (s_load1 (cs := (Node.av x).cells) (c := .str (x.name)) 1 tyS9 (.tmp 11 (.ptr (σ0 1) 0)) rfl) (.cons (s_build (l := [.str (x.name), I (-1), I (-1), I 0, I (-1), I 0, I 0, I 0, I 0, I 0, I 0]) zero47 plc47 (.cons rfl (.tmp 12 (.str (x.name))) (.cons rfl (.int .i64 (-1)) (.cons rfl (.int .i64 (-1)) (.cons rfl (.int .i64 (-1)) .nil)))) rfl) (.cons (s_data_neq (.tmp 10 (Node.av x)) (.tmp 13 (.agg [.str (x.name), I (-1), I (-1), I 0, I (-1), I 0, I 0, I 0, I 0, I 0, I 0])) (eqT47 (x.name) (x.parent) (x.cable) (x.length) (x.fuse) (x.lo0) (x.hi0) (x.lo1) (x.hi1) (x.lo2) (x.hi2) (x.name) ((-1)) ((-1)) (0) ((-1)) (0) (0) (0) (0) (0) (0)) rfl rfl rfl) .nil))))) ?_)
  refine AC.cend ((!(decide (x.name = x.name) && (decide (x.parent = (-1)) && (decide (x.cable = (-1)) && (decide (x.length = 0) && (decide (x.fuse = (-1)) && (((decide (x.lo0 = 0) && (decide (x.hi0 = 0) && true)) && ((decide (x.lo1 = 0) && (decide (x.hi1 = 0) && true)) && (decide (x.lo2 = 0) && (decide (x.hi2 = 0) && true)))) && true)))))))) rfl rfl (fun hc => ?_) (fun hc => ?_)
  ·have q2 := (iN (iA iD (iA iD (iA iD (iA iD (iA iD (iA (iA (iA iD (iA iD iB)) (iA (iA iD (iA iD iB)) (iA iD (iA iD iB)))) iB))))))).1 hc
   simp only [eq_self, and_true, true_and] at q2
   refine AC.rq (fun σ3 => RegOK.m1 [6] ⟨[(6, I 2)], (.box (σ0 0) (fc f)) :: (.box (σ0 1) (Node.av x).cells) :: mem⟩ (.cons (s_assign (.int .i64 (2))) .nil) ?_)
   refine AC.ret ?_
   refine thenQ_r ?_
   refine thenQ_r ?_
   exact FinQ.ret (result1 rfl (res_tmp (v := I 2) rfl rfl)) ⟨by refine congrArg I ?_; unfold nodeErr; (try simp only [List.any_cons, List.any_nil, Bool.or_false, Bool.or_eq_true, Bool.not_eq_true', Bool.and_eq_false_iff, decide_eq_false_iff_not, not_or] at *); (repeat' split) <;> first | rfl | (exfalso; omega), rfl⟩
  ·have q3 := iF (iN (iA iD (iA iD (iA iD (iA iD (iA iD (iA (iA (iA iD (iA iD iB)) (iA (iA iD (iA iD iB)) (iA iD (iA iD iB)))) iB))))))) hc
   simp only [eq_self, and_true, true_and] at q3
   refine AC.skip ?_
   refine thenQ_n ?_
   refine AC.rq (fun σ4 => RegOK.m1 [6] ⟨[(6, I 0)], (.box (σ0 0) (fc f)) :: (.box (σ0 1) (Node.av x).cells) :: mem⟩ (.cons (s_assign (.int .i64 (0))) .nil) ?_)
   refine AC.ret ?_
   refine thenQ_r ?_
   exact FinQ.ret (result1 rfl (res_tmp (v := I 0) rfl rfl)) ⟨by refine congrArg I ?_; unfold nodeErr; (try simp only [List.any_cons, List.any_nil, Bool.or_false, Bool.or_eq_true, Bool.not_eq_true', Bool.and_eq_false_iff, decide_eq_false_iff_not, not_or] at *); (repeat' split) <;> first | rfl | (exfalso; omega), rfl⟩
 ·have q4 := iF iD hc
  refine AC.skip ?_
  refine thenQ_n ?_
  refine AC.rq (fun σ5 => RegOK.m1 [1, 3, 5, 7] ⟨[(1, I (i : Int)), (3, .ptr (σ0 0) 0), (5, .ptr (σ0 1) 0), (7, .func 112 [] [])], (.box (σ0 0) (fc f)) :: (.box (σ0 1) (Node.av x).cells) :: mem⟩ (.cons (s_assign (.func 112)) .nil) ?_)
  refine AC.sealed 5 1 (σ0 1) 0 (Node.av x).cells rfl rfl ?_ rfl
  refine AC.bseq ?_
  refine AC.rq (fun σ6 => RegOK.m1 [5, 7, 15] ⟨[(5, .eptr (Node.av x) 0), (7, .func 112 [] []), (15, .bool ((((!(inB x.parent 0 ((i : Int) - 1))) || (!(inB x.cable 0 ((f.cables.length : Int) - 1)))) || (!(inB x.fuse (-1) ((f.fuses.length : Int) - 1))))))], (.box (σ0 0) (fc f)) :: .hole :: mem⟩ (.cons (s_fieldAddre fld47_1 (.tmp 5 (.eptr (Node.av x) 0))) (.cons (s_load1e (c := I x.parent) tyS3 (.tmp 16 (.eptr (Node.av x) 1)) rfl) (.cons (s_move (.tmp 1 (I (i : Int)))) (.cons (s_sub (.tmp 18 (I (i : Int))) (.int .i64 (1)) (inK_i64 (by omega))) (.cons (s_call (r := .bool ((inB x.parent 0 ((i : Int) - 1)))) (.func 51) (.cons (.tmp 17 (I x.parent)) (.cons (.int .i64 (0)) (.cons (.tmp 19 (I ((i : Int) - 1))) .nil))) call51 (F51 (x.parent) (0) (((i : Int) - 1)))) (.cons (s_not (.tmp 20 (.bool ((inB x.parent 0 ((i : Int) - 1)))))) (.cons (s_move (.tmp 21 (.bool ((!(inB x.parent 0 ((i : Int) - 1))))))) (.cons (Step.guard _ rfl (.bool ((!(inB x.parent 0 ((i : Int) - 1))))) gF (fun hb => s_fieldAddre fld47_2 (.tmp 5 (.eptr (Node.av x) 0)))) (.cons (Step.guard _ rfl (.bool ((!(inB x.parent 0 ((i : Int) - 1))))) gF (fun hb => s_load1e (c := I x.cable) tyS3 (.tmpC hb 23 (.eptr (Node.av x) 2)) rfl)) (.cons (Step.guard _ rfl (.bool ((!(inB x.parent 0 ((i : Int) - 1))))) gF (fun hb => s_fieldAddr fld28_0 (.tmp 3 (.ptr (σ0 0) 0)))) (.cons (Step.guard _ rfl (.bool ((!(inB x.parent 0 ((i : Int) - 1))))) gF (fun hb => s_load1 (cs := (fc f)) (c := .slice ((f.cables).map Cable.av) none) 0 tyS22 (.tmpC hb 25 (.ptr (σ0 0) 0)) rfl)) (.cons (Step.guard _ rfl (.bool ((!(inB x.parent 0 ((i : Int) - 1))))) gF (fun hb => s_lenM (l := f.cables) slc22 (.tmpC hb 26 (.slice ((f.cables).map Cable.av) none)))) (.cons (Step.guard _ rfl (.bool ((!(inB x.parent 0 ((i : Int) - 1))))) gF (fun hb => s_sub (.tmpC hb 27 (I (f.cables.length : Int))) (.int .i64 (1)) (inK_i64 (by have hq := (iN (iN inB_i)).1 hb; omega)))) (.cons (Step.guard _ rfl (.bool ((!(inB x.parent 0 ((i : Int) - 1))))) gF (fun hb => s_call (r := .bool ((inB x.cable 0 ((f.cables.length : Int) - 1)))) (.func 51) (.cons (.tmpC hb 24 (I x.cable)) (.cons (.int .i64 (0)) (.cons (.tmpC hb 28 (I ((f.cables.length : Int) - 1))) .nil))) call51 (F51 (x.cable) (0) (((f.cables.length : Int) - 1))))) (.cons (Step.guard _ rfl (.bool ((!(inB x.parent 0 ((i : Int) - 1))))) gF (fun hb => s_not (.tmpC hb 29 (.bool ((inB x.cable 0 ((f.cables.length : Int) - 1))))))) (.cons (s_or' (e := (!(!(inB x.parent 0 ((i : Int) - 1))))) (q := (!(inB x.cable 0 ((f.cables.length : Int) - 1)))) (fun h => (notMk h)) (.tmp 22 (.bool ((!(inB x.parent 0 ((i : Int) - 1))))))) (.cons (s_move (.tmp 31 (.bool (((!(inB x.parent 0 ((i : Int) - 1))) || (!(inB x.cable 0 ((f.cables.length : Int) - 1)))))))) (.cons (Step.guard _ rfl (.bool (((!(inB x.parent 0 ((i : Int) - 1))) || (!(inB x.cable 0 ((f.cables.length : Int) - 1)))))) gF (fun hb => s_fieldAddre fld47_4 (.tmp 5 (.eptr (Node.av x) 0)))) (.cons (Step.guard _ rfl (.bool (((!(inB x.parent 0 ((i : Int) - 1))) || (!(inB x.cable 0 ((f.cables.length : Int) - 1)))))) gF (fun hb => s_load1e (c := I x.fuse) tyS3 (.tmpC hb 33 (.eptr (Node.av x) 4)) rfl)) (.cons (Step.guard _ rfl (.bool (((!(inB x.parent 0 ((i : Int) - 1))) || (!(inB x.cable 0 ((f.cables.length : Int) - 1)))))) gF (fun hb => s_fieldAddr fld28_1 (.tmp 3 (.ptr (σ0 0) 0)))) (.cons (Step.guard _ rfl (.bool (((!(inB x.parent 0 ((i : Int) - 1))) || (!(inB x.cable 0 ((f.cables.length : Int) - 1)))))) gF (fun hb => s_load1 (cs := (fc f)) (c := .slice ((f.fuses).map Fuse.av) none) 0 tyS23 (.tmpC hb 35 (.ptr (σ0 0) 1)) rfl)) (.cons (Step.guard _ rfl (.bool (((!(inB x.parent 0 ((i : Int) - 1))) || (!(inB x.cable 0 ((f.cables.length : Int) - 1)))))) gF (fun hb => s_lenM (l := f.fuses) slc23 (.tmpC hb 36 (.slice ((f.fuses).map Fuse.av) none)))) (.cons (Step.guard _ rfl (.bool (((!(inB x.parent 0 ((i : Int) - 1))) || (!(inB x.cable 0 ((f.cables.length : Int) - 1)))))) gF (fun hb => s_sub (.tmpC hb 37 (I (f.fuses.length : Int))) (.int .i64 (1)) (inK_i64 (by have hq := (iN (iO (iN inB_i) (iN inB_i))).1 hb; omega)))) (.cons (Step.guard _ rfl (.bool (((!(inB x.parent 0 ((i : Int) - 1))) || (!(inB x.cable 0 ((f.cables.length : Int) - 1)))))) gF (fun hb => s_call (r := .bool ((inB x.fuse (-1) ((f.fuses.length : Int) - 1)))) (.func 51) (.cons (.tmpC hb 34 (I x.fuse)) (.cons (.int .i64 (-1)) (.cons (.tmpC hb 38 (I ((f.fuses.length : Int) - 1))) .nil))) call51 (F51 (x.fuse) ((-1)) (((f.fuses.length : Int) - 1))))) (.cons (Step.guard _ rfl (.bool (((!(inB x.parent 0 ((i : Int) - 1))) || (!(inB x.cable 0 ((f.cables.length : Int) - 1)))))) gF (fun hb => s_not (.tmpC hb 39 (.bool ((inB x.fuse (-1) ((f.fuses.length : Int) - 1))))))) (.cons (s_or' (e := (!((!(inB x.parent 0 ((i : Int) - 1))) || (!(inB x.cable 0 ((f.cables.length : Int) - 1)))))) (q := (!(inB x.fuse (-1) ((f.fuses.length : Int) - 1)))) (fun h => (notMk h)) (.tmp 32 (.bool (((!(inB x.parent 0 ((i : Int) - 1))) || (!(inB x.cable 0 ((f.cables.length : Int) - 1)))))))) (.cons (s_assign (.tmp 41 (.bool ((((!(inB x.parent 0 ((i : Int) - 1))) || (!(inB x.cable 0 ((f.cables.length : Int) - 1)))) || (!(inB x.fuse (-1) ((f.fuses.length : Int) - 1)))))))) .nil))))))))))))))))))))))))))) ?_)
  refine AC.cend ((((!(inB x.parent 0 ((i : Int) - 1))) || (!(inB x.cable 0 ((f.cables.length : Int) - 1)))) || (!(inB x.fuse (-1) ((f.fuses.length : Int) - 1))))) rfl rfl (fun hc => ?_) (fun hc => ?_)
  ·have q5 := (iO (iO (iN inB_i) (iN inB_i)) (iN inB_i)).1 hc
   refine AC.rq (fun σ7 => RegOK.m1 [6] ⟨[(6, I 4)], (.box (σ0 0) (fc f)) :: .hole :: mem⟩ (.cons (s_assign (.int .i64 (4))) .nil) ?_)
   refine AC.ret ?_
   refine blockQ_r ?_
   refine thenQ_r ?_
   exact FinQ.ret (result1 rfl (res_tmp (v := I 4) rfl rfl)) ⟨by refine congrArg I ?_; unfold nodeErr; (try simp only [List.any_cons, List.any_nil, Bool.or_false, Bool.or_eq_true, Bool.not_eq_true', Bool.and_eq_false_iff, decide_eq_false_iff_not, not_or] at *); (repeat' split) <;> first | rfl | (exfalso; omega), rfl⟩
  ·have q6 := iF (iO (iO (iN inB_i) (iN inB_i)) (iN inB_i)) hc
   refine AC.rq (fun σ8 => RegOK.mkN [42] ⟨[(42, .bool (((!(inB x.length 1 5000)) || ([(x.lo0, x.hi0), (x.lo1, x.hi1), (x.lo2, x.hi2)].any (fun e => !((decide (0 ≤ e.1) && decide (e.1 ≤ e.2)) && decide (e.2 ≤ 1000000)))))))], (.box (σ0 0) (fc f)) :: .hole :: mem⟩ (.cons (s_fieldAddre fld47_3 (.tmp 5 (.eptr (Node.av x) 0))) (.cons (s_load1e (c := I x.length) tyS3 (.tmp 43 (.eptr (Node.av x) 3)) rfl) (.cons (s_call (r := .bool ((inB x.length 1 5000))) (.func 51) (.cons (.tmp 44 (I x.length)) (.cons (.int .i64 (1)) (.cons (.int .i64 (5000)) .nil))) call51 (F51 (x.length) (1) (5000))) (.cons (s_not (.tmp 45 (.bool ((inB x.length 1 5000))))) (.cons (s_move (.tmp 46 (.bool ((!(inB x.length 1 5000)))))) (.cons (Step.guard _ rfl (.bool ((!(inB x.length 1 5000)))) gF (fun hb => s_fieldAddre fld47_5 (.tmp 5 (.eptr (Node.av x) 0)))) (.cons (Step.guard _ rfl (.bool ((!(inB x.length 1 5000)))) gF (fun hb => s_sliceArrE (es := ([(x.lo0, x.hi0), (x.lo1, x.hi1), (x.lo2, x.hi2)]).map encA) arr45 (.tmpC hb 48 (.eptr (Node.av x) 5)) (by decide) rfl rfl)) (.cons (Step.guard _ rfl (.bool ((!(inB x.length 1 5000)))) gF (fun hb => s_move (.tmp 7 (.func 112 [] [])))) (.cons (Step.guard _ rfl (.bool ((!(inB x.length 1 5000)))) gF (fun hb => s_callR (r := .bool (([(x.lo0, x.hi0), (x.lo1, x.hi1), (x.lo2, x.hi2)].any (fun e => !((decide (0 ≤ e.1) && decide (e.1 ≤ e.2)) && decide (e.2 ≤ 1000000)))))) (es := ([])) (.func 113) (.cons (.tmpC hb 49 (.slice (([(x.lo0, x.hi0), (x.lo1, x.hi1), (x.lo2, x.hi2)]).map encA) none)) (.cons (.tmpC hb 50 (.func 112 [] [])) .nil)) call113 (F113 ([(x.lo0, x.hi0), (x.lo1, x.hi1), (x.lo2, x.hi2)]) 112 [] ([]) (fun e => !((decide (0 ≤ e.1) && decide (e.1 ≤ e.2)) && decide (e.2 ≤ 1000000))) call112 (fun x _ => (F112 x.1 x.2).effR) (by have hq := (iN (iN inB_i)).1 hb; simp)))) (.cons (s_or' (e := (!(!(inB x.length 1 5000)))) (q := ([(x.lo0, x.hi0), (x.lo1, x.hi1), (x.lo2, x.hi2)].any (fun e => !((decide (0 ≤ e.1) && decide (e.1 ≤ e.2)) && decide (e.2 ≤ 1000000))))) (fun h => (notMk h)) (.tmp 47 (.bool ((!(inB x.length 1 5000)))))) (.cons (s_assign (.tmp 52 (.bool (((!(inB x.length 1 5000)) || ([(x.lo0, x.hi0), (x.lo1, x.hi1), (x.lo2, x.hi2)].any (fun e => !((decide (0 ≤ e.1) && decide (e.1 ≤ e.2)) && decide (e.2 ≤ 1000000))))))))) .nil))))))))))) (by kernel_rfl) (by kernel_rfl) (by kernel_rfl) ⟨trivial, trivial, trivial, trivial, trivial, trivial, trivial, trivial, (fun lq => (Has.nil _)), trivial, trivial, trivial⟩ (by kernel_rfl) (by kernel_rfl) (by kernel_rfl) ?_)
   refine AC.cend (((!(inB x.length 1 5000)) || ([(x.lo0, x.hi0), (x.lo1, x.hi1), (x.lo2, x.hi2)].any (fun e => !((decide (0 ≤ e.1) && decide (e.1 ≤ e.2)) && decide (e.2 ≤ 1000000)))))) rfl rfl (fun hc => ?_) (fun hc => ?_)
   ·have q7 := (iO (iN inB_i) iB).1 hc
    refine AC.rq (fun σ9 => RegOK.m1 [6] ⟨[(6, I 7)], (.box (σ0 0) (fc f)) :: .hole :: mem⟩ (.cons (s_assign (.int .i64 (7))) .nil) ?_)
    refine AC.ret ?_
    refine blockQ_r ?_
    refine thenQ_r ?_
    exact FinQ.ret (result1 rfl (res_tmp (v := I 7) rfl rfl)) ⟨by refine congrArg I ?_; unfold nodeErr; (try simp only [List.any_cons, List.any_nil, Bool.or_false, Bool.or_eq_true, Bool.not_eq_true', Bool.and_eq_false_iff, decide_eq_false_iff_not, not_or] at *); (repeat' split) <;> first | rfl | (exfalso; omega), rfl⟩
   ·have q8 := iF (iO (iN inB_i) iB) hc
    refine AC.skip ?_
    refine blockQ_n ?_
    refine thenQ_n ?_
    refine AC.rq (fun σ10 => RegOK.m1 [6] ⟨[(6, I 0)], (.box (σ0 0) (fc f)) :: .hole :: mem⟩ (.cons (s_assign (.int .i64 (0))) .nil) ?_)
    refine AC.ret ?_
    exact FinQ.ret (result1 rfl (res_tmp (v := I 0) rfl rfl)) ⟨by refine congrArg I ?_; unfold nodeErr; (try simp only [List.any_cons, List.any_nil, Bool.or_false, Bool.or_eq_true, Bool.not_eq_true', Bool.and_eq_false_iff, decide_eq_false_iff_not, not_or] at *); (repeat' split) <;> first | rfl | (exfalso; omega), rfl⟩
theorem F71 (i : Nat) (x : Node) (f : Feeder) (s0 : Nat) (hok : f.ok) (hi : (i : Int) ≤ 9223372036854775807) : EffR Try.prog 71 [I (i : Int), Node.av x, .ptr s0 0] [Ent.box s0 (fc f)] (.int .i64 (nodeErr f i x)) := by
 intro mem hes
 obtain ⟨p0, hm0⟩ := List.mem_iff_getElem?.1 (hes (Ent.box s0 (fc f)) (by simp))
 refine Meets.body 1 Try.func71 rfl rfl ?_
 refine AC.rq (fun σ0 => RegOK.m1 [0, 2, 4] ⟨[(0, I (i : Int)), (2, .ptr s0 0), (4, .ptr (σ0 0) 0)], (.box (σ0 0) (Node.av x).cells) :: mem⟩ (.cons (s_box 0 (σ0 0) (.tmp 1 (Node.av x)) rfl) (.cons (s_assign (.int .i64 (0))) .nil)) ?_)
 refine AC.rq (fun σ1 => RegOK.mk [5] ⟨[(5, I (nodeErr f i x))], (.box (σ0 0) (Node.av x).cells) :: mem⟩ (.cons (s_loadA (cs := (fc f)) (l := (fc f)) (p0 + 1) tyA28 (.tmp 2 (.ptr s0 0)) rfl rfl) (.cons (s_move (.tmp 0 (I (i : Int)))) (.cons (s_loadA (cs := (Node.av x).cells) (l := (Node.av x).cells) 0 tyA47 (.tmp 4 (.ptr (σ0 0) 0)) rfl rfl) (.cons (s_call (r := I (nodeErr f i x)) (.func 72) (.cons (.tmp 6 (Feeder.av f)) (.cons (.tmp 7 (I (i : Int))) (.cons (.tmp 8 (Node.av x)) .nil))) call72 (F72 (f) (i) (x) (by exact hok) (by omega))) (.cons (s_assign (.tmp 9 (I (nodeErr f i x)))) .nil))))) (by kernel_rfl) (show _ = _ from cg1 (fun z0 => [z0, some (Ent.box (σ0 0) (Node.av x).cells)]) hm0) (by kernel_rfl) (by kernel_rfl) (by kernel_rfl) (by kernel_rfl) (by kernel_rfl) ?_)
 refine AC.ret ?_
 exact FinQ.ret (result1 rfl (res_tmp (v := I (nodeErr f i x)) rfl rfl)) ⟨by rfl, rfl⟩
theorem F63 (l : List Cable) (hl : (l.length : Int) ≤ 9223372036854775807) (hok : ∀ x : Cable, x ∈ l → x.ok) : Pure Try.prog 63 [.slice ((l).map Cable.av) none, .func 64 [] [], .func 65 [] []] (.tuple [I (cabsE l).1, I (cabsE l).2]) := by
 intro mem
 refine Meets.body 2 Try.func63 rfl rfl ?_
 refine AC.rq (fun σ0 => RegOK.m1 [0, 2, 4] ⟨[(0, .slice ((l).map Cable.av) none), (2, .func 65 [] []), (4, .ptr (σ0 0) 0)], (.box (σ0 0) [.func 64 [] []]) :: .hole :: mem⟩ (.cons (s_box 0 (σ0 0) (.tmp 1 (.func 64 [] [])) rfl) (.cons (s_assign (.int .i64 (0))) (.cons (s_assign (.int .i64 (0))) .nil))) ?_)
 refine AC.seq ?_
 refine AC.rq (fun σ1 => RegOK.m1 [0, 2, 4, 12, 13, 14] ⟨[(0, .slice ((l).map Cable.av) none), (2, .func 65 [] []), (4, .ptr (σ0 0) 0), (12, .slice ((l).map Cable.av) none), (13, I (l.length : Int)), (14, I 0)], (.box (σ0 0) [.func 64 [] []]) :: .hole :: mem⟩ (.cons (s_move (.tmp 0 (.slice ((l).map Cable.av) none))) (.cons (s_lenM (l := l) slc22 (.tmp 12 (.slice ((l).map Cable.av) none))) (.cons (s_move (.int .i64 (0))) .nil))) ?_)
 refine AC.block ?_
 refine AC.loopW (fun mz T => ∃ (k : Nat), mz = l.length - k ∧ ((k ≤ l.length) ∧ (∀ j : Nat, j < k → (cabE l) j = 0)) ∧ T = ⟨[(0, .slice ((l).map Cable.av) none), (2, .func 65 [] []), (4, .ptr (σ0 0) 0), (12, .slice ((l).map Cable.av) none), (13, I (l.length : Int)), (14, I (k : Int))], (.box (σ0 0) [.func 64 [] []]) :: .hole :: mem⟩) _ ⟨[(0, .slice ((l).map Cable.av) none), (2, .func 65 [] []), (4, .ptr (σ0 0) 0), (12, .slice ((l).map Cable.av) none), (13, I (l.length : Int)), (14, I ((0) : Int))], (.box (σ0 0) [.func 64 [] []]) :: .hole :: mem⟩ ⟨0, rfl, ⟨(by omega), (by intro j hj; omega)⟩, rfl⟩ (Weak.of [] (by kernel_rfl) (by kernel_rfl)) ?_ Fr.plain
 rintro _ _ ⟨k, rfl, ⟨hk, hn⟩, rfl⟩
 refine AC.rq (fun σ2 => RegOK.m1 [0, 2, 4, 12, 13, 14, 15] ⟨[(0, .slice ((l).map Cable.av) none), (2, .func 65 [] []), (4, .ptr (σ0 0) 0), (12, .slice ((l).map Cable.av) none), (13, I (l.length : Int)), (14, I (k : Int)), (15, .bool (decide ((k : Int) < (l.length : Int))))], (.box (σ0 0) [.func 64 [] []]) :: .hole :: mem⟩ (.cons (s_lss (.tmp 14 (I (k : Int))) (.tmp 13 (I (l.length : Int)))) .nil) ?_)
 refine AC.cseq (decide ((k : Int) < (l.length : Int))) rfl rfl (fun hc => ?_) (fun hc => ?_)
 ·have q1 := iD.1 hc
  refine AC.skip ?_
  refine thenQ_n ?_
  refine AC.bseq ?_
  refine AC.rq (fun σ3 => RegOK.m1 [0, 2, 4, 8, 9, 12, 13, 14] ⟨[(0, .slice ((l).map Cable.av) none), (2, .func 65 [] []), (4, .ptr (σ0 0) 0), (8, I (k : Int)), (9, .ptr (σ3 3) 0), (12, .slice ((l).map Cable.av) none), (13, I (l.length : Int)), (14, I (k : Int))], (.box (σ0 0) [.func 64 [] []]) :: (.box (σ3 3) (Cable.av (l.getD k default)).cells) :: mem⟩ (.cons (s_move (.tmp 14 (I (k : Int)))) (.cons (s_ixM (l := l) (f := Cable.av) (default) slc22 (.tmp 12 (.slice ((l).map Cable.av) none)) (.tmp 14 (I (k : Int))) (by omega) rfl) (.cons (s_loadAe (l := (Cable.av (l.getD k default)).cells) tyA71 (.tmp 17 (.eptr (Cable.av (l.getD k default)) 0)) rfl rfl) (.cons (s_alloc 1 (σ3 3) zero71) (.cons (s_assign (.tmp 16 (I (k : Int)))) (.cons (s_store (cs := [.str (⟨#[]⟩), I 0, I 0, I 0, I 0, I 0]) 1 sz71 (.tmp 9 (.ptr (σ3 3) 0)) (.tmp 18 (Cable.av (l.getD k default))) rfl rfl rfl (Nat.le_of_ble_eq_true rfl)) .nil)))))) ?_)
  refine AC.rq (fun σ4 => RegOK.m1 [0, 2, 4, 8, 9, 10, 12, 13, 14] ⟨[(0, .slice ((l).map Cable.av) none), (2, .func 65 [] []), (4, .ptr (σ0 0) 0), (8, I (k : Int)), (9, .ptr (σ3 3) 0), (10, .func 103 [] [.ptr (σ0 0) 0, .ptr (σ3 3) 0]), (12, .slice ((l).map Cable.av) none), (13, I (l.length : Int)), (14, I (k : Int))], (.box (σ0 0) [.func 64 [] []]) :: (.box (σ3 3) (Cable.av (l.getD k default)).cells) :: mem⟩ (.cons (s_makeFunc .nil (.cons (.tmp 4 (.ptr (σ0 0) 0)) (.cons (.tmp 9 (.ptr (σ3 3) 0)) .nil))) (.cons (s_assign (.tmp 19 (.func 103 [] [.ptr (σ0 0) 0, .ptr (σ3 3) 0]))) .nil)) ?_)
  refine AC.bseq ?_
  refine AC.rq (fun σ5 => RegOK.m1 [0, 2, 4, 8, 9, 10, 12, 13, 14, 20] ⟨[(0, .slice ((l).map Cable.av) none), (2, .func 65 [] []), (4, .ptr (σ0 0) 0), (8, I (k : Int)), (9, .ptr (σ3 3) 0), (10, .func 103 [] [.ptr (σ0 0) 0, .ptr (σ3 3) 0]), (12, .slice ((l).map Cable.av) none), (13, I (l.length : Int)), (14, I (k : Int)), (20, .bool ((!nameOK (l.getD k default).name)))], (.box (σ0 0) [.func 64 [] []]) :: (.box (σ3 3) (Cable.av (l.getD k default)).cells) :: mem⟩ (.cons (s_load1 (cs := [.func 64 [] []]) (c := .func 64 [] []) 0 tyS113 (.tmp 4 (.ptr (σ0 0) 0)) rfl) (.cons (s_loadA (cs := (Cable.av (l.getD k default)).cells) (l := (Cable.av (l.getD k default)).cells) 1 tyA71 (.tmp 9 (.ptr (σ3 3) 0)) rfl rfl) (.cons (s_call (r := .str ((l.getD k default).name)) (.tmp 21 (.func 64 [] [])) (.cons (.tmp 22 (Cable.av (l.getD k default))) .nil) call64 (F64 ((l.getD k default)))) (.cons (s_call (r := .bool (nameOK (l.getD k default).name)) (.func 104) (.cons (.tmp 23 (.str ((l.getD k default).name))) .nil) call104 (F104 ((l.getD k default).name) (by exact (hok _ (getD_mem (by omega)))))) (.cons (s_not (.tmp 24 (.bool (nameOK (l.getD k default).name)))) (.cons (s_assign (.tmp 25 (.bool ((!nameOK (l.getD k default).name))))) .nil)))))) ?_)
  refine AC.cend ((!nameOK (l.getD k default).name)) rfl rfl (fun hc => ?_) (fun hc => ?_)
  ·have q2 := (iN iB).1 hc
   refine AC.rq (fun σ6 => RegOK.m1 [6, 7] ⟨[(6, I (k : Int)), (7, I 6)], (.box (σ0 0) [.func 64 [] []]) :: (.box (σ3 3) (Cable.av (l.getD k default)).cells) :: mem⟩ (.cons (s_move (.tmp 8 (I (k : Int)))) (.cons (s_assign (.tmp 26 (I (k : Int)))) (.cons (s_assign (.int .i64 (6))) .nil))) ?_)
   refine AC.ret ?_
   refine blockQ_r ?_
   refine thenQ_r ?_
   refine blockQ_r ?_
   refine thenQ_r ?_
   refine thenQ_r ?_
   refine blockQ_r ?_
   refine thenQ_r ?_
   exact FinQ.ret (result2 rfl (res_tmp (v := I (k : Int)) rfl rfl) (res_tmp (v := I 6) rfl rfl)) ⟨by (have he : (cabE l) k = 6 := by unfold cabE errOf; grind); (have hF := firstErr_found (e := (cabE l)) (k := k) (by rw [he]; omega) l.length 0 (by omega) (by omega) (fun j _ hj => hn j hj)); show _ = AV.tuple [I (firstErr ((cabE l)) l.length 0).1, I (firstErr ((cabE l)) l.length 0).2]; rw [hF, he], rfl⟩
  ·have q3 := iF (iN iB) hc
   refine AC.rq (fun σ7 => RegOK.mkN [0, 2, 4, 8, 9, 12, 13, 14, 27] ⟨[(0, .slice ((l).map Cable.av) none), (2, .func 65 [] []), (4, .ptr (σ0 0) 0), (8, I (k : Int)), (9, .ptr (σ3 3) 0), (12, .slice ((l).map Cable.av) none), (13, I (l.length : Int)), (14, I (k : Int)), (27, .bool (((l.take k).any (fun y => decide (y.name = (l.getD k default).name)))))], (.box (σ0 0) [.func 64 [] []]) :: (.box (σ3 3) (Cable.av (l.getD k default)).cells) :: mem⟩ (.cons (s_move (.tmp 0 (.slice ((l).map Cable.av) none))) (.cons (s_move (.tmp 8 (I (k : Int)))) (.cons (s_toM (l := l) (f := Cable.av) slc22 (.tmp 28 (.slice ((l).map Cable.av) none)) (.tmp 29 (I (k : Int))) (by omega) (fun _ => rfl)) (.cons (s_move (.tmp 10 (.func 103 [] [.ptr (σ0 0) 0, .ptr (σ3 3) 0]))) (.cons (s_callR (r := .bool (((l.take k).any (fun y => decide (y.name = (l.getD k default).name))))) (es := ([Ent.box (σ0 0) [.func 64 [] []], Ent.box (σ3 3) (Cable.av (l.getD k default)).cells])) (.func 105) (.cons (.tmp 30 (.slice (((l.take k)).map Cable.av) none)) (.cons (.tmp 31 (.func 103 [] [.ptr (σ0 0) 0, .ptr (σ3 3) 0])) .nil)) call105 (F105 ((l.take k)) 103 [.ptr (σ0 0) 0, .ptr (σ3 3) 0] ([Ent.box (σ0 0) [.func 64 [] []], Ent.box (σ3 3) (Cable.av (l.getD k default)).cells]) (fun y => decide (y.name = (l.getD k default).name)) call103 (fun y _ => F103 y (l.getD k default) (σ0 0) (σ3 3)) (by rw [List.length_take]; omega))) (.cons (s_assign (.tmp 32 (.bool (((l.take k).any (fun y => decide (y.name = (l.getD k default).name))))))) .nil)))))) (by kernel_rfl) (by kernel_rfl) (by kernel_rfl) ⟨trivial, trivial, trivial, trivial, (fun lq => (Has.cons (List.mem_of_getElem? (i := 0) rfl) (Has.cons (List.mem_of_getElem? (i := 1) rfl) (Has.nil _)))), trivial, trivial⟩ (by kernel_rfl) (by kernel_rfl) (by kernel_rfl) ?_)
   refine AC.cend (((l.take k).any (fun y => decide (y.name = (l.getD k default).name)))) rfl rfl (fun hc => ?_) (fun hc => ?_)
   ·have q4 := iB.1 hc
    refine AC.rq (fun σ8 => RegOK.m1 [6, 7] ⟨[(6, I (k : Int)), (7, I 5)], (.box (σ0 0) [.func 64 [] []]) :: (.box (σ3 3) (Cable.av (l.getD k default)).cells) :: mem⟩ (.cons (s_move (.tmp 8 (I (k : Int)))) (.cons (s_assign (.tmp 33 (I (k : Int)))) (.cons (s_assign (.int .i64 (5))) .nil))) ?_)
    refine AC.ret ?_
    refine blockQ_r ?_
    refine thenQ_r ?_
    refine blockQ_r ?_
    refine thenQ_r ?_
    refine thenQ_r ?_
    refine blockQ_r ?_
    refine thenQ_r ?_
    exact FinQ.ret (result2 rfl (res_tmp (v := I (k : Int)) rfl rfl) (res_tmp (v := I 5) rfl rfl)) ⟨by (have he : (cabE l) k = 5 := by unfold cabE errOf; grind); (have hF := firstErr_found (e := (cabE l)) (k := k) (by rw [he]; omega) l.length 0 (by omega) (by omega) (fun j _ hj => hn j hj)); show _ = AV.tuple [I (firstErr ((cabE l)) l.length 0).1, I (firstErr ((cabE l)) l.length 0).2]; rw [hF, he], rfl⟩
   ·have q5 := iF iB hc
    refine AC.skip ?_
    refine blockQ_n ?_
    refine thenQ_n ?_
    refine AC.rq (fun σ9 => RegOK.m1 [0, 2, 4, 8, 11, 12, 13, 14] ⟨[(0, .slice ((l).map Cable.av) none), (2, .func 65 [] []), (4, .ptr (σ0 0) 0), (8, I (k : Int)), (11, I (cableErr (l.getD k default))), (12, .slice ((l).map Cable.av) none), (13, I (l.length : Int)), (14, I (k : Int))], (.box (σ0 0) [.func 64 [] []]) :: (.box (σ3 3) (Cable.av (l.getD k default)).cells) :: mem⟩ (.cons (s_move (.tmp 2 (.func 65 [] []))) (.cons (s_move (.tmp 8 (I (k : Int)))) (.cons (s_loadA (cs := (Cable.av (l.getD k default)).cells) (l := (Cable.av (l.getD k default)).cells) 1 tyA71 (.tmp 9 (.ptr (σ3 3) 0)) rfl rfl) (.cons (s_call (r := I (cableErr (l.getD k default))) (.tmp 34 (.func 65 [] [])) (.cons (.tmp 35 (I (k : Int))) (.cons (.tmp 36 (Cable.av (l.getD k default))) .nil)) call65 (F65 ((k : Int)) ((l.getD k default)))) (.cons (s_assign (.tmp 37 (I (cableErr (l.getD k default))))) .nil))))) ?_)
    refine AC.rq (fun σ10 => RegOK.m1 [0, 2, 4, 8, 11, 12, 13, 14, 39] ⟨[(0, .slice ((l).map Cable.av) none), (2, .func 65 [] []), (4, .ptr (σ0 0) 0), (8, I (k : Int)), (11, I (cableErr (l.getD k default))), (12, .slice ((l).map Cable.av) none), (13, I (l.length : Int)), (14, I (k : Int)), (39, .bool (decide ((cableErr (l.getD k default)) ≠ 0)))], (.box (σ0 0) [.func 64 [] []]) :: (.box (σ3 3) (Cable.av (l.getD k default)).cells) :: mem⟩ (.cons (s_move (.tmp 11 (I (cableErr (l.getD k default))))) (.cons (s_neq (.tmp 38 (I (cableErr (l.getD k default)))) (.int .i64 (0))) .nil)) ?_)
    refine AC.cend (decide ((cableErr (l.getD k default)) ≠ 0)) rfl rfl (fun hc => ?_) (fun hc => ?_)
    ·have q6 := iD.1 hc
     refine AC.rq (fun σ11 => RegOK.m1 [6, 7] ⟨[(6, I (k : Int)), (7, I (cableErr (l.getD k default)))], (.box (σ0 0) [.func 64 [] []]) :: (.box (σ3 3) (Cable.av (l.getD k default)).cells) :: mem⟩ (.cons (s_move (.tmp 8 (I (k : Int)))) (.cons (s_move (.tmp 11 (I (cableErr (l.getD k default))))) (.cons (s_assign (.tmp 40 (I (k : Int)))) (.cons (s_assign (.tmp 41 (I (cableErr (l.getD k default))))) .nil)))) ?_)
     refine AC.ret ?_
     refine blockQ_r ?_
     refine thenQ_r ?_
     refine thenQ_r ?_
     refine blockQ_r ?_
     refine thenQ_r ?_
     exact FinQ.ret (result2 rfl (res_tmp (v := I (k : Int)) rfl rfl) (res_tmp (v := I (cableErr (l.getD k default))) rfl rfl)) ⟨by (have he : (cabE l) k = (cableErr (l.getD k default)) := by unfold cabE errOf; grind); (have hF := firstErr_found (e := (cabE l)) (k := k) (by rw [he]; omega) l.length 0 (by omega) (by omega) (fun j _ hj => hn j hj)); show _ = AV.tuple [I (firstErr ((cabE l)) l.length 0).1, I (firstErr ((cabE l)) l.length 0).2]; rw [hF, he], rfl⟩
    ·have q7 := iF iD hc
     refine AC.skip ?_
     refine blockQ_n ?_
     refine thenQ_n ?_
     refine AC.re (fun σ12 => RegOK.m1 [0, 2, 4, 12, 13, 14] ⟨[(0, .slice ((l).map Cable.av) none), (2, .func 65 [] []), (4, .ptr (σ0 0) 0), (12, .slice ((l).map Cable.av) none), (13, I (l.length : Int)), (14, I ((k : Int) + 1))], (.box (σ0 0) [.func 64 [] []]) :: (.box (σ3 3) (Cable.av (l.getD k default)).cells) :: mem⟩ (.cons (s_add (.tmp 14 (I (k : Int))) (.int .i64 (1)) (inK_i64 (by omega))) (.cons (s_move (.tmp 42 (I ((k : Int) + 1)))) .nil)) ?_)
     refine thenQ_n ⟨_, ?_, _, ⟨(k + 1), rfl, ⟨(by omega), (by intro j hj; rcases Decidable.em (j = k) with h | h; (subst h; unfold cabE errOf; grind); exact hn j (by omega))⟩, rfl⟩, Weak.of [1] (by kernel_rfl) (by kernel_rfl)⟩
     omega
 ·have q8 := iF iD hc
  refine AC.exit ?_
  refine thenQ_x ?_
  refine thenQ_x ?_
  refine blockQ_x ?_
  refine thenQ_n ?_
  refine AC.rq (fun σ13 => RegOK.m1 [6, 7] ⟨[(6, I 0), (7, I 0)], (.box (σ0 0) [.func 64 [] []]) :: .hole :: mem⟩ (.cons (s_assign (.int .i64 (0))) (.cons (s_assign (.int .i64 (0))) .nil)) ?_)
  refine AC.ret ?_
  exact FinQ.ret (result2 rfl (res_tmp (v := I 0) rfl rfl) (res_tmp (v := I 0) rfl rfl)) ⟨by (have hF := firstErr_none (e := (cabE l)) l.length 0 (fun j _ hj => hn j (by omega))); show _ = AV.tuple [I (firstErr ((cabE l)) l.length 0).1, I (firstErr ((cabE l)) l.length 0).2]; rw [hF], rfl⟩
theorem F66 (l : List Fuse) (hl : (l.length : Int) ≤ 9223372036854775807) (hok : ∀ x : Fuse, x ∈ l → x.ok) : Pure Try.prog 66 [.slice ((l).map Fuse.av) none, .func 67 [] [], .func 68 [] []] (.tuple [I (fussE l).1, I (fussE l).2]) := by
 intro mem
 refine Meets.body 2 Try.func66 rfl rfl ?_
 refine AC.rq (fun σ0 => RegOK.m1 [0, 2, 4] ⟨[(0, .slice ((l).map Fuse.av) none), (2, .func 68 [] []), (4, .ptr (σ0 0) 0)], (.box (σ0 0) [.func 67 [] []]) :: .hole :: mem⟩ (.cons (s_box 0 (σ0 0) (.tmp 1 (.func 67 [] [])) rfl) (.cons (s_assign (.int .i64 (0))) (.cons (s_assign (.int .i64 (0))) .nil))) ?_)
 refine AC.seq ?_
 refine AC.rq (fun σ1 => RegOK.m1 [0, 2, 4, 12, 13, 14] ⟨[(0, .slice ((l).map Fuse.av) none), (2, .func 68 [] []), (4, .ptr (σ0 0) 0), (12, .slice ((l).map Fuse.av) none), (13, I (l.length : Int)), (14, I 0)], (.box (σ0 0) [.func 67 [] []]) :: .hole :: mem⟩ (.cons (s_move (.tmp 0 (.slice ((l).map Fuse.av) none))) (.cons (s_lenM (l := l) slc23 (.tmp 12 (.slice ((l).map Fuse.av) none))) (.cons (s_move (.int .i64 (0))) .nil))) ?_)
 refine AC.block ?_
 refine AC.loopW (fun mz T => ∃ (k : Nat), mz = l.length - k ∧ ((k ≤ l.length) ∧ (∀ j : Nat, j < k → (fusE l) j = 0)) ∧ T = ⟨[(0, .slice ((l).map Fuse.av) none), (2, .func 68 [] []), (4, .ptr (σ0 0) 0), (12, .slice ((l).map Fuse.av) none), (13, I (l.length : Int)), (14, I (k : Int))], (.box (σ0 0) [.func 67 [] []]) :: .hole :: mem⟩) _ ⟨[(0, .slice ((l).map Fuse.av) none), (2, .func 68 [] []), (4, .ptr (σ0 0) 0), (12, .slice ((l).map Fuse.av) none), (13, I (l.length : Int)), (14, I ((0) : Int))], (.box (σ0 0) [.func 67 [] []]) :: .hole :: mem⟩ ⟨0, rfl, ⟨(by omega), (by intro j hj; omega)⟩, rfl⟩ (Weak.of [] (by kernel_rfl) (by kernel_rfl)) ?_ Fr.plain
 rintro _ _ ⟨k, rfl, ⟨hk, hn⟩, rfl⟩
 refine AC.rq (fun σ2 => RegOK.m1 [0, 2, 4, 12, 13, 14, 15] ⟨[(0, .slice ((l).map Fuse.av) none), (2, .func 68 [] []), (4, .ptr (σ0 0) 0), (12, .slice ((l).map Fuse.av) none), (13, I (l.length : Int)), (14, I (k : Int)), (15, .bool (decide ((k : Int) < (l.length : Int))))], (.box (σ0 0) [.func 67 [] []]) :: .hole :: mem⟩ (.cons (s_lss (.tmp 14 (I (k : Int))) (.tmp 13 (I (l.length : Int)))) .nil) ?_)
 refine AC.cseq (decide ((k : Int) < (l.length : Int))) rfl rfl (fun hc => ?_) (fun hc => ?_)
 ·have q1 := iD.1 hc
  refine AC.skip ?_
  refine thenQ_n ?_
  refine AC.bseq ?_
  refine AC.rq (fun σ3 => RegOK.m1 [0, 2, 4, 8, 9, 12, 13, 14] ⟨[(0, .slice ((l).map Fuse.av) none), (2, .func 68 [] []), (4, .ptr (σ0 0) 0), (8, I (k : Int)), (9, .ptr (σ3 3) 0), (12, .slice ((l).map Fuse.av) none), (13, I (l.length : Int)), (14, I (k : Int))], (.box (σ0 0) [.func 67 [] []]) :: (.box (σ3 3) (Fuse.av (l.getD k default)).cells) :: mem⟩ (.cons (s_move (.tmp 14 (I (k : Int)))) (.cons (s_ixM (l := l) (f := Fuse.av) (default) slc23 (.tmp 12 (.slice ((l).map Fuse.av) none)) (.tmp 14 (I (k : Int))) (by omega) rfl) (.cons (s_loadAe (l := (Fuse.av (l.getD k default)).cells) tyA94 (.tmp 17 (.eptr (Fuse.av (l.getD k default)) 0)) rfl rfl) (.cons (s_alloc 1 (σ3 3) zero94) (.cons (s_assign (.tmp 16 (I (k : Int)))) (.cons (s_store (cs := [.str (⟨#[]⟩), I 0, .nils]) 1 sz94 (.tmp 9 (.ptr (σ3 3) 0)) (.tmp 18 (Fuse.av (l.getD k default))) rfl rfl rfl (Nat.le_of_ble_eq_true rfl)) .nil)))))) ?_)
  refine AC.rq (fun σ4 => RegOK.m1 [0, 2, 4, 8, 9, 10, 12, 13, 14] ⟨[(0, .slice ((l).map Fuse.av) none), (2, .func 68 [] []), (4, .ptr (σ0 0) 0), (8, I (k : Int)), (9, .ptr (σ3 3) 0), (10, .func 106 [] [.ptr (σ0 0) 0, .ptr (σ3 3) 0]), (12, .slice ((l).map Fuse.av) none), (13, I (l.length : Int)), (14, I (k : Int))], (.box (σ0 0) [.func 67 [] []]) :: (.box (σ3 3) (Fuse.av (l.getD k default)).cells) :: mem⟩ (.cons (s_makeFunc .nil (.cons (.tmp 4 (.ptr (σ0 0) 0)) (.cons (.tmp 9 (.ptr (σ3 3) 0)) .nil))) (.cons (s_assign (.tmp 19 (.func 106 [] [.ptr (σ0 0) 0, .ptr (σ3 3) 0]))) .nil)) ?_)
  refine AC.bseq ?_
  refine AC.rq (fun σ5 => RegOK.m1 [0, 2, 4, 8, 9, 10, 12, 13, 14, 20] ⟨[(0, .slice ((l).map Fuse.av) none), (2, .func 68 [] []), (4, .ptr (σ0 0) 0), (8, I (k : Int)), (9, .ptr (σ3 3) 0), (10, .func 106 [] [.ptr (σ0 0) 0, .ptr (σ3 3) 0]), (12, .slice ((l).map Fuse.av) none), (13, I (l.length : Int)), (14, I (k : Int)), (20, .bool ((!nameOK (l.getD k default).name)))], (.box (σ0 0) [.func 67 [] []]) :: (.box (σ3 3) (Fuse.av (l.getD k default)).cells) :: mem⟩ (.cons (s_load1 (cs := [.func 67 [] []]) (c := .func 67 [] []) 0 tyS116 (.tmp 4 (.ptr (σ0 0) 0)) rfl) (.cons (s_loadA (cs := (Fuse.av (l.getD k default)).cells) (l := (Fuse.av (l.getD k default)).cells) 1 tyA94 (.tmp 9 (.ptr (σ3 3) 0)) rfl rfl) (.cons (s_call (r := .str ((l.getD k default).name)) (.tmp 21 (.func 67 [] [])) (.cons (.tmp 22 (Fuse.av (l.getD k default))) .nil) call67 (F67 ((l.getD k default)))) (.cons (s_call (r := .bool (nameOK (l.getD k default).name)) (.func 104) (.cons (.tmp 23 (.str ((l.getD k default).name))) .nil) call104 (F104 ((l.getD k default).name) (by exact (hok _ (getD_mem (by omega))).1))) (.cons (s_not (.tmp 24 (.bool (nameOK (l.getD k default).name)))) (.cons (s_assign (.tmp 25 (.bool ((!nameOK (l.getD k default).name))))) .nil)))))) ?_)
  refine AC.cend ((!nameOK (l.getD k default).name)) rfl rfl (fun hc => ?_) (fun hc => ?_)
  ·have q2 := (iN iB).1 hc
   refine AC.rq (fun σ6 => RegOK.m1 [6, 7] ⟨[(6, I (k : Int)), (7, I 6)], (.box (σ0 0) [.func 67 [] []]) :: (.box (σ3 3) (Fuse.av (l.getD k default)).cells) :: mem⟩ (.cons (s_move (.tmp 8 (I (k : Int)))) (.cons (s_assign (.tmp 26 (I (k : Int)))) (.cons (s_assign (.int .i64 (6))) .nil))) ?_)
   refine AC.ret ?_
   refine blockQ_r ?_
   refine thenQ_r ?_
   refine blockQ_r ?_
   refine thenQ_r ?_
   refine thenQ_r ?_
   refine blockQ_r ?_
   refine thenQ_r ?_
   exact FinQ.ret (result2 rfl (res_tmp (v := I (k : Int)) rfl rfl) (res_tmp (v := I 6) rfl rfl)) ⟨by (have he : (fusE l) k = 6 := by unfold fusE errOf; grind); (have hF := firstErr_found (e := (fusE l)) (k := k) (by rw [he]; omega) l.length 0 (by omega) (by omega) (fun j _ hj => hn j hj)); show _ = AV.tuple [I (firstErr ((fusE l)) l.length 0).1, I (firstErr ((fusE l)) l.length 0).2]; rw [hF, he], rfl⟩
  ·have q3 := iF (iN iB) hc
   refine AC.rq (fun σ7 => RegOK.mkN [0, 2, 4, 8, 9, 12, 13, 14, 27] ⟨[(0, .slice ((l).map Fuse.av) none), (2, .func 68 [] []), (4, .ptr (σ0 0) 0), (8, I (k : Int)), (9, .ptr (σ3 3) 0), (12, .slice ((l).map Fuse.av) none), (13, I (l.length : Int)), (14, I (k : Int)), (27, .bool (((l.take k).any (fun y => decide (y.name = (l.getD k default).name)))))], (.box (σ0 0) [.func 67 [] []]) :: (.box (σ3 3) (Fuse.av (l.getD k default)).cells) :: mem⟩ (.cons (s_move (.tmp 0 (.slice ((l).map Fuse.av) none))) (.cons (s_move (.tmp 8 (I (k : Int)))) (.cons (s_toM (l := l) (f := Fuse.av) slc23 (.tmp 28 (.slice ((l).map Fuse.av) none)) (.tmp 29 (I (k : Int))) (by omega) (fun _ => rfl)) (.cons (s_move (.tmp 10 (.func 106 [] [.ptr (σ0 0) 0, .ptr (σ3 3) 0]))) (.cons (s_callR (r := .bool (((l.take k).any (fun y => decide (y.name = (l.getD k default).name))))) (es := ([Ent.box (σ0 0) [.func 67 [] []], Ent.box (σ3 3) (Fuse.av (l.getD k default)).cells])) (.func 107) (.cons (.tmp 30 (.slice (((l.take k)).map Fuse.av) none)) (.cons (.tmp 31 (.func 106 [] [.ptr (σ0 0) 0, .ptr (σ3 3) 0])) .nil)) call107 (F107 ((l.take k)) 106 [.ptr (σ0 0) 0, .ptr (σ3 3) 0] ([Ent.box (σ0 0) [.func 67 [] []], Ent.box (σ3 3) (Fuse.av (l.getD k default)).cells]) (fun y => decide (y.name = (l.getD k default).name)) call106 (fun y _ => F106 y (l.getD k default) (σ0 0) (σ3 3)) (by rw [List.length_take]; omega))) (.cons (s_assign (.tmp 32 (.bool (((l.take k).any (fun y => decide (y.name = (l.getD k default).name))))))) .nil)))))) (by kernel_rfl) (by kernel_rfl) (by kernel_rfl) ⟨trivial, trivial, trivial, trivial, (fun lq => (Has.cons (List.mem_of_getElem? (i := 0) rfl) (Has.cons (List.mem_of_getElem? (i := 1) rfl) (Has.nil _)))), trivial, trivial⟩ (by kernel_rfl) (by kernel_rfl) (by kernel_rfl) ?_)
   refine AC.cend (((l.take k).any (fun y => decide (y.name = (l.getD k default).name)))) rfl rfl (fun hc => ?_) (fun hc => ?_)
   ·have q4 := iB.1 hc
    refine AC.rq (fun σ8 => RegOK.m1 [6, 7] ⟨[(6, I (k : Int)), (7, I 5)], (.box (σ0 0) [.func 67 [] []]) :: (.box (σ3 3) (Fuse.av (l.getD k default)).cells) :: mem⟩ (.cons (s_move (.tmp 8 (I (k : Int)))) (.cons (s_assign (.tmp 33 (I (k : Int)))) (.cons (s_assign (.int .i64 (5))) .nil))) ?_)
    refine AC.ret ?_
    refine blockQ_r ?_
    refine thenQ_r ?_
    refine blockQ_r ?_
    refine thenQ_r ?_
    refine thenQ_r ?_
    refine blockQ_r ?_
    refine thenQ_r ?_
    exact FinQ.ret (result2 rfl (res_tmp (v := I (k : Int)) rfl rfl) (res_tmp (v := I 5) rfl rfl)) ⟨by (have he : (fusE l) k = 5 := by unfold fusE errOf; grind); (have hF := firstErr_found (e := (fusE l)) (k := k) (by rw [he]; omega) l.length 0 (by omega) (by omega) (fun j _ hj => hn j hj)); show _ = AV.tuple [I (firstErr ((fusE l)) l.length 0).1, I (firstErr ((fusE l)) l.length 0).2]; rw [hF, he], rfl⟩
   ·have q5 := iF iB hc
    refine AC.skip ?_
    refine blockQ_n ?_
    refine thenQ_n ?_
    refine AC.rq (fun σ9 => RegOK.m1 [0, 2, 4, 8, 11, 12, 13, 14] ⟨[(0, .slice ((l).map Fuse.av) none), (2, .func 68 [] []), (4, .ptr (σ0 0) 0), (8, I (k : Int)), (11, I (fuseErr (l.getD k default))), (12, .slice ((l).map Fuse.av) none), (13, I (l.length : Int)), (14, I (k : Int))], (.box (σ0 0) [.func 67 [] []]) :: (.box (σ3 3) (Fuse.av (l.getD k default)).cells) :: mem⟩ (.cons (s_move (.tmp 2 (.func 68 [] []))) (.cons (s_move (.tmp 8 (I (k : Int)))) (.cons (s_loadA (cs := (Fuse.av (l.getD k default)).cells) (l := (Fuse.av (l.getD k default)).cells) 1 tyA94 (.tmp 9 (.ptr (σ3 3) 0)) rfl rfl) (.cons (s_call (r := I (fuseErr (l.getD k default))) (.tmp 34 (.func 68 [] [])) (.cons (.tmp 35 (I (k : Int))) (.cons (.tmp 36 (Fuse.av (l.getD k default))) .nil)) call68 (F68 ((k : Int)) ((l.getD k default)) (by exact hok _ (getD_mem (by omega))))) (.cons (s_assign (.tmp 37 (I (fuseErr (l.getD k default))))) .nil))))) ?_)
    refine AC.rq (fun σ10 => RegOK.m1 [0, 2, 4, 8, 11, 12, 13, 14, 39] ⟨[(0, .slice ((l).map Fuse.av) none), (2, .func 68 [] []), (4, .ptr (σ0 0) 0), (8, I (k : Int)), (11, I (fuseErr (l.getD k default))), (12, .slice ((l).map Fuse.av) none), (13, I (l.length : Int)), (14, I (k : Int)), (39, .bool (decide ((fuseErr (l.getD k default)) ≠ 0)))], (.box (σ0 0) [.func 67 [] []]) :: (.box (σ3 3) (Fuse.av (l.getD k default)).cells) :: mem⟩ (.cons (s_move (.tmp 11 (I (fuseErr (l.getD k default))))) (.cons (s_neq (.tmp 38 (I (fuseErr (l.getD k default)))) (.int .i64 (0))) .nil)) ?_)
    refine AC.cend (decide ((fuseErr (l.getD k default)) ≠ 0)) rfl rfl (fun hc => ?_) (fun hc => ?_)
    ·have q6 := iD.1 hc
     refine AC.rq (fun σ11 => RegOK.m1 [6, 7] ⟨[(6, I (k : Int)), (7, I (fuseErr (l.getD k default)))], (.box (σ0 0) [.func 67 [] []]) :: (.box (σ3 3) (Fuse.av (l.getD k default)).cells) :: mem⟩ (.cons (s_move (.tmp 8 (I (k : Int)))) (.cons (s_move (.tmp 11 (I (fuseErr (l.getD k default))))) (.cons (s_assign (.tmp 40 (I (k : Int)))) (.cons (s_assign (.tmp 41 (I (fuseErr (l.getD k default))))) .nil)))) ?_)
     refine AC.ret ?_
     refine blockQ_r ?_
     refine thenQ_r ?_
     refine thenQ_r ?_
     refine blockQ_r ?_
     refine thenQ_r ?_
     exact FinQ.ret (result2 rfl (res_tmp (v := I (k : Int)) rfl rfl) (res_tmp (v := I (fuseErr (l.getD k default))) rfl rfl)) ⟨by (have he : (fusE l) k = (fuseErr (l.getD k default)) := by unfold fusE errOf; grind); (have hF := firstErr_found (e := (fusE l)) (k := k) (by rw [he]; omega) l.length 0 (by omega) (by omega) (fun j _ hj => hn j hj)); show _ = AV.tuple [I (firstErr ((fusE l)) l.length 0).1, I (firstErr ((fusE l)) l.length 0).2]; rw [hF, he], rfl⟩
    ·have q7 := iF iD hc
     refine AC.skip ?_
     refine blockQ_n ?_
     refine thenQ_n ?_
     refine AC.re (fun σ12 => RegOK.m1 [0, 2, 4, 12, 13, 14] ⟨[(0, .slice ((l).map Fuse.av) none), (2, .func 68 [] []), (4, .ptr (σ0 0) 0), (12, .slice ((l).map Fuse.av) none), (13, I (l.length : Int)), (14, I ((k : Int) + 1))], (.box (σ0 0) [.func 67 [] []]) :: (.box (σ3 3) (Fuse.av (l.getD k default)).cells) :: mem⟩ (.cons (s_add (.tmp 14 (I (k : Int))) (.int .i64 (1)) (inK_i64 (by omega))) (.cons (s_move (.tmp 42 (I ((k : Int) + 1)))) .nil)) ?_)
     refine thenQ_n ⟨_, ?_, _, ⟨(k + 1), rfl, ⟨(by omega), (by intro j hj; rcases Decidable.em (j = k) with h | h; (subst h; unfold fusE errOf; grind); exact hn j (by omega))⟩, rfl⟩, Weak.of [1] (by kernel_rfl) (by kernel_rfl)⟩
     omega
 ·have q8 := iF iD hc
  refine AC.exit ?_
  refine thenQ_x ?_
  refine thenQ_x ?_
  refine blockQ_x ?_
  refine thenQ_n ?_
  refine AC.rq (fun σ13 => RegOK.m1 [6, 7] ⟨[(6, I 0), (7, I 0)], (.box (σ0 0) [.func 67 [] []]) :: .hole :: mem⟩ (.cons (s_assign (.int .i64 (0))) (.cons (s_assign (.int .i64 (0))) .nil)) ?_)
  refine AC.ret ?_
  exact FinQ.ret (result2 rfl (res_tmp (v := I 0) rfl rfl) (res_tmp (v := I 0) rfl rfl)) ⟨by (have hF := firstErr_none (e := (fusE l)) l.length 0 (fun j _ hj => hn j (by omega))); show _ = AV.tuple [I (firstErr ((fusE l)) l.length 0).1, I (firstErr ((fusE l)) l.length 0).2]; rw [hF], rfl⟩
theorem F69 (l : List Node) (f : Feeder) (s0 : Nat) (hfok : f.ok) (hl : (l.length : Int) ≤ 9223372036854775807) (hok : ∀ x : Node, x ∈ l → x.ok) : EffR Try.prog 69 [.slice ((l).map Node.av) none, .func 70 [] [], .func 71 [] [.ptr s0 0]] [Ent.box s0 (fc f)] (.tuple [I (nodsE f l).1, I (nodsE f l).2]) := by
 intro mem hes
 obtain ⟨p0, hm0⟩ := List.mem_iff_getElem?.1 (hes (Ent.box s0 (fc f)) (by simp))
 refine Meets.body 2 Try.func69 rfl rfl ?_
 refine AC.rq (fun σ0 => RegOK.m1 [0, 2, 4] ⟨[(0, .slice ((l).map Node.av) none), (2, .func 71 [] [.ptr s0 0]), (4, .ptr (σ0 0) 0)], (.box (σ0 0) [.func 70 [] []]) :: .hole :: mem⟩ (.cons (s_box 0 (σ0 0) (.tmp 1 (.func 70 [] [])) rfl) (.cons (s_assign (.int .i64 (0))) (.cons (s_assign (.int .i64 (0))) .nil))) ?_)
 refine AC.seq ?_
 refine AC.rq (fun σ1 => RegOK.m1 [0, 2, 4, 12, 13, 14] ⟨[(0, .slice ((l).map Node.av) none), (2, .func 71 [] [.ptr s0 0]), (4, .ptr (σ0 0) 0), (12, .slice ((l).map Node.av) none), (13, I (l.length : Int)), (14, I 0)], (.box (σ0 0) [.func 70 [] []]) :: .hole :: mem⟩ (.cons (s_move (.tmp 0 (.slice ((l).map Node.av) none))) (.cons (s_lenM (l := l) slc24 (.tmp 12 (.slice ((l).map Node.av) none))) (.cons (s_move (.int .i64 (0))) .nil))) ?_)
 refine AC.block ?_
 refine AC.loopW (fun mz T => ∃ (k : Nat), mz = l.length - k ∧ ((k ≤ l.length) ∧ (∀ j : Nat, j < k → (nodE f l) j = 0)) ∧ T = ⟨[(0, .slice ((l).map Node.av) none), (2, .func 71 [] [.ptr s0 0]), (4, .ptr (σ0 0) 0), (12, .slice ((l).map Node.av) none), (13, I (l.length : Int)), (14, I (k : Int))], (.box (σ0 0) [.func 70 [] []]) :: .hole :: mem⟩) _ ⟨[(0, .slice ((l).map Node.av) none), (2, .func 71 [] [.ptr s0 0]), (4, .ptr (σ0 0) 0), (12, .slice ((l).map Node.av) none), (13, I (l.length : Int)), (14, I ((0) : Int))], (.box (σ0 0) [.func 70 [] []]) :: .hole :: mem⟩ ⟨0, rfl, ⟨(by omega), (by intro j hj; omega)⟩, rfl⟩ (Weak.of [] (by kernel_rfl) (by kernel_rfl)) ?_ Fr.plain
 rintro _ _ ⟨k, rfl, ⟨hk, hn⟩, rfl⟩
 refine AC.rq (fun σ2 => RegOK.m1 [0, 2, 4, 12, 13, 14, 15] ⟨[(0, .slice ((l).map Node.av) none), (2, .func 71 [] [.ptr s0 0]), (4, .ptr (σ0 0) 0), (12, .slice ((l).map Node.av) none), (13, I (l.length : Int)), (14, I (k : Int)), (15, .bool (decide ((k : Int) < (l.length : Int))))], (.box (σ0 0) [.func 70 [] []]) :: .hole :: mem⟩ (.cons (s_lss (.tmp 14 (I (k : Int))) (.tmp 13 (I (l.length : Int)))) .nil) ?_)
 refine AC.cseq (decide ((k : Int) < (l.length : Int))) rfl rfl (fun hc => ?_) (fun hc => ?_)
 ·have q1 := iD.1 hc
  refine AC.skip ?_
  refine thenQ_n ?_
  refine AC.bseq ?_
  refine AC.rq (fun σ3 => RegOK.m1 [0, 2, 4, 8, 9, 12, 13, 14] ⟨[(0, .slice ((l).map Node.av) none), (2, .func 71 [] [.ptr s0 0]), (4, .ptr (σ0 0) 0), (8, I (k : Int)), (9, .ptr (σ3 3) 0), (12, .slice ((l).map Node.av) none), (13, I (l.length : Int)), (14, I (k : Int))], (.box (σ0 0) [.func 70 [] []]) :: (.box (σ3 3) (Node.av (l.getD k default)).cells) :: mem⟩ (.cons (s_move (.tmp 14 (I (k : Int)))) (.cons (s_ixM (l := l) (f := Node.av) (default) slc24 (.tmp 12 (.slice ((l).map Node.av) none)) (.tmp 14 (I (k : Int))) (by omega) rfl) (.cons (s_loadAe (l := (Node.av (l.getD k default)).cells) tyA47 (.tmp 17 (.eptr (Node.av (l.getD k default)) 0)) rfl rfl) (.cons (s_alloc 1 (σ3 3) zero47) (.cons (s_assign (.tmp 16 (I (k : Int)))) (.cons (s_store (cs := [.str (⟨#[]⟩), I 0, I 0, I 0, I 0, I 0, I 0, I 0, I 0, I 0, I 0]) 1 sz47 (.tmp 9 (.ptr (σ3 3) 0)) (.tmp 18 (Node.av (l.getD k default))) rfl rfl rfl (Nat.le_of_ble_eq_true rfl)) .nil)))))) ?_)
  refine AC.rq (fun σ4 => RegOK.m1 [0, 2, 4, 8, 9, 10, 12, 13, 14] ⟨[(0, .slice ((l).map Node.av) none), (2, .func 71 [] [.ptr s0 0]), (4, .ptr (σ0 0) 0), (8, I (k : Int)), (9, .ptr (σ3 3) 0), (10, .func 110 [] [.ptr (σ0 0) 0, .ptr (σ3 3) 0]), (12, .slice ((l).map Node.av) none), (13, I (l.length : Int)), (14, I (k : Int))], (.box (σ0 0) [.func 70 [] []]) :: (.box (σ3 3) (Node.av (l.getD k default)).cells) :: mem⟩ (.cons (s_makeFunc .nil (.cons (.tmp 4 (.ptr (σ0 0) 0)) (.cons (.tmp 9 (.ptr (σ3 3) 0)) .nil))) (.cons (s_assign (.tmp 19 (.func 110 [] [.ptr (σ0 0) 0, .ptr (σ3 3) 0]))) .nil)) ?_)
  refine AC.bseq ?_
  refine AC.rq (fun σ5 => RegOK.m1 [0, 2, 4, 8, 9, 10, 12, 13, 14, 20] ⟨[(0, .slice ((l).map Node.av) none), (2, .func 71 [] [.ptr s0 0]), (4, .ptr (σ0 0) 0), (8, I (k : Int)), (9, .ptr (σ3 3) 0), (10, .func 110 [] [.ptr (σ0 0) 0, .ptr (σ3 3) 0]), (12, .slice ((l).map Node.av) none), (13, I (l.length : Int)), (14, I (k : Int)), (20, .bool ((!nameOK (l.getD k default).name)))], (.box (σ0 0) [.func 70 [] []]) :: (.box (σ3 3) (Node.av (l.getD k default)).cells) :: mem⟩ (.cons (s_load1 (cs := [.func 70 [] []]) (c := .func 70 [] []) 0 tyS119 (.tmp 4 (.ptr (σ0 0) 0)) rfl) (.cons (s_loadA (cs := (Node.av (l.getD k default)).cells) (l := (Node.av (l.getD k default)).cells) 1 tyA47 (.tmp 9 (.ptr (σ3 3) 0)) rfl rfl) (.cons (s_call (r := .str ((l.getD k default).name)) (.tmp 21 (.func 70 [] [])) (.cons (.tmp 22 (Node.av (l.getD k default))) .nil) call70 (F70 ((l.getD k default)))) (.cons (s_call (r := .bool (nameOK (l.getD k default).name)) (.func 104) (.cons (.tmp 23 (.str ((l.getD k default).name))) .nil) call104 (F104 ((l.getD k default).name) (by exact (hok _ (getD_mem (by omega)))))) (.cons (s_not (.tmp 24 (.bool (nameOK (l.getD k default).name)))) (.cons (s_assign (.tmp 25 (.bool ((!nameOK (l.getD k default).name))))) .nil)))))) ?_)
  refine AC.cend ((!nameOK (l.getD k default).name)) rfl rfl (fun hc => ?_) (fun hc => ?_)
  ·have q2 := (iN iB).1 hc
   refine AC.rq (fun σ6 => RegOK.m1 [6, 7] ⟨[(6, I (k : Int)), (7, I 6)], (.box (σ0 0) [.func 70 [] []]) :: (.box (σ3 3) (Node.av (l.getD k default)).cells) :: mem⟩ (.cons (s_move (.tmp 8 (I (k : Int)))) (.cons (s_assign (.tmp 26 (I (k : Int)))) (.cons (s_assign (.int .i64 (6))) .nil))) ?_)
   refine AC.ret ?_
   refine blockQ_r ?_
   refine thenQ_r ?_
   refine blockQ_r ?_
   refine thenQ_r ?_
   refine thenQ_r ?_
   refine blockQ_r ?_
   refine thenQ_r ?_
   exact FinQ.ret (result2 rfl (res_tmp (v := I (k : Int)) rfl rfl) (res_tmp (v := I 6) rfl rfl)) ⟨by (have he : (nodE f l) k = 6 := by unfold nodE errOf; grind); (have hF := firstErr_found (e := (nodE f l)) (k := k) (by rw [he]; omega) l.length 0 (by omega) (by omega) (fun j _ hj => hn j hj)); show _ = AV.tuple [I (firstErr ((nodE f l)) l.length 0).1, I (firstErr ((nodE f l)) l.length 0).2]; rw [hF, he], rfl⟩
  ·have q3 := iF (iN iB) hc
   refine AC.rq (fun σ7 => RegOK.mkN [0, 2, 4, 8, 9, 12, 13, 14, 27] ⟨[(0, .slice ((l).map Node.av) none), (2, .func 71 [] [.ptr s0 0]), (4, .ptr (σ0 0) 0), (8, I (k : Int)), (9, .ptr (σ3 3) 0), (12, .slice ((l).map Node.av) none), (13, I (l.length : Int)), (14, I (k : Int)), (27, .bool (((l.take k).any (fun y => decide (y.name = (l.getD k default).name)))))], (.box (σ0 0) [.func 70 [] []]) :: (.box (σ3 3) (Node.av (l.getD k default)).cells) :: mem⟩ (.cons (s_move (.tmp 0 (.slice ((l).map Node.av) none))) (.cons (s_move (.tmp 8 (I (k : Int)))) (.cons (s_toM (l := l) (f := Node.av) slc24 (.tmp 28 (.slice ((l).map Node.av) none)) (.tmp 29 (I (k : Int))) (by omega) (fun _ => rfl)) (.cons (s_move (.tmp 10 (.func 110 [] [.ptr (σ0 0) 0, .ptr (σ3 3) 0]))) (.cons (s_callR (r := .bool (((l.take k).any (fun y => decide (y.name = (l.getD k default).name))))) (es := ([Ent.box (σ0 0) [.func 70 [] []], Ent.box (σ3 3) (Node.av (l.getD k default)).cells])) (.func 111) (.cons (.tmp 30 (.slice (((l.take k)).map Node.av) none)) (.cons (.tmp 31 (.func 110 [] [.ptr (σ0 0) 0, .ptr (σ3 3) 0])) .nil)) call111 (F111 ((l.take k)) 110 [.ptr (σ0 0) 0, .ptr (σ3 3) 0] ([Ent.box (σ0 0) [.func 70 [] []], Ent.box (σ3 3) (Node.av (l.getD k default)).cells]) (fun y => decide (y.name = (l.getD k default).name)) call110 (fun y _ => F110 y (l.getD k default) (σ0 0) (σ3 3)) (by rw [List.length_take]; omega))) (.cons (s_assign (.tmp 32 (.bool (((l.take k).any (fun y => decide (y.name = (l.getD k default).name))))))) .nil)))))) (by kernel_rfl) (by kernel_rfl) (by kernel_rfl) ⟨trivial, trivial, trivial, trivial, (fun lq => (Has.cons (List.mem_of_getElem? (i := 0) rfl) (Has.cons (List.mem_of_getElem? (i := 1) rfl) (Has.nil _)))), trivial, trivial⟩ (by kernel_rfl) (by kernel_rfl) (by kernel_rfl) ?_)
   refine AC.cend (((l.take k).any (fun y => decide (y.name = (l.getD k default).name)))) rfl rfl (fun hc => ?_) (fun hc => ?_)
   ·have q4 := iB.1 hc
    refine AC.rq (fun σ8 => RegOK.m1 [6, 7] ⟨[(6, I (k : Int)), (7, I 5)], (.box (σ0 0) [.func 70 [] []]) :: (.box (σ3 3) (Node.av (l.getD k default)).cells) :: mem⟩ (.cons (s_move (.tmp 8 (I (k : Int)))) (.cons (s_assign (.tmp 33 (I (k : Int)))) (.cons (s_assign (.int .i64 (5))) .nil))) ?_)
    refine AC.ret ?_
    refine blockQ_r ?_
    refine thenQ_r ?_
    refine blockQ_r ?_
    refine thenQ_r ?_
    refine thenQ_r ?_
    refine blockQ_r ?_
    refine thenQ_r ?_
    exact FinQ.ret (result2 rfl (res_tmp (v := I (k : Int)) rfl rfl) (res_tmp (v := I 5) rfl rfl)) ⟨by (have he : (nodE f l) k = 5 := by unfold nodE errOf; grind); (have hF := firstErr_found (e := (nodE f l)) (k := k) (by rw [he]; omega) l.length 0 (by omega) (by omega) (fun j _ hj => hn j hj)); show _ = AV.tuple [I (firstErr ((nodE f l)) l.length 0).1, I (firstErr ((nodE f l)) l.length 0).2]; rw [hF, he], rfl⟩
   ·have q5 := iF iB hc
    refine AC.skip ?_
    refine blockQ_n ?_
    refine thenQ_n ?_
    refine AC.rq (fun σ9 => RegOK.mkN [0, 2, 4, 8, 11, 12, 13, 14] ⟨[(0, .slice ((l).map Node.av) none), (2, .func 71 [] [.ptr s0 0]), (4, .ptr (σ0 0) 0), (8, I (k : Int)), (11, I (nodeErr f k (l.getD k default))), (12, .slice ((l).map Node.av) none), (13, I (l.length : Int)), (14, I (k : Int))], (.box (σ0 0) [.func 70 [] []]) :: (.box (σ3 3) (Node.av (l.getD k default)).cells) :: mem⟩ (.cons (s_move (.tmp 2 (.func 71 [] [.ptr s0 0]))) (.cons (s_move (.tmp 8 (I (k : Int)))) (.cons (s_loadA (cs := (Node.av (l.getD k default)).cells) (l := (Node.av (l.getD k default)).cells) 1 tyA47 (.tmp 9 (.ptr (σ3 3) 0)) rfl rfl) (.cons (s_callR (r := I (nodeErr f k (l.getD k default))) (es := ([Ent.box s0 (fc f)])) (.tmp 34 (.func 71 [] [.ptr s0 0])) (.cons (.tmp 35 (I (k : Int))) (.cons (.tmp 36 (Node.av (l.getD k default))) .nil)) call71 (F71 k (l.getD k default) f s0 (by exact hfok) (by omega))) (.cons (s_assign (.tmp 37 (I (nodeErr f k (l.getD k default))))) .nil))))) (by kernel_rfl) (by kernel_rfl) (by kernel_rfl) ⟨trivial, trivial, trivial, (fun lq => (Has.cons (Has.left (Has.right (pre := [Ent.box (σ0 0) [.func 70 [] []], Ent.box (σ3 3) (Node.av (l.getD k default)).cells]) (Has.at_ p0 hm0 (Has.nil _))) _ (List.mem_singleton.2 rfl)) (Has.nil _))), trivial, trivial⟩ (by kernel_rfl) (by kernel_rfl) (by kernel_rfl) ?_)
    refine AC.rq (fun σ10 => RegOK.m1 [0, 2, 4, 8, 11, 12, 13, 14, 39] ⟨[(0, .slice ((l).map Node.av) none), (2, .func 71 [] [.ptr s0 0]), (4, .ptr (σ0 0) 0), (8, I (k : Int)), (11, I (nodeErr f k (l.getD k default))), (12, .slice ((l).map Node.av) none), (13, I (l.length : Int)), (14, I (k : Int)), (39, .bool (decide ((nodeErr f k (l.getD k default)) ≠ 0)))], (.box (σ0 0) [.func 70 [] []]) :: (.box (σ3 3) (Node.av (l.getD k default)).cells) :: mem⟩ (.cons (s_move (.tmp 11 (I (nodeErr f k (l.getD k default))))) (.cons (s_neq (.tmp 38 (I (nodeErr f k (l.getD k default)))) (.int .i64 (0))) .nil)) ?_)
    refine AC.cend (decide ((nodeErr f k (l.getD k default)) ≠ 0)) rfl rfl (fun hc => ?_) (fun hc => ?_)
    ·have q6 := iD.1 hc
     refine AC.rq (fun σ11 => RegOK.m1 [6, 7] ⟨[(6, I (k : Int)), (7, I (nodeErr f k (l.getD k default)))], (.box (σ0 0) [.func 70 [] []]) :: (.box (σ3 3) (Node.av (l.getD k default)).cells) :: mem⟩ (.cons (s_move (.tmp 8 (I (k : Int)))) (.cons (s_move (.tmp 11 (I (nodeErr f k (l.getD k default))))) (.cons (s_assign (.tmp 40 (I (k : Int)))) (.cons (s_assign (.tmp 41 (I (nodeErr f k (l.getD k default))))) .nil)))) ?_)
     refine AC.ret ?_
     refine blockQ_r ?_
     refine thenQ_r ?_
     refine thenQ_r ?_
     refine blockQ_r ?_
     refine thenQ_r ?_
     exact FinQ.ret (result2 rfl (res_tmp (v := I (k : Int)) rfl rfl) (res_tmp (v := I (nodeErr f k (l.getD k default))) rfl rfl)) ⟨by (have he : (nodE f l) k = (nodeErr f k (l.getD k default)) := by unfold nodE errOf; grind); (have hF := firstErr_found (e := (nodE f l)) (k := k) (by rw [he]; omega) l.length 0 (by omega) (by omega) (fun j _ hj => hn j hj)); show _ = AV.tuple [I (firstErr ((nodE f l)) l.length 0).1, I (firstErr ((nodE f l)) l.length 0).2]; rw [hF, he], rfl⟩
    ·have q7 := iF iD hc
     refine AC.skip ?_
     refine blockQ_n ?_
     refine thenQ_n ?_
     refine AC.re (fun σ12 => RegOK.m1 [0, 2, 4, 12, 13, 14] ⟨[(0, .slice ((l).map Node.av) none), (2, .func 71 [] [.ptr s0 0]), (4, .ptr (σ0 0) 0), (12, .slice ((l).map Node.av) none), (13, I (l.length : Int)), (14, I ((k : Int) + 1))], (.box (σ0 0) [.func 70 [] []]) :: (.box (σ3 3) (Node.av (l.getD k default)).cells) :: mem⟩ (.cons (s_add (.tmp 14 (I (k : Int))) (.int .i64 (1)) (inK_i64 (by omega))) (.cons (s_move (.tmp 42 (I ((k : Int) + 1)))) .nil)) ?_)
     refine thenQ_n ⟨_, ?_, _, ⟨(k + 1), rfl, ⟨(by omega), (by intro j hj; rcases Decidable.em (j = k) with h | h; (subst h; unfold nodE errOf; grind); exact hn j (by omega))⟩, rfl⟩, Weak.of [1] (by kernel_rfl) (by kernel_rfl)⟩
     omega
 ·have q8 := iF iD hc
  refine AC.exit ?_
  refine thenQ_x ?_
  refine thenQ_x ?_
  refine blockQ_x ?_
  refine thenQ_n ?_
  refine AC.rq (fun σ13 => RegOK.m1 [6, 7] ⟨[(6, I 0), (7, I 0)], (.box (σ0 0) [.func 70 [] []]) :: .hole :: mem⟩ (.cons (s_assign (.int .i64 (0))) (.cons (s_assign (.int .i64 (0))) .nil)) ?_)
  refine AC.ret ?_
  exact FinQ.ret (result2 rfl (res_tmp (v := I 0) rfl rfl) (res_tmp (v := I 0) rfl rfl)) ⟨by (have hF := firstErr_none (e := (nodE f l)) l.length 0 (fun j _ hj => hn j (by omega))); show _ = AV.tuple [I (firstErr ((nodE f l)) l.length 0).1, I (firstErr ((nodE f l)) l.length 0).2]; rw [hF], rfl⟩
theorem F25 (f : Feeder) (hok : f.ok) : Pure Try.prog 25 [Feeder.av f] (.tuple [I ((check f).1), I ((check f).2.1), I ((check f).2.2)]) := by
 intro mem
 have ⟨hc1, hc2, hc3, hc4, hc5, hc6⟩ := hok
 refine Meets.body 1 Try.func25 rfl rfl ?_
 refine AC.rq (fun σ0 => RegOK.m1 [1] ⟨[(1, .ptr (σ0 0) 0)], (.box (σ0 0) (fc f)) :: mem⟩ (.cons (s_box 0 (σ0 0) (.tmp 0 (Feeder.av f)) rfl) (.cons (s_assign (.int .i64 (0))) (.cons (s_assign (.int .i64 (0))) (.cons (s_assign (.int .i64 (0))) .nil)))) ?_)
 refine AC.bseq ?_
 refine AC.rq (fun σ1 => RegOK.m1 [1, 5] ⟨[(1, .ptr (σ0 0) 0), (5, .bool (((decide (10 < (f.cables.length : Int)) || decide (10 < (f.fuses.length : Int))) || decide (40 < (f.nodes.length : Int)))))], (.box (σ0 0) (fc f)) :: mem⟩ (.cons (s_fieldAddr fld28_0 (.tmp 1 (.ptr (σ0 0) 0))) (.cons (s_load1 (cs := (fc f)) (c := .slice ((f.cables).map Cable.av) none) 0 tyS22 (.tmp 6 (.ptr (σ0 0) 0)) rfl) (.cons (s_lenM (l := f.cables) slc22 (.tmp 7 (.slice ((f.cables).map Cable.av) none))) (.cons (s_gtr (.tmp 8 (I (f.cables.length : Int))) (.int .i64 (10))) (.cons (s_move (.tmp 9 (.bool (decide (10 < (f.cables.length : Int)))))) (.cons (Step.guard _ rfl (.bool (decide (10 < (f.cables.length : Int)))) gF (fun hb => s_fieldAddr fld28_1 (.tmp 1 (.ptr (σ0 0) 0)))) (.cons (Step.guard _ rfl (.bool (decide (10 < (f.cables.length : Int)))) gF (fun hb => s_load1 (cs := (fc f)) (c := .slice ((f.fuses).map Fuse.av) none) 0 tyS23 (.tmpC hb 11 (.ptr (σ0 0) 1)) rfl)) (.cons (Step.guard _ rfl (.bool (decide (10 < (f.cables.length : Int)))) gF (fun hb => s_lenM (l := f.fuses) slc23 (.tmpC hb 12 (.slice ((f.fuses).map Fuse.av) none)))) (.cons (Step.guard _ rfl (.bool (decide (10 < (f.cables.length : Int)))) gF (fun hb => s_gtr (.tmpC hb 13 (I (f.fuses.length : Int))) (.int .i64 (10)))) (.cons (s_or' (e := (!(decide (10 < (f.cables.length : Int))))) (q := decide (10 < (f.fuses.length : Int))) (fun h => (notMk h)) (.tmp 10 (.bool (decide (10 < (f.cables.length : Int)))))) (.cons (s_move (.tmp 15 (.bool ((decide (10 < (f.cables.length : Int)) || decide (10 < (f.fuses.length : Int))))))) (.cons (Step.guard _ rfl (.bool ((decide (10 < (f.cables.length : Int)) || decide (10 < (f.fuses.length : Int))))) gF (fun hb => s_fieldAddr fld28_2 (.tmp 1 (.ptr (σ0 0) 0)))) (.cons (Step.guard _ rfl (.bool ((decide (10 < (f.cables.length : Int)) || decide (10 < (f.fuses.length : Int))))) gF (fun hb => s_load1 (cs := (fc f)) (c := .slice ((f.nodes).map Node.av) none) 0 tyS24 (.tmpC hb 17 (.ptr (σ0 0) 2)) rfl)) (.cons (Step.guard _ rfl (.bool ((decide (10 < (f.cables.length : Int)) || decide (10 < (f.fuses.length : Int))))) gF (fun hb => s_lenM (l := f.nodes) slc24 (.tmpC hb 18 (.slice ((f.nodes).map Node.av) none)))) (.cons (Step.guard _ rfl (.bool ((decide (10 < (f.cables.length : Int)) || decide (10 < (f.fuses.length : Int))))) gF (fun hb => s_gtr (.tmpC hb 19 (I (f.nodes.length : Int))) (.int .i64 (40)))) (.cons (s_or' (e := (!(decide (10 < (f.cables.length : Int)) || decide (10 < (f.fuses.length : Int))))) (q := decide (40 < (f.nodes.length : Int))) (fun h => (notMk h)) (.tmp 16 (.bool ((decide (10 < (f.cables.length : Int)) || decide (10 < (f.fuses.length : Int))))))) (.cons (s_assign (.tmp 21 (.bool (((decide (10 < (f.cables.length : Int)) || decide (10 < (f.fuses.length : Int))) || decide (40 < (f.nodes.length : Int))))))) .nil))))))))))))))))) ?_)
 refine AC.cend (((decide (10 < (f.cables.length : Int)) || decide (10 < (f.fuses.length : Int))) || decide (40 < (f.nodes.length : Int)))) rfl rfl (fun hc => ?_) (fun hc => ?_)
 ·have q1 := (iO (iO iD iD) iD).1 hc
  refine AC.rq (fun σ2 => RegOK.m1 [2, 3, 4] ⟨[(2, I 0), (3, I 0), (4, I 3)], (.box (σ0 0) (fc f)) :: mem⟩ (.cons (s_assign (.int .i64 (0))) (.cons (s_assign (.int .i64 (0))) (.cons (s_assign (.int .i64 (3))) .nil))) ?_)
  refine AC.ret ?_
  refine blockQ_r ?_
  refine thenQ_r ?_
  exact FinQ.ret (result3 rfl (res_tmp (v := I 0) rfl rfl) (res_tmp (v := I 0) rfl rfl) (res_tmp (v := I 3) rfl rfl)) ⟨by unfold check headErr; grind, rfl⟩
 ·have q2 := iF (iO (iO iD iD) iD) hc
  refine AC.rq (fun σ3 => RegOK.m1 [1, 22] ⟨[(1, .ptr (σ0 0) 0), (22, .bool (decide ((f.nodes.length : Int) = 0)))], (.box (σ0 0) (fc f)) :: mem⟩ (.cons (s_fieldAddr fld28_2 (.tmp 1 (.ptr (σ0 0) 0))) (.cons (s_load1 (cs := (fc f)) (c := .slice ((f.nodes).map Node.av) none) 0 tyS24 (.tmp 23 (.ptr (σ0 0) 2)) rfl) (.cons (s_lenM (l := f.nodes) slc24 (.tmp 24 (.slice ((f.nodes).map Node.av) none))) (.cons (s_eql (.tmp 25 (I (f.nodes.length : Int))) (.int .i64 (0))) (.cons (s_assign (.tmp 26 (.bool (decide ((f.nodes.length : Int) = 0))))) .nil))))) ?_)
  refine AC.cend (decide ((f.nodes.length : Int) = 0)) rfl rfl (fun hc => ?_) (fun hc => ?_)
  ·have q3 := iD.1 hc
   refine AC.rq (fun σ4 => RegOK.m1 [2, 3, 4] ⟨[(2, I 0), (3, I 0), (4, I 4)], (.box (σ0 0) (fc f)) :: mem⟩ (.cons (s_assign (.int .i64 (0))) (.cons (s_assign (.int .i64 (0))) (.cons (s_assign (.int .i64 (4))) .nil))) ?_)
   refine AC.ret ?_
   refine blockQ_r ?_
   refine thenQ_r ?_
   exact FinQ.ret (result3 rfl (res_tmp (v := I 0) rfl rfl) (res_tmp (v := I 0) rfl rfl) (res_tmp (v := I 4) rfl rfl)) ⟨by unfold check headErr; grind, rfl⟩
  ·have q4 := iF iD hc
   refine AC.rq (fun σ5 => RegOK.m1 [1, 27] ⟨[(1, .ptr (σ0 0) 0), (27, .bool (((((!(wvB f.vLo f.vHi 1 1000000)) || (!(wvB f.sLo f.sHi 1 1000000000))) || (!(inB f.drop 0 1000000))) || (!(inB f.limit 1 100000000)))))], (.box (σ0 0) (fc f)) :: mem⟩ (.cons (s_fieldAddr fld28_3 (.tmp 1 (.ptr (σ0 0) 0))) (.cons (s_loadA (cs := (fc f)) (l := [I f.vLo, I f.vHi]) 0 tyA26 (.tmp 28 (.ptr (σ0 0) 3)) rfl rfl) (.cons (s_call (r := .bool ((wvB f.vLo f.vHi 1 1000000))) (.func 62) (.cons (.tmp 29 (.agg [I f.vLo, I f.vHi])) (.cons (.int .i64 (1)) (.cons (.int .i64 (1000000)) .nil))) call62 (F62 (f.vLo) (f.vHi) (1) (1000000))) (.cons (s_not (.tmp 30 (.bool ((wvB f.vLo f.vHi 1 1000000))))) (.cons (s_move (.tmp 31 (.bool ((!(wvB f.vLo f.vHi 1 1000000)))))) (.cons (Step.guard _ rfl (.bool ((!(wvB f.vLo f.vHi 1 1000000)))) gF (fun hb => s_fieldAddr fld28_4 (.tmp 1 (.ptr (σ0 0) 0)))) (.cons (Step.guard _ rfl (.bool ((!(wvB f.vLo f.vHi 1 1000000)))) gF (fun hb => s_loadA (cs := (fc f)) (l := [I f.sLo, I f.sHi]) 0 tyA26 (.tmpC hb 33 (.ptr (σ0 0) 5)) rfl rfl)) (.cons (Step.guard _ rfl (.bool ((!(wvB f.vLo f.vHi 1 1000000)))) gF (fun hb => s_call (r := .bool ((wvB f.sLo f.sHi 1 1000000000))) (.func 62) (.cons (.tmpC hb 34 (.agg [I f.sLo, I f.sHi])) (.cons (.int .i64 (1)) (.cons (.int .i64 (1000000000)) .nil))) call62 (F62 (f.sLo) (f.sHi) (1) (1000000000)))) (.cons (Step.guard _ rfl (.bool ((!(wvB f.vLo f.vHi 1 1000000)))) gF (fun hb => s_not (.tmpC hb 35 (.bool ((wvB f.sLo f.sHi 1 1000000000)))))) (.cons (s_or' (e := (!(!(wvB f.vLo f.vHi 1 1000000)))) (q := (!(wvB f.sLo f.sHi 1 1000000000))) (fun h => (notMk h)) (.tmp 32 (.bool ((!(wvB f.vLo f.vHi 1 1000000)))))) (.cons (s_move (.tmp 37 (.bool (((!(wvB f.vLo f.vHi 1 1000000)) || (!(wvB f.sLo f.sHi 1 1000000000))))))) (.cons (Step.guard _ rfl (.bool (((!(wvB f.vLo f.vHi 1 1000000)) || (!(wvB f.sLo f.sHi 1 1000000000))))) gF (fun hb => s_fieldAddr fld28_5 (.tmp 1 (.ptr (σ0 0) 0)))) (.cons (Step.guard _ rfl (.bool (((!(wvB f.vLo f.vHi 1 1000000)) || (!(wvB f.sLo f.sHi 1 1000000000))))) gF (fun hb => s_load1 (cs := (fc f)) (c := I f.drop) 0 tyS3 (.tmpC hb 39 (.ptr (σ0 0) 7)) rfl)) (.cons (Step.guard _ rfl (.bool (((!(wvB f.vLo f.vHi 1 1000000)) || (!(wvB f.sLo f.sHi 1 1000000000))))) gF (fun hb => s_call (r := .bool ((inB f.drop 0 1000000))) (.func 51) (.cons (.tmpC hb 40 (I f.drop)) (.cons (.int .i64 (0)) (.cons (.int .i64 (1000000)) .nil))) call51 (F51 (f.drop) (0) (1000000)))) (.cons (Step.guard _ rfl (.bool (((!(wvB f.vLo f.vHi 1 1000000)) || (!(wvB f.sLo f.sHi 1 1000000000))))) gF (fun hb => s_not (.tmpC hb 41 (.bool ((inB f.drop 0 1000000)))))) (.cons (s_or' (e := (!((!(wvB f.vLo f.vHi 1 1000000)) || (!(wvB f.sLo f.sHi 1 1000000000))))) (q := (!(inB f.drop 0 1000000))) (fun h => (notMk h)) (.tmp 38 (.bool (((!(wvB f.vLo f.vHi 1 1000000)) || (!(wvB f.sLo f.sHi 1 1000000000))))))) (.cons (s_move (.tmp 43 (.bool ((((!(wvB f.vLo f.vHi 1 1000000)) || (!(wvB f.sLo f.sHi 1 1000000000))) || (!(inB f.drop 0 1000000))))))) (.cons (Step.guard _ rfl (.bool ((((!(wvB f.vLo f.vHi 1 1000000)) || (!(wvB f.sLo f.sHi 1 1000000000))) || (!(inB f.drop 0 1000000))))) gF (fun hb => s_fieldAddr fld28_6 (.tmp 1 (.ptr (σ0 0) 0)))) (.cons (Step.guard _ rfl (.bool ((((!(wvB f.vLo f.vHi 1 1000000)) || (!(wvB f.sLo f.sHi 1 1000000000))) || (!(inB f.drop 0 1000000))))) gF (fun hb => s_load1 (cs := (fc f)) (c := I f.limit) 0 tyS3 (.tmpC hb 45 (.ptr (σ0 0) 8)) rfl)) (.cons (Step.guard _ rfl (.bool ((((!(wvB f.vLo f.vHi 1 1000000)) || (!(wvB f.sLo f.sHi 1 1000000000))) || (!(inB f.drop 0 1000000))))) gF (fun hb => s_call (r := .bool ((inB f.limit 1 100000000))) (.func 51) (.cons (.tmpC hb 46 (I f.limit)) (.cons (.int .i64 (1)) (.cons (.int .i64 (100000000)) .nil))) call51 (F51 (f.limit) (1) (100000000)))) (.cons (Step.guard _ rfl (.bool ((((!(wvB f.vLo f.vHi 1 1000000)) || (!(wvB f.sLo f.sHi 1 1000000000))) || (!(inB f.drop 0 1000000))))) gF (fun hb => s_not (.tmpC hb 47 (.bool ((inB f.limit 1 100000000)))))) (.cons (s_or' (e := (!(((!(wvB f.vLo f.vHi 1 1000000)) || (!(wvB f.sLo f.sHi 1 1000000000))) || (!(inB f.drop 0 1000000))))) (q := (!(inB f.limit 1 100000000))) (fun h => (notMk h)) (.tmp 44 (.bool ((((!(wvB f.vLo f.vHi 1 1000000)) || (!(wvB f.sLo f.sHi 1 1000000000))) || (!(inB f.drop 0 1000000))))))) (.cons (s_assign (.tmp 49 (.bool (((((!(wvB f.vLo f.vHi 1 1000000)) || (!(wvB f.sLo f.sHi 1 1000000000))) || (!(inB f.drop 0 1000000))) || (!(inB f.limit 1 100000000))))))) .nil))))))))))))))))))))))) ?_)
   refine AC.cend (((((!(wvB f.vLo f.vHi 1 1000000)) || (!(wvB f.sLo f.sHi 1 1000000000))) || (!(inB f.drop 0 1000000))) || (!(inB f.limit 1 100000000)))) rfl rfl (fun hc => ?_) (fun hc => ?_)
   ·have q5 := (iO (iO (iO (iN wvB_i) (iN wvB_i)) (iN inB_i)) (iN inB_i)).1 hc
    refine AC.rq (fun σ6 => RegOK.m1 [2, 3, 4] ⟨[(2, I 0), (3, I 0), (4, I 7)], (.box (σ0 0) (fc f)) :: mem⟩ (.cons (s_assign (.int .i64 (0))) (.cons (s_assign (.int .i64 (0))) (.cons (s_assign (.int .i64 (7))) .nil))) ?_)
    refine AC.ret ?_
    refine blockQ_r ?_
    refine thenQ_r ?_
    exact FinQ.ret (result3 rfl (res_tmp (v := I 0) rfl rfl) (res_tmp (v := I 0) rfl rfl) (res_tmp (v := I 7) rfl rfl)) ⟨by unfold check headErr; grind, rfl⟩
   ·have q6 := iF (iO (iO (iO (iN wvB_i) (iN wvB_i)) (iN inB_i)) (iN inB_i)) hc
    refine AC.skip ?_
    refine blockQ_n ?_
    refine thenQ_n ?_
    refine AC.rq (fun σ7 => RegOK.m1 [1, 3, 4] ⟨[(1, .ptr (σ0 0) 0), (3, I ((cabsE f.cables).1)), (4, I ((cabsE f.cables).2))], (.box (σ0 0) (fc f)) :: mem⟩ (.cons (s_fieldAddr fld28_0 (.tmp 1 (.ptr (σ0 0) 0))) (.cons (s_load1 (cs := (fc f)) (c := .slice ((f.cables).map Cable.av) none) 0 tyS22 (.tmp 51 (.ptr (σ0 0) 0)) rfl) (.cons (s_call (r := .tuple [I ((cabsE f.cables).1), I ((cabsE f.cables).2)]) (.func 63) (.cons (.tmp 52 (.slice ((f.cables).map Cable.av) none)) (.cons (.func 64) (.cons (.func 65) .nil))) call63 (F63 (f.cables) (by omega) (by exact hc4))) (.cons (s_move (.tmp 53 (.tuple [I ((cabsE f.cables).1), I ((cabsE f.cables).2)]))) (.cons (s_extract (v := I ((cabsE f.cables).1)) (.tmp 50 (.tuple [I ((cabsE f.cables).1), I ((cabsE f.cables).2)])) rfl) (.cons (s_extract (v := I ((cabsE f.cables).2)) (.tmp 50 (.tuple [I ((cabsE f.cables).1), I ((cabsE f.cables).2)])) rfl) (.cons (s_assign (.tmp 54 (I ((cabsE f.cables).1)))) (.cons (s_assign (.tmp 55 (I ((cabsE f.cables).2)))) .nil)))))))) ?_)
    refine AC.seq ?_
    refine AC.rq (fun σ8 => RegOK.m1 [1, 3, 4, 57] ⟨[(1, .ptr (σ0 0) 0), (3, I ((cabsE f.cables).1)), (4, I ((cabsE f.cables).2)), (57, .bool (decide ((cabsE f.cables).2 ≠ 0)))], (.box (σ0 0) (fc f)) :: mem⟩ (.cons (s_move (.tmp 4 (I ((cabsE f.cables).2)))) (.cons (s_neq (.tmp 56 (I ((cabsE f.cables).2))) (.int .i64 (0))) .nil)) ?_)
    refine AC.cend (decide ((cabsE f.cables).2 ≠ 0)) rfl rfl (fun hc => ?_) (fun hc => ?_)
    ·have q7 := iD.1 hc
     refine AC.rq (fun σ9 => RegOK.m1 [2, 3, 4] ⟨[(2, I 1), (3, I ((cabsE f.cables).1)), (4, I ((cabsE f.cables).2))], (.box (σ0 0) (fc f)) :: mem⟩ (.cons (s_move (.tmp 3 (I ((cabsE f.cables).1)))) (.cons (s_move (.tmp 4 (I ((cabsE f.cables).2)))) (.cons (s_assign (.int .i64 (1))) (.cons (s_assign (.tmp 58 (I ((cabsE f.cables).1)))) (.cons (s_assign (.tmp 59 (I ((cabsE f.cables).2)))) .nil))))) ?_)
     refine AC.ret ?_
     refine thenQ_r ?_
     exact FinQ.ret (result3 rfl (res_tmp (v := I 1) rfl rfl) (res_tmp (v := I ((cabsE f.cables).1)) rfl rfl) (res_tmp (v := I ((cabsE f.cables).2)) rfl rfl)) ⟨by unfold check headErr; grind, rfl⟩
    ·have q8 := iF iD hc
     refine AC.skip ?_
     refine thenQ_n ?_
     refine AC.seq ?_
     refine AC.rq (fun σ10 => RegOK.m1 [1, 3, 4] ⟨[(1, .ptr (σ0 0) 0), (3, I ((fussE f.fuses).1)), (4, I ((fussE f.fuses).2))], (.box (σ0 0) (fc f)) :: mem⟩ (.cons (s_fieldAddr fld28_1 (.tmp 1 (.ptr (σ0 0) 0))) (.cons (s_load1 (cs := (fc f)) (c := .slice ((f.fuses).map Fuse.av) none) 0 tyS23 (.tmp 61 (.ptr (σ0 0) 1)) rfl) (.cons (s_call (r := .tuple [I ((fussE f.fuses).1), I ((fussE f.fuses).2)]) (.func 66) (.cons (.tmp 62 (.slice ((f.fuses).map Fuse.av) none)) (.cons (.func 67) (.cons (.func 68) .nil))) call66 (F66 (f.fuses) (by omega) (by exact hc5))) (.cons (s_move (.tmp 63 (.tuple [I ((fussE f.fuses).1), I ((fussE f.fuses).2)]))) (.cons (s_extract (v := I ((fussE f.fuses).1)) (.tmp 60 (.tuple [I ((fussE f.fuses).1), I ((fussE f.fuses).2)])) rfl) (.cons (s_extract (v := I ((fussE f.fuses).2)) (.tmp 60 (.tuple [I ((fussE f.fuses).1), I ((fussE f.fuses).2)])) rfl) (.cons (s_assign (.tmp 64 (I ((fussE f.fuses).1)))) (.cons (s_assign (.tmp 65 (I ((fussE f.fuses).2)))) .nil)))))))) ?_)
     refine AC.rq (fun σ11 => RegOK.m1 [1, 3, 4, 67] ⟨[(1, .ptr (σ0 0) 0), (3, I ((fussE f.fuses).1)), (4, I ((fussE f.fuses).2)), (67, .bool (decide ((fussE f.fuses).2 ≠ 0)))], (.box (σ0 0) (fc f)) :: mem⟩ (.cons (s_move (.tmp 4 (I ((fussE f.fuses).2)))) (.cons (s_neq (.tmp 66 (I ((fussE f.fuses).2))) (.int .i64 (0))) .nil)) ?_)
     refine AC.cend (decide ((fussE f.fuses).2 ≠ 0)) rfl rfl (fun hc => ?_) (fun hc => ?_)
     ·have q9 := iD.1 hc
      refine AC.rq (fun σ12 => RegOK.m1 [2, 3, 4] ⟨[(2, I 2), (3, I ((fussE f.fuses).1)), (4, I ((fussE f.fuses).2))], (.box (σ0 0) (fc f)) :: mem⟩ (.cons (s_move (.tmp 3 (I ((fussE f.fuses).1)))) (.cons (s_move (.tmp 4 (I ((fussE f.fuses).2)))) (.cons (s_assign (.int .i64 (2))) (.cons (s_assign (.tmp 68 (I ((fussE f.fuses).1)))) (.cons (s_assign (.tmp 69 (I ((fussE f.fuses).2)))) .nil))))) ?_)
      refine AC.ret ?_
      refine thenQ_r ?_
      exact FinQ.ret (result3 rfl (res_tmp (v := I 2) rfl rfl) (res_tmp (v := I ((fussE f.fuses).1)) rfl rfl) (res_tmp (v := I ((fussE f.fuses).2)) rfl rfl)) ⟨by unfold check headErr; grind, rfl⟩
     ·have q10 := iF iD hc
      refine AC.skip ?_
      refine thenQ_n ?_
      refine AC.rq (fun σ13 => RegOK.mkN [3, 4] ⟨[(3, I ((nodsE f f.nodes).1)), (4, I ((nodsE f f.nodes).2))], (.box (σ0 0) (fc f)) :: mem⟩ (.cons (s_fieldAddr fld28_2 (.tmp 1 (.ptr (σ0 0) 0))) (.cons (s_load1 (cs := (fc f)) (c := .slice ((f.nodes).map Node.av) none) 0 tyS24 (.tmp 71 (.ptr (σ0 0) 2)) rfl) (.cons (s_makeFunc .nil (.cons (.tmp 1 (.ptr (σ0 0) 0)) .nil)) (.cons (s_callR (r := .tuple [I ((nodsE f f.nodes).1), I ((nodsE f f.nodes).2)]) (es := ([Ent.box (σ0 0) (fc f)])) (.func 69) (.cons (.tmp 72 (.slice ((f.nodes).map Node.av) none)) (.cons (.func 70) (.cons (.tmp 73 (.func 71 [] [.ptr (σ0 0) 0])) .nil))) call69 (F69 (f.nodes) f (σ0 0) (by exact hok) (by omega) (by exact hc6))) (.cons (s_move (.tmp 74 (.tuple [I ((nodsE f f.nodes).1), I ((nodsE f f.nodes).2)]))) (.cons (s_extract (v := I ((nodsE f f.nodes).1)) (.tmp 70 (.tuple [I ((nodsE f f.nodes).1), I ((nodsE f f.nodes).2)])) rfl) (.cons (s_extract (v := I ((nodsE f f.nodes).2)) (.tmp 70 (.tuple [I ((nodsE f f.nodes).1), I ((nodsE f f.nodes).2)])) rfl) (.cons (s_assign (.tmp 75 (I ((nodsE f f.nodes).1)))) (.cons (s_assign (.tmp 76 (I ((nodsE f f.nodes).2)))) .nil))))))))) (by kernel_rfl) (by kernel_rfl) (by kernel_rfl) ⟨trivial, trivial, trivial, (fun lq => (Has.cons (List.mem_of_getElem? (i := 0) rfl) (Has.nil _))), trivial, trivial, trivial, trivial, trivial, trivial⟩ (by kernel_rfl) (by kernel_rfl) (by kernel_rfl) ?_)
      refine AC.seq ?_
      refine AC.rq (fun σ14 => RegOK.m1 [3, 4, 78] ⟨[(3, I ((nodsE f f.nodes).1)), (4, I ((nodsE f f.nodes).2)), (78, .bool (decide ((nodsE f f.nodes).2 ≠ 0)))], (.box (σ0 0) (fc f)) :: mem⟩ (.cons (s_move (.tmp 4 (I ((nodsE f f.nodes).2)))) (.cons (s_neq (.tmp 77 (I ((nodsE f f.nodes).2))) (.int .i64 (0))) .nil)) ?_)
      refine AC.cend (decide ((nodsE f f.nodes).2 ≠ 0)) rfl rfl (fun hc => ?_) (fun hc => ?_)
      ·have q11 := iD.1 hc
       refine AC.rq (fun σ15 => RegOK.m1 [2, 3, 4] ⟨[(2, I 3), (3, I ((nodsE f f.nodes).1)), (4, I ((nodsE f f.nodes).2))], (.box (σ0 0) (fc f)) :: mem⟩ (.cons (s_move (.tmp 3 (I ((nodsE f f.nodes).1)))) (.cons (s_move (.tmp 4 (I ((nodsE f f.nodes).2)))) (.cons (s_assign (.int .i64 (3))) (.cons (s_assign (.tmp 79 (I ((nodsE f f.nodes).1)))) (.cons (s_assign (.tmp 80 (I ((nodsE f f.nodes).2)))) .nil))))) ?_)
       refine AC.ret ?_
       refine thenQ_r ?_
       exact FinQ.ret (result3 rfl (res_tmp (v := I 3) rfl rfl) (res_tmp (v := I ((nodsE f f.nodes).1)) rfl rfl) (res_tmp (v := I ((nodsE f f.nodes).2)) rfl rfl)) ⟨by unfold check headErr; grind, rfl⟩
      ·have q12 := iF iD hc
       refine AC.skip ?_
       refine thenQ_n ?_
       refine AC.rq (fun σ16 => RegOK.m1 [2, 3, 4] ⟨[(2, I 0), (3, I 0), (4, I 0)], (.box (σ0 0) (fc f)) :: mem⟩ (.cons (s_assign (.int .i64 (0))) (.cons (s_assign (.int .i64 (0))) (.cons (s_assign (.int .i64 (0))) .nil))) ?_)
       refine AC.ret ?_
       exact FinQ.ret (result3 rfl (res_tmp (v := I 0) rfl rfl) (res_tmp (v := I 0) rfl rfl) (res_tmp (v := I 0) rfl rfl)) ⟨by unfold check headErr; grind, rfl⟩
end Go.Proofs.Ytahdgadjpkcnjaa
end
section
set_option maxRecDepth 100000
namespace Go.Proofs.Ytahdgadjpkcnjaa
open Go.Proofs
theorem F47 (f : Feeder) (c : Int) (hok : f.ok) : Pure Try.prog 47 [Feeder.av f, I c] (I (askedOf f c)) := by
 intro mem
 have hln := hok.2.2.1
 refine Meets.body 1 Try.func47 rfl rfl ?_
 refine AC.rq (fun σ0 => RegOK.m1 [1, 2] ⟨[(1, I c), (2, .ptr (σ0 0) 0)], (.box (σ0 0) (fc f)) :: mem⟩ (.cons (s_box 0 (σ0 0) (.tmp 0 (Feeder.av f)) rfl) (.cons (s_assign (.int .i64 (0))) .nil)) ?_)
 refine AC.rq (fun σ1 => RegOK.m1 [1, 2, 7] ⟨[(1, I c), (2, .ptr (σ0 0) 0), (7, I ((check f).2.2))], (.box (σ0 0) (fc f)) :: mem⟩ (.cons (s_loadA (cs := (fc f)) (l := (fc f)) 0 tyA28 (.tmp 2 (.ptr (σ0 0) 0)) rfl rfl) (.cons (s_call (r := .tuple [I ((check f).1), I ((check f).2.1), I ((check f).2.2)]) (.func 25) (.cons (.tmp 9 (Feeder.av f)) .nil) call25 (F25 (f) (by exact hok))) (.cons (s_move (.tmp 10 (.tuple [I ((check f).1), I ((check f).2.1), I ((check f).2.2)]))) (.cons (s_extract (v := I ((check f).1)) (.tmp 8 (.tuple [I ((check f).1), I ((check f).2.1), I ((check f).2.2)])) rfl) (.cons (s_extract (v := I ((check f).2.1)) (.tmp 8 (.tuple [I ((check f).1), I ((check f).2.1), I ((check f).2.2)])) rfl) (.cons (s_extract (v := I ((check f).2.2)) (.tmp 8 (.tuple [I ((check f).1), I ((check f).2.1), I ((check f).2.2)])) rfl) (.cons (s_assign (.tmp 11 (I ((check f).1)))) (.cons (s_assign (.tmp 12 (I ((check f).2.1)))) (.cons (s_assign (.tmp 13 (I ((check f).2.2)))) .nil))))))))) ?_)
 refine AC.seq ?_
 refine AC.rq (fun σ2 => RegOK.m1 [7, 24] ⟨[(7, I ((check f).2.2)), (24, .bool ((decide ((check f).2.2 = 0) && (!(inB c 0 ((f.nodes.length : Int) - 1))))))], (.box (σ0 0) (fc f)) :: mem⟩ (.cons (s_move (.tmp 7 (I ((check f).2.2)))) (.cons (s_eql (.tmp 14 (I ((check f).2.2))) (.int .i64 (0))) (.cons (s_move (.tmp 15 (.bool (decide ((check f).2.2 = 0))))) (.cons (Step.guard _ rfl (.bool (decide ((check f).2.2 = 0))) gT (fun hb => s_move (.tmp 1 (I c)))) (.cons (Step.guard _ rfl (.bool (decide ((check f).2.2 = 0))) gT (fun hb => s_fieldAddr fld28_2 (.tmp 2 (.ptr (σ0 0) 0)))) (.cons (Step.guard _ rfl (.bool (decide ((check f).2.2 = 0))) gT (fun hb => s_load1 (cs := (fc f)) (c := .slice ((f.nodes).map Node.av) none) 0 tyS24 (.tmpC hb 18 (.ptr (σ0 0) 2)) rfl)) (.cons (Step.guard _ rfl (.bool (decide ((check f).2.2 = 0))) gT (fun hb => s_lenM (l := f.nodes) slc24 (.tmpC hb 19 (.slice ((f.nodes).map Node.av) none)))) (.cons (Step.guard _ rfl (.bool (decide ((check f).2.2 = 0))) gT (fun hb => s_sub (.tmpC hb 20 (I (f.nodes.length : Int))) (.int .i64 (1)) (inK_i64 (by have hq := iD.1 hb; omega)))) (.cons (Step.guard _ rfl (.bool (decide ((check f).2.2 = 0))) gT (fun hb => s_call (r := .bool ((inB c 0 ((f.nodes.length : Int) - 1)))) (.func 51) (.cons (.tmpC hb 17 (I c)) (.cons (.int .i64 (0)) (.cons (.tmpC hb 21 (I ((f.nodes.length : Int) - 1))) .nil))) call51 (F51 (c) (0) (((f.nodes.length : Int) - 1))))) (.cons (Step.guard _ rfl (.bool (decide ((check f).2.2 = 0))) gT (fun hb => s_not (.tmpC hb 22 (.bool ((inB c 0 ((f.nodes.length : Int) - 1))))))) (.cons (s_and' (q := (!(inB c 0 ((f.nodes.length : Int) - 1)))) (fun h => h) (.tmp 16 (.bool (decide ((check f).2.2 = 0))))) .nil))))))))))) ?_)
 refine AC.cend ((decide ((check f).2.2 = 0) && (!(inB c 0 ((f.nodes.length : Int) - 1))))) rfl rfl (fun hc => ?_) (fun hc => ?_)
 ·have q1 := (iA iD (iN inB_i)).1 hc
  refine AC.re (fun σ3 => RegOK.m1 [7] ⟨[(7, I 4)], (.box (σ0 0) (fc f)) :: mem⟩ (.cons (s_assign (.int .i64 (4))) .nil) ?_)
  refine thenQ_n ?_
  refine AC.rq (fun σ4 => RegOK.m1 [4] ⟨[(4, I 4)], (.box (σ0 0) (fc f)) :: mem⟩ (.cons (s_move (.tmp 7 (I 4))) (.cons (s_assign (.tmp 25 (I 4))) .nil)) ?_)
  refine AC.ret ?_
  exact FinQ.ret (result1 rfl (res_tmp (v := I 4) rfl rfl)) ⟨by refine congrArg I ?_; unfold askedOf; grind, rfl⟩
 ·have q2 := iF (iA iD (iN inB_i)) hc
  refine AC.skip ?_
  refine thenQ_n ?_
  refine AC.rq (fun σ4 => RegOK.m1 [4] ⟨[(4, I ((check f).2.2))], (.box (σ0 0) (fc f)) :: mem⟩ (.cons (s_move (.tmp 7 (I ((check f).2.2)))) (.cons (s_assign (.tmp 25 (I ((check f).2.2)))) .nil)) ?_)
  refine AC.ret ?_
  exact FinQ.ret (result1 rfl (res_tmp (v := I ((check f).2.2)) rfl rfl)) ⟨by refine congrArg I ?_; unfold askedOf; grind, rfl⟩
theorem F45 (f : Feeder) (c : Int) (hok : f.ok) : Pure Try.prog 45 [Feeder.av f, I c] (I (innerOf f c)) := by
 intro mem
 refine Meets.body 1 Try.func45 rfl rfl ?_
 refine AC.rq (fun σ0 => RegOK.m1 [1, 2] ⟨[(1, I c), (2, .ptr (σ0 0) 0)], (.box (σ0 0) (fc f)) :: mem⟩ (.cons (s_box 0 (σ0 0) (.tmp 0 (Feeder.av f)) rfl) (.cons (s_assign (.int .i64 (0))) .nil)) ?_)
 refine AC.rq (fun σ1 => RegOK.m1 [1, 5] ⟨[(1, I c), (5, I (askedOf f c))], (.box (σ0 0) (fc f)) :: mem⟩ (.cons (s_loadA (cs := (fc f)) (l := (fc f)) 0 tyA28 (.tmp 2 (.ptr (σ0 0) 0)) rfl rfl) (.cons (s_move (.tmp 1 (I c))) (.cons (s_call (r := I (askedOf f c)) (.func 47) (.cons (.tmp 6 (Feeder.av f)) (.cons (.tmp 7 (I c)) .nil)) call47 (F47 (f) (c) (by exact hok))) (.cons (s_assign (.tmp 8 (I (askedOf f c)))) .nil)))) ?_)
 refine AC.seq ?_
 refine AC.rq (fun σ2 => RegOK.m1 [5, 14] ⟨[(5, I (askedOf f c)), (14, .bool ((decide ((askedOf f c) = 0) && decide (c = 0))))], (.box (σ0 0) (fc f)) :: mem⟩ (.cons (s_move (.tmp 5 (I (askedOf f c)))) (.cons (s_eql (.tmp 9 (I (askedOf f c))) (.int .i64 (0))) (.cons (s_move (.tmp 10 (.bool (decide ((askedOf f c) = 0))))) (.cons (Step.guard _ rfl (.bool (decide ((askedOf f c) = 0))) gT (fun hb => s_move (.tmp 1 (I c)))) (.cons (Step.guard _ rfl (.bool (decide ((askedOf f c) = 0))) gT (fun hb => s_eql (.tmpC hb 12 (I c)) (.int .i64 (0)))) (.cons (s_and' (q := decide (c = 0)) (fun h => h) (.tmp 11 (.bool (decide ((askedOf f c) = 0))))) .nil)))))) ?_)
 refine AC.cend ((decide ((askedOf f c) = 0) && decide (c = 0))) rfl rfl (fun hc => ?_) (fun hc => ?_)
 ·have q1 := (iA iD iD).1 hc
  refine AC.re (fun σ3 => RegOK.m1 [5] ⟨[(5, I 2)], (.box (σ0 0) (fc f)) :: mem⟩ (.cons (s_assign (.int .i64 (2))) .nil) ?_)
  refine thenQ_n ?_
  refine AC.rq (fun σ4 => RegOK.m1 [4] ⟨[(4, I 2)], (.box (σ0 0) (fc f)) :: mem⟩ (.cons (s_move (.tmp 5 (I 2))) (.cons (s_assign (.tmp 15 (I 2))) .nil)) ?_)
  refine AC.ret ?_
  exact FinQ.ret (result1 rfl (res_tmp (v := I 2) rfl rfl)) ⟨by refine congrArg I ?_; unfold innerOf; grind, rfl⟩
 ·have q2 := iF (iA iD iD) hc
  refine AC.skip ?_
  refine thenQ_n ?_
  refine AC.rq (fun σ4 => RegOK.m1 [4] ⟨[(4, I (askedOf f c))], (.box (σ0 0) (fc f)) :: mem⟩ (.cons (s_move (.tmp 5 (I (askedOf f c)))) (.cons (s_assign (.tmp 15 (I (askedOf f c)))) .nil)) ?_)
  refine AC.ret ?_
  exact FinQ.ret (result1 rfl (res_tmp (v := I (askedOf f c)) rfl rfl)) ⟨by refine congrArg I ?_; unfold innerOf; grind, rfl⟩
end Go.Proofs.Ytahdgadjpkcnjaa
end
section
set_option maxRecDepth 100000
namespace Go.Proofs.Ytahdgadjpkcnjaa
open Go.Proofs
theorem F27 (f : Feeder) (c : Int) (p : Int) (hok : f.ok) : Pure Try.prog 27 [Feeder.av f, I c, I p] (.tuple [I ((dropRes f c p).1), I ((dropRes f c p).2)]) := by
 intro mem
 refine Meets.body 1 Try.func27 rfl rfl ?_
 refine AC.rq (fun σ0 => RegOK.m1 [1, 2, 3] ⟨[(1, I c), (2, I p), (3, .ptr (σ0 0) 0)], (.box (σ0 0) (fc f)) :: mem⟩ (.cons (s_box 0 (σ0 0) (.tmp 0 (Feeder.av f)) rfl) (.cons (s_assign (.int .i64 (0))) (.cons (s_assign (.int .i64 (0))) .nil))) ?_)
 refine AC.rq (fun σ1 => RegOK.m1 [1, 2, 3, 8] ⟨[(1, I c), (2, I p), (3, .ptr (σ0 0) 0), (8, I (askedOf f c))], (.box (σ0 0) (fc f)) :: mem⟩ (.cons (s_loadA (cs := (fc f)) (l := (fc f)) 0 tyA28 (.tmp 3 (.ptr (σ0 0) 0)) rfl rfl) (.cons (s_move (.tmp 1 (I c))) (.cons (s_call (r := I (askedOf f c)) (.func 47) (.cons (.tmp 9 (Feeder.av f)) (.cons (.tmp 10 (I c)) .nil)) call47 (F47 (f) (c) (by exact hok))) (.cons (s_assign (.tmp 11 (I (askedOf f c)))) .nil)))) ?_)
 refine AC.bseq ?_
 refine AC.rq (fun σ2 => RegOK.m1 [1, 2, 3, 8, 12] ⟨[(1, I c), (2, I p), (3, .ptr (σ0 0) 0), (8, I (askedOf f c)), (12, .bool (decide ((askedOf f c) ≠ 0)))], (.box (σ0 0) (fc f)) :: mem⟩ (.cons (s_move (.tmp 8 (I (askedOf f c)))) (.cons (s_neq (.tmp 13 (I (askedOf f c))) (.int .i64 (0))) (.cons (s_assign (.tmp 14 (.bool (decide ((askedOf f c) ≠ 0))))) .nil))) ?_)
 refine AC.cend (decide ((askedOf f c) ≠ 0)) rfl rfl (fun hc => ?_) (fun hc => ?_)
 ·have q1 := iD.1 hc
  refine AC.rq (fun σ3 => RegOK.m1 [6, 7] ⟨[(6, I 0), (7, I (askedOf f c))], (.box (σ0 0) (fc f)) :: mem⟩ (.cons (s_move (.tmp 8 (I (askedOf f c)))) (.cons (s_assign (.int .i64 (0))) (.cons (s_assign (.tmp 15 (I (askedOf f c)))) .nil))) ?_)
  refine AC.ret ?_
  refine blockQ_r ?_
  refine thenQ_r ?_
  exact FinQ.ret (result2 rfl (res_tmp (v := I 0) rfl rfl) (res_tmp (v := I (askedOf f c)) rfl rfl)) ⟨by unfold dropRes; first | rw [if_pos (by omega)] | (rw [if_neg (by omega)]; first | rw [if_pos (by omega)] | (rw [if_neg (by omega)]; rfl) | rfl), rfl⟩
 ·have q2 := iF iD hc
  have hz := asked_zero (f := f) (c := c) (by omega)
  obtain ⟨n, hcn⟩ : ∃ n : Nat, c = (n : Int) := ⟨c.toNat, by omega⟩
  subst hcn
  have g := FG.of hz.1
  refine AC.rq (fun σ4 => RegOK.m1 [1, 2, 3, 16] ⟨[(1, I (n : Int)), (2, I p), (3, .ptr (σ0 0) 0), (16, .bool ((!(inB p 0 2))))], (.box (σ0 0) (fc f)) :: mem⟩ (.cons (s_move (.tmp 2 (I p))) (.cons (s_call (r := .bool ((inB p 0 2))) (.func 51) (.cons (.tmp 17 (I p)) (.cons (.int .i64 (0)) (.cons (.int .i64 (2)) .nil))) call51 (F51 (p) (0) (2))) (.cons (s_not (.tmp 18 (.bool ((inB p 0 2))))) (.cons (s_assign (.tmp 19 (.bool ((!(inB p 0 2)))))) .nil)))) ?_)
  refine AC.cend ((!(inB p 0 2))) rfl rfl (fun hc => ?_) (fun hc => ?_)
  ·have q3 := (iN inB_i).1 hc
   refine AC.rq (fun σ5 => RegOK.m1 [6, 7] ⟨[(6, I 0), (7, I 7)], (.box (σ0 0) (fc f)) :: mem⟩ (.cons (s_assign (.int .i64 (0))) (.cons (s_assign (.int .i64 (7))) .nil)) ?_)
   refine AC.ret ?_
   refine blockQ_r ?_
   refine thenQ_r ?_
   exact FinQ.ret (result2 rfl (res_tmp (v := I 0) rfl rfl) (res_tmp (v := I 7) rfl rfl)) ⟨by unfold dropRes; first | rw [if_pos (by omega)] | (rw [if_neg (by omega)]; first | rw [if_pos (by omega)] | (rw [if_neg (by omega)]; rfl) | rfl), rfl⟩
  ·have q4 := iF (iN inB_i) hc
   refine AC.skip ?_
   refine blockQ_n ?_
   refine thenQ_n ?_
   refine AC.rq (fun σ6 => RegOK.m1 [6, 7] ⟨[(6, I (dropOf f p n)), (7, I 0)], (.box (σ0 0) (fc f)) :: mem⟩ (.cons (s_loadA (cs := (fc f)) (l := (fc f)) 0 tyA28 (.tmp 3 (.ptr (σ0 0) 0)) rfl rfl) (.cons (s_move (.tmp 1 (I (n : Int)))) (.cons (s_move (.tmp 2 (I p))) (.cons (s_call (r := I (dropOf f p n)) (.func 78) (.cons (.tmp 20 (Feeder.av f)) (.cons (.tmp 21 (I (n : Int))) (.cons (.tmp 22 (I p)) .nil))) call78 (F78 f g n (by omega) (p) (by omega))) (.cons (s_assign (.tmp 23 (I (dropOf f p n)))) (.cons (s_assign (.int .i64 (0))) .nil)))))) ?_)
   refine AC.ret ?_
   exact FinQ.ret (result2 rfl (res_tmp (v := I (dropOf f p n)) rfl rfl) (res_tmp (v := I 0) rfl rfl)) ⟨by unfold dropRes; first | rw [if_pos (by omega)] | (rw [if_neg (by omega)]; first | rw [if_pos (by omega)] | (rw [if_neg (by omega)]; rfl) | rfl), rfl⟩
end Go.Proofs.Ytahdgadjpkcnjaa
end
section
set_option maxRecDepth 100000
namespace Go.Proofs.Ytahdgadjpkcnjaa
open Go.Proofs
theorem F32 (f : Feeder) (c : Int) (hok : f.ok) : Pure Try.prog 32 [Feeder.av f, I c] (.tuple [I ((neutRes f c).1), I ((neutRes f c).2)]) := by
 intro mem
 refine Meets.body 1 Try.func32 rfl rfl ?_
 refine AC.rq (fun σ0 => RegOK.m1 [1, 2] ⟨[(1, I c), (2, .ptr (σ0 0) 0)], (.box (σ0 0) (fc f)) :: mem⟩ (.cons (s_box 0 (σ0 0) (.tmp 0 (Feeder.av f)) rfl) (.cons (s_assign (.int .i64 (0))) (.cons (s_assign (.int .i64 (0))) .nil))) ?_)
 refine AC.seq ?_
 refine AC.rq (fun σ1 => RegOK.m1 [1, 2, 6] ⟨[(1, I c), (2, .ptr (σ0 0) 0), (6, I (innerOf f c))], (.box (σ0 0) (fc f)) :: mem⟩ (.cons (s_loadA (cs := (fc f)) (l := (fc f)) 0 tyA28 (.tmp 2 (.ptr (σ0 0) 0)) rfl rfl) (.cons (s_move (.tmp 1 (I c))) (.cons (s_call (r := I (innerOf f c)) (.func 45) (.cons (.tmp 7 (Feeder.av f)) (.cons (.tmp 8 (I c)) .nil)) call45 (F45 (f) (c) (by exact hok))) (.cons (s_assign (.tmp 9 (I (innerOf f c)))) .nil)))) ?_)
 refine AC.rq (fun σ2 => RegOK.m1 [1, 2, 6, 11] ⟨[(1, I c), (2, .ptr (σ0 0) 0), (6, I (innerOf f c)), (11, .bool (decide ((innerOf f c) ≠ 0)))], (.box (σ0 0) (fc f)) :: mem⟩ (.cons (s_move (.tmp 6 (I (innerOf f c)))) (.cons (s_neq (.tmp 10 (I (innerOf f c))) (.int .i64 (0))) .nil)) ?_)
 refine AC.cend (decide ((innerOf f c) ≠ 0)) rfl rfl (fun hc => ?_) (fun hc => ?_)
 ·have q1 := iD.1 hc
  refine AC.rq (fun σ3 => RegOK.m1 [4, 5] ⟨[(4, I 0), (5, I (innerOf f c))], (.box (σ0 0) (fc f)) :: mem⟩ (.cons (s_move (.tmp 6 (I (innerOf f c)))) (.cons (s_assign (.int .i64 (0))) (.cons (s_assign (.tmp 12 (I (innerOf f c)))) .nil))) ?_)
  refine AC.ret ?_
  refine thenQ_r ?_
  exact FinQ.ret (result2 rfl (res_tmp (v := I 0) rfl rfl) (res_tmp (v := I (innerOf f c)) rfl rfl)) ⟨by unfold neutRes; first | rw [if_pos (by omega)] | (rw [if_neg (by omega)]; first | rw [if_pos (by omega)] | (rw [if_neg (by omega)]; rfl) | rfl), rfl⟩
 ·have q2 := iF iD hc
  have hz := inner_zero (f := f) (c := c) (by omega)
  obtain ⟨n, hcn⟩ : ∃ n : Nat, c = (n : Int) := ⟨c.toNat, by omega⟩
  subst hcn
  have g := FG.of hz.1
  refine AC.skip ?_
  refine thenQ_n ?_
  refine AC.rq (fun σ4 => RegOK.m1 [4, 5] ⟨[(4, I (neut (cur f n))), (5, I 0)], (.box (σ0 0) (fc f)) :: mem⟩ (.cons (s_loadA (cs := (fc f)) (l := (fc f)) 0 tyA28 (.tmp 2 (.ptr (σ0 0) 0)) rfl rfl) (.cons (s_move (.tmp 1 (I (n : Int)))) (.cons (s_call (r := Cur.av (cur f n)) (.func 57) (.cons (.tmp 13 (Feeder.av f)) (.cons (.tmp 14 (I (n : Int))) .nil)) call57 (F57 (f) (n) (by assumption) (by omega))) (.cons (s_call (r := I (neut (cur f n))) (.func 85) (.cons (.tmp 15 (Cur.av (cur f n))) .nil) call85 (F85 ((cur f n)) (by first | assumption | exact g.cur_in (by omega)))) (.cons (s_assign (.tmp 16 (I (neut (cur f n))))) (.cons (s_assign (.int .i64 (0))) .nil)))))) ?_)
  refine AC.ret ?_
  exact FinQ.ret (result2 rfl (res_tmp (v := I (neut (cur f n))) rfl rfl) (res_tmp (v := I 0) rfl rfl)) ⟨by unfold neutRes; first | rw [if_pos (by omega)] | (rw [if_neg (by omega)]; first | rw [if_pos (by omega)] | (rw [if_neg (by omega)]; rfl) | rfl), rfl⟩
theorem F22 (f : Feeder) (c : Int) (hok : f.ok) : Pure Try.prog 22 [Feeder.av f, I c] (.tuple [Cur.av (curRes f c).1, I ((curRes f c).2)]) := by
 intro mem
 refine Meets.body 2 Try.func22 rfl rfl ?_
 refine AC.rq (fun σ0 => RegOK.m1 [1, 2, 4] ⟨[(1, I c), (2, .ptr (σ0 0) 0), (4, .ptr (σ0 1) 0)], (.box (σ0 0) (fc f)) :: (.box (σ0 1) [I 0, I 0, I 0, I 0, I 0, I 0]) :: mem⟩ (.cons (s_box 0 (σ0 0) (.tmp 0 (Feeder.av f)) rfl) (.cons (s_alloc 1 (σ0 1) zero45) (.cons (s_assign (.int .i64 (0))) .nil))) ?_)
 refine AC.seq ?_
 refine AC.rq (fun σ1 => RegOK.m1 [1, 2, 4, 6] ⟨[(1, I c), (2, .ptr (σ0 0) 0), (4, .ptr (σ0 1) 0), (6, I (innerOf f c))], (.box (σ0 0) (fc f)) :: (.box (σ0 1) [I 0, I 0, I 0, I 0, I 0, I 0]) :: mem⟩ (.cons (s_loadA (cs := (fc f)) (l := (fc f)) 0 tyA28 (.tmp 2 (.ptr (σ0 0) 0)) rfl rfl) (.cons (s_move (.tmp 1 (I c))) (.cons (s_call (r := I (innerOf f c)) (.func 45) (.cons (.tmp 7 (Feeder.av f)) (.cons (.tmp 8 (I c)) .nil)) call45 (F45 (f) (c) (by exact hok))) (.cons (s_assign (.tmp 9 (I (innerOf f c)))) .nil)))) ?_)
 refine AC.rq (fun σ2 => RegOK.m1 [1, 2, 4, 6, 11] ⟨[(1, I c), (2, .ptr (σ0 0) 0), (4, .ptr (σ0 1) 0), (6, I (innerOf f c)), (11, .bool (decide ((innerOf f c) ≠ 0)))], (.box (σ0 0) (fc f)) :: (.box (σ0 1) [I 0, I 0, I 0, I 0, I 0, I 0]) :: mem⟩ (.cons (s_move (.tmp 6 (I (innerOf f c)))) (.cons (s_neq (.tmp 10 (I (innerOf f c))) (.int .i64 (0))) .nil)) ?_)
 refine AC.cend (decide ((innerOf f c) ≠ 0)) rfl rfl (fun hc => ?_) (fun hc => ?_)
 ·have q1 := iD.1 hc
  refine AC.rq (fun σ3 => RegOK.m1 [4, 5] ⟨[(4, .ptr (σ0 1) 0), (5, I (innerOf f c))], (.box (σ0 0) (fc f)) :: (.box (σ0 1) [I 0, I 0, I 0, I 0, I 0, I 0]) :: mem⟩ (.cons (s_buildArr (l := [I 0, I 0, I 0, I 0, I 0, I 0]) zero45 arr45 .nil rfl) (.cons (s_move (.tmp 6 (I (innerOf f c)))) (.cons (s_store (cs := [I 0, I 0, I 0, I 0, I 0, I 0]) 1 sz45 (.tmp 4 (.ptr (σ0 1) 0)) (.tmp 12 (.agg [I 0, I 0, I 0, I 0, I 0, I 0])) rfl rfl rfl (Nat.le_of_ble_eq_true rfl)) (.cons (s_assign (.tmp 13 (I (innerOf f c)))) .nil)))) ?_)
  refine AC.ret ?_
  refine thenQ_r ?_
  exact FinQ.ret (result2 rfl (res_cell (s := (σ0 1)) (cs := [I 0, I 0, I 0, I 0, I 0, I 0]) (l := [I 0, I 0, I 0, I 0, I 0, I 0]) 1 rfl rfl rfl tyA45 rfl rfl) (res_tmp (v := I (innerOf f c)) rfl rfl)) ⟨by unfold curRes; first | rw [if_pos (by omega)] | (rw [if_neg (by omega)]; first | rw [if_pos (by omega)] | (rw [if_neg (by omega)]; rfl) | rfl), rfl⟩
 ·have q2 := iF iD hc
  have hz := inner_zero (f := f) (c := c) (by omega)
  obtain ⟨n, hcn⟩ : ∃ n : Nat, c = (n : Int) := ⟨c.toNat, by omega⟩
  subst hcn
  have g := FG.of hz.1
  refine AC.skip ?_
  refine thenQ_n ?_
  refine AC.rq (fun σ4 => RegOK.m1 [4, 5] ⟨[(4, .ptr (σ0 1) 0), (5, I 0)], (.box (σ0 0) (fc f)) :: (.box (σ0 1) (Cur.av (cur f n)).cells) :: mem⟩ (.cons (s_loadA (cs := (fc f)) (l := (fc f)) 0 tyA28 (.tmp 2 (.ptr (σ0 0) 0)) rfl rfl) (.cons (s_move (.tmp 1 (I (n : Int)))) (.cons (s_call (r := Cur.av (cur f n)) (.func 57) (.cons (.tmp 14 (Feeder.av f)) (.cons (.tmp 15 (I (n : Int))) .nil)) call57 (F57 (f) (n) (by assumption) (by omega))) (.cons (s_store (cs := [I 0, I 0, I 0, I 0, I 0, I 0]) 1 sz45 (.tmp 4 (.ptr (σ0 1) 0)) (.tmp 16 (Cur.av (cur f n))) rfl rfl rfl (Nat.le_of_ble_eq_true rfl)) (.cons (s_assign (.int .i64 (0))) .nil))))) ?_)
  refine AC.ret ?_
  exact FinQ.ret (result2 rfl (res_cell (s := (σ0 1)) (cs := (Cur.av (cur f n)).cells) (l := (Cur.av (cur f n)).cells) 1 rfl rfl rfl tyA45 rfl rfl) (res_tmp (v := I 0) rfl rfl)) ⟨by unfold curRes; first | rw [if_pos (by omega)] | (rw [if_neg (by omega)]; first | rw [if_pos (by omega)] | (rw [if_neg (by omega)]; rfl) | rfl), rfl⟩
end Go.Proofs.Ytahdgadjpkcnjaa
end
section
set_option maxRecDepth 100000
namespace Go.Proofs.Ytahdgadjpkcnjaa
open Go.Proofs
theorem F16 (f : Feeder) (c : Int) (e : Bool) (hok : f.ok) : Pure Try.prog 16 [Feeder.av f, I c, .bool (e)] (.tuple [.agg [I ((faultRes f c (e)).1), I ((faultRes f c (e)).2.1)], I ((faultRes f c (e)).2.2)]) := by
 intro mem
 refine Meets.body 2 Try.func16 rfl rfl ?_
 refine AC.rq (fun σ0 => RegOK.m1 [1, 2, 3, 6] ⟨[(1, I c), (2, .bool (e)), (3, .ptr (σ0 0) 0), (6, .ptr (σ0 1) 0)], (.box (σ0 0) (fc f)) :: (.box (σ0 1) [I 0, I 0]) :: mem⟩ (.cons (s_box 0 (σ0 0) (.tmp 0 (Feeder.av f)) rfl) (.cons (s_alloc 1 (σ0 1) zero26) (.cons (s_assign (.int .i64 (0))) .nil))) ?_)
 refine AC.seq ?_
 refine AC.rq (fun σ1 => RegOK.m1 [1, 2, 3, 6, 8] ⟨[(1, I c), (2, .bool (e)), (3, .ptr (σ0 0) 0), (6, .ptr (σ0 1) 0), (8, I (innerOf f c))], (.box (σ0 0) (fc f)) :: (.box (σ0 1) [I 0, I 0]) :: mem⟩ (.cons (s_loadA (cs := (fc f)) (l := (fc f)) 0 tyA28 (.tmp 3 (.ptr (σ0 0) 0)) rfl rfl) (.cons (s_move (.tmp 1 (I c))) (.cons (s_call (r := I (innerOf f c)) (.func 45) (.cons (.tmp 9 (Feeder.av f)) (.cons (.tmp 10 (I c)) .nil)) call45 (F45 (f) (c) (by exact hok))) (.cons (s_assign (.tmp 11 (I (innerOf f c)))) .nil)))) ?_)
 refine AC.rq (fun σ2 => RegOK.m1 [1, 2, 3, 6, 8, 13] ⟨[(1, I c), (2, .bool (e)), (3, .ptr (σ0 0) 0), (6, .ptr (σ0 1) 0), (8, I (innerOf f c)), (13, .bool (decide ((innerOf f c) ≠ 0)))], (.box (σ0 0) (fc f)) :: (.box (σ0 1) [I 0, I 0]) :: mem⟩ (.cons (s_move (.tmp 8 (I (innerOf f c)))) (.cons (s_neq (.tmp 12 (I (innerOf f c))) (.int .i64 (0))) .nil)) ?_)
 refine AC.cend (decide ((innerOf f c) ≠ 0)) rfl rfl (fun hc => ?_) (fun hc => ?_)
 ·have q1 := iD.1 hc
  refine AC.rq (fun σ3 => RegOK.m1 [6, 7] ⟨[(6, .ptr (σ0 1) 0), (7, I (innerOf f c))], (.box (σ0 0) (fc f)) :: (.box (σ0 1) [I 0, I 0]) :: mem⟩ (.cons (s_build (l := [I 0, I 0]) zero26 plc26 .nil rfl) (.cons (s_move (.tmp 8 (I (innerOf f c)))) (.cons (s_store (cs := [I 0, I 0]) 1 sz26 (.tmp 6 (.ptr (σ0 1) 0)) (.tmp 14 (.agg [I 0, I 0])) rfl rfl rfl (Nat.le_of_ble_eq_true rfl)) (.cons (s_assign (.tmp 15 (I (innerOf f c)))) .nil)))) ?_)
  refine AC.ret ?_
  refine thenQ_r ?_
  exact FinQ.ret (result2 rfl (res_cell (s := (σ0 1)) (cs := [I 0, I 0]) (l := [I 0, I 0]) 1 rfl rfl rfl tyA26 rfl rfl) (res_tmp (v := I (innerOf f c)) rfl rfl)) ⟨by unfold faultRes; first | rw [if_pos (by omega)] | (rw [if_neg (by omega)]; first | rw [if_pos (by omega)] | (rw [if_neg (by omega)]; rfl) | rfl), rfl⟩
 ·have q2 := iF iD hc
  have hz := inner_zero (f := f) (c := c) (by omega)
  obtain ⟨n, hcn⟩ : ∃ n : Nat, c = (n : Int) := ⟨c.toNat, by omega⟩
  subst hcn
  have g := FG.of hz.1
  refine AC.skip ?_
  refine thenQ_n ?_
  refine AC.rq (fun σ4 => RegOK.m1 [6, 7] ⟨[(6, .ptr (σ0 1) 0), (7, I 0)], (.box (σ0 0) (fc f)) :: (.box (σ0 1) [I (faultLo f (e) n), I (faultHi f (e) n)]) :: mem⟩ (.cons (s_loadA (cs := (fc f)) (l := (fc f)) 0 tyA28 (.tmp 3 (.ptr (σ0 0) 0)) rfl rfl) (.cons (s_move (.tmp 1 (I (n : Int)))) (.cons (s_move (.tmp 2 (.bool (e)))) (.cons (s_call (r := .agg [I (faultLo f (e) n), I (faultHi f (e) n)]) (.func 46) (.cons (.tmp 16 (Feeder.av f)) (.cons (.tmp 17 (I (n : Int))) (.cons (.tmp 18 (.bool (e))) .nil))) call46 (F46 f g n (by omega) (e))) (.cons (s_store (cs := [I 0, I 0]) 1 sz26 (.tmp 6 (.ptr (σ0 1) 0)) (.tmp 19 (.agg [I (faultLo f (e) n), I (faultHi f (e) n)])) rfl rfl rfl (Nat.le_of_ble_eq_true rfl)) (.cons (s_assign (.int .i64 (0))) .nil)))))) ?_)
  refine AC.ret ?_
  exact FinQ.ret (result2 rfl (res_cell (s := (σ0 1)) (cs := [I (faultLo f (e) n), I (faultHi f (e) n)]) (l := [I (faultLo f (e) n), I (faultHi f (e) n)]) 1 rfl rfl rfl tyA26 rfl rfl) (res_tmp (v := I 0) rfl rfl)) ⟨by unfold faultRes; first | rw [if_pos (by omega)] | (rw [if_neg (by omega)]; first | rw [if_pos (by omega)] | (rw [if_neg (by omega)]; rfl) | rfl), rfl⟩
end Go.Proofs.Ytahdgadjpkcnjaa
end
section
set_option maxRecDepth 100000
namespace Go.Proofs.Ytahdgadjpkcnjaa
open Go.Proofs
theorem F22g (f : Feeder) (hok : f.ok) (g : (check f).2.2 = 0) (n : Nat) (h0 : 0 < n) (h : n < f.nodes.length) : Pure Try.prog 22 [Feeder.av f, I (n : Int)] (.tuple [Cur.av (cur f n), I 0]) := by
  have := F22 f n hok
  rwa [curRes_ok g h0 h] at this
end Go.Proofs.Ytahdgadjpkcnjaa
end
