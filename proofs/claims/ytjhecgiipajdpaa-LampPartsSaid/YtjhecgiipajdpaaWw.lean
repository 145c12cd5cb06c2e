/- Walks of functions, each once (written by wip/gen/gen.py). -/
import Derived.Test.YtjhecgiipajdpaaSp3
set_option linter.unusedVariables false
set_option linter.unusedSimpArgs false
set_option maxRecDepth 100000
namespace Go.Proofs.Ytjhecgiipajdpaa
open Go.Proofs
theorem F29 (a b : Int) (x y : Int) (hb : (-1000 ≤ x ∧ x ≤ 100000000) ∧ (-1000 ≤ y ∧ y ≤ 100000000)) : Pure Try.prog 29 [.agg [I a, I b], .agg [I x, I y]] (.bool ((decide ((x - 1) ≤ a) && decide (b ≤ (y + 1))))) := by
  intro mem
  refine Meets.body 2 Try.func29 rfl rfl ?_
  refine AC.rseq Fr.plain mixed (fun σ0 => RegOK.mk1 [2, 3] ⟨[(2, .ptr (σ0 0) 0), (3, .ptr (σ0 1) 0)], (Ent.box (σ0 0) [I a, I b]) :: (Ent.box (σ0 1) [I x, I y]) :: mem⟩ (.cons (s_box 0 (σ0 0) (.tmp 0 (.agg [I a, I b])) rfl) (.cons (s_box 1 (σ0 1) (.tmp 1 (.agg [I x, I y])) rfl) (.cons (s_assign (.bool false)) .nil))) (by kernel_rfl) ?_)
  refine AC.rseq Fr.plain mixed (fun σ1 => RegOK.mk1 [4] ⟨[(4, .bool ((decide ((x - 1) ≤ a) && decide (b ≤ (y + 1)))))], (Ent.box (σ0 0) [I a, I b]) :: (Ent.box (σ0 1) [I x, I y]) :: mem⟩ (.cons (s_fieldAddr fld37_0 (.tmp 3 (.ptr (σ0 1) 0))) (.cons (s_load1 (cs := [I x, I y]) (c := I x) 1 tyS3 (.tmp 5 (.ptr (σ0 1) 0)) rfl) (.cons (s_sub (.tmp 6 (I x)) (.int .i64 (1)) (inK_i64 (by omega))) (.cons (s_fieldAddr fld37_0 (.tmp 2 (.ptr (σ0 0) 0))) (.cons (s_load1 (cs := [I a, I b]) (c := I a) 0 tyS3 (.tmp 8 (.ptr (σ0 0) 0)) rfl) (.cons (s_leq (.tmp 7 (I (x - 1))) (.tmp 9 (I a))) (.cons (s_move (.tmp 10 (.bool (decide ((x - 1) ≤ a))))) (.cons (Step.guard _ rfl (.bool (decide ((x - 1) ≤ a))) gT (fun hb => s_fieldAddr fld37_1 (.tmp 2 (.ptr (σ0 0) 0)))) (.cons (Step.guard _ rfl (.bool (decide ((x - 1) ≤ a))) gT (fun hb => s_load1 (cs := [I a, I b]) (c := I b) 0 tyS3 (.tmpC hb 12 (.ptr (σ0 0) 1)) rfl)) (.cons (Step.guard _ rfl (.bool (decide ((x - 1) ≤ a))) gT (fun hb => s_fieldAddr fld37_1 (.tmp 3 (.ptr (σ0 1) 0)))) (.cons (Step.guard _ rfl (.bool (decide ((x - 1) ≤ a))) gT (fun hb => s_load1 (cs := [I x, I y]) (c := I y) 1 tyS3 (.tmpC hb 14 (.ptr (σ0 1) 1)) rfl)) (.cons (Step.guard _ rfl (.bool (decide ((x - 1) ≤ a))) gT (fun hb => s_add (.tmpC hb 15 (I y)) (.int .i64 (1)) (inK_i64 (by have hq := iD.1 hb; omega)))) (.cons (Step.guard _ rfl (.bool (decide ((x - 1) ≤ a))) gT (fun hb => s_leq (.tmpC hb 13 (I b)) (.tmpC hb 16 (I (y + 1))))) (.cons (s_and' (q := decide (b ≤ (y + 1))) (fun h => h) (.tmp 11 (.bool (decide ((x - 1) ≤ a))))) (.cons (s_assign (.tmp 18 (.bool ((decide ((x - 1) ≤ a) && decide (b ≤ (y + 1))))))) .nil))))))))))))))) (by kernel_rfl) ?_)
  refine AC.ret ?_
  exact FinQ.ret (result1 rfl (res_tmp (v := .bool ((decide ((x - 1) ≤ a) && decide (b ≤ (y + 1))))) rfl rfl)) ⟨by rfl, rfl⟩

end Go.Proofs.Ytjhecgiipajdpaa
