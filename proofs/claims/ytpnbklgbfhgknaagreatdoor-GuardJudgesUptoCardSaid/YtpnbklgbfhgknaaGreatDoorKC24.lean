/- Proved here: for every works, state, list of lists of cells and list of lists of numbers of which the reading is of bulk at most 1048576, the law gantlaw2.GuardJudges returns true and leaves its arguments as they were. -/
import Derived.Test.YtpnbklgbfhgknaaGreatDoorJk7
set_option linter.all false
namespace Go.Proofs.YtpnbklgbfhgknaaGreatDoor
open Go Go.RowKit Go.ChangeShapes Go.WideShapes Go.ChangeAt Eng
set_option maxRecDepth 10000
theorem a9n:Rows.GuardJudgesUptoSaid:=
 OpenClaim.holds_of_cond 3 Tryz.f3 rfl rfl rfl rfl rfl rfl rfl ⟨rfl,rfl,rfl,rfl,rfl⟩ rfl rfl rfl rfl rfl (by kernel_rfl) Tryz.func3 a7M
  (of_decide_eq_true (by kernel_rfl)) (by unfold Func.isWrapper;first|(rw [if_pos (by decide +kernel)];kernel_rfl)|(rw [if_neg (by decide +kernel)];exact ⟨rfl,rfl⟩))
  (fun os started H enc _ F=>by rw [OpenClaim.pre_eq_preRow];exact a7L os started H enc F)
theorem a8K (f:FuncId) (fn:Func) (hf:Tryz.pinned.checked.prog.funcNamed "gantry/gantlaw2.GuardJudges" = some f) (hfn:Tryz.pinned.checked.prog.funcs[f]?=some fn) :
  false=Tryz.pinned.checked.prog.looks []/\∀ (j:Nat) t,fn.params[j]?=some t->Tryz.pinned.checked.prog.wantsStandIn t=false:=by
 obtain rfl:f=3:=Option.some.inj ((show Tryz.prog.funcNamed "gantry/gantlaw2.GuardJudges" = some 3 by kernel_rfl).symm.trans hf) |>.symm;obtain rfl:fn=Tryz.f3:=(Option.some.inj (Tryz.func3.symm.trans hfn)).symm;refine ⟨by kernel_rfl,fun j t ht=>?_⟩;rw [Tryz.params3] at ht;have hm:=Array.mem_of_getElem? ht;simp only [List.mem_toArray,List.mem_cons,List.not_mem_nil,or_false] at hm;rcases hm with rfl|rfl|rfl|rfl
 ·exact (show Tryz.prog.wantsStandIn 30=false by kernel_rfl)
 ·exact (show Tryz.prog.wantsStandIn 36=false by kernel_rfl)
 ·exact (show Tryz.prog.wantsStandIn 37=false by kernel_rfl)
 ·exact (show Tryz.prog.wantsStandIn 38=false by kernel_rfl)
theorem guardJudges_card:Rows.GuardJudgesUptoCardSaid:=
 Claim7.holds_tied_plain_at .later [] _ _ _ _ a9n (fun _ h=>by cases h) (by kernel_rfl) (fun _ h=>by cases h) guardJudgesUpto_row_tie rfl ⟨rfl,rfl⟩ (by kernel_rfl) rfl a8K (by kernel_rfl)
#print axioms guardJudges_card
end Go.Proofs.YtpnbklgbfhgknaaGreatDoor
