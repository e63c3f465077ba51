/- Proved here: for every works, two integers, two lists of numbers and a list of spans of which the reading is of bulk at most 1048576, the law gantlaw2.GuardRanges returns true and leaves its arguments as they read before; the tables of the library that its code reads are premised in the statement. -/
import Derived.Test.YtpffebkbmcbmgaaGreatDoorRk7
set_option linter.all false
namespace Go.Proofs.YtpffebkbmcbmgaaGreatDoor
open Go Go.RowKit Go.ChangeShapes Go.WideShapes Go.ChangeAt Eng
set_option maxRecDepth 10000
theorem a9d:Rows.GuardRangesUptoSaid:=
 OpenClaim.holds_of_cond 3 Tryz.f3 rfl rfl rfl rfl rfl rfl rfl ⟨rfl,rfl,rfl,rfl,rfl⟩ rfl rfl rfl rfl rfl (by kernel_rfl) Tryz.func3 a7y
  (of_decide_eq_true (by kernel_rfl)) (by unfold Func.isWrapper;first|(rw [if_pos (by decide +kernel)];kernel_rfl)|(rw [if_neg (by decide +kernel)];exact ⟨rfl,rfl⟩))
  (fun os started H enc _ F=>by rw [OpenClaim.pre_eq_preRow];exact a7l os started H enc F)
theorem a8m (f:FuncId) (fn:Func) (hf:Tryz.pinned.checked.prog.funcNamed "gantry/gantlaw2.GuardRanges" = some f) (hfn:Tryz.pinned.checked.prog.funcs[f]?=some fn) :
  false=Tryz.pinned.checked.prog.looks []/\∀ (j:Nat) t,fn.params[j]?=some t->Tryz.pinned.checked.prog.wantsStandIn t=false:=by
 obtain rfl:f=3:=Option.some.inj ((show Tryz.prog.funcNamed "gantry/gantlaw2.GuardRanges" = some 3 by kernel_rfl).symm.trans hf) |>.symm
 obtain rfl:fn=Tryz.f3:=(Option.some.inj (Tryz.func3.symm.trans hfn)).symm
 refine ⟨by kernel_rfl,fun j t ht=>?_⟩
 rw [Tryz.params3] at ht
 have hm:=Array.mem_of_getElem? ht
 simp only [List.mem_toArray,List.mem_cons,List.not_mem_nil,or_false] at hm
 rcases hm with rfl|rfl|rfl|rfl|rfl|rfl
 ·exact (show Tryz.prog.wantsStandIn 30=false by kernel_rfl)
 ·exact (show Tryz.prog.wantsStandIn 3=false by kernel_rfl)
 ·exact (show Tryz.prog.wantsStandIn 3=false by kernel_rfl)
 ·exact (show Tryz.prog.wantsStandIn 31=false by kernel_rfl)
 ·exact (show Tryz.prog.wantsStandIn 31=false by kernel_rfl)
 ·exact (show Tryz.prog.wantsStandIn 32=false by kernel_rfl)
theorem guardRanges_card:Rows.GuardRangesUptoCardSaid:=
 Claim7.holds_tied_plain_at .later [] _ _ _ _ a9d (fun _ h=>by cases h) (by kernel_rfl) (fun _ h=>by cases h) guardRangesUpto_row_tie rfl ⟨rfl,rfl⟩ (by kernel_rfl) rfl a8m (by kernel_rfl)
#print axioms guardRanges_card
end Go.Proofs.YtpffebkbmcbmgaaGreatDoor
