/- Proved here: for every five lists of integers of which the reading is of bulk at most 1048576, the law gantkeep2.GuardNobody returns true and leaves its arguments as they read before; the table of the library that its code reads is premised in the statement. -/
import Derived.Test.YtgpegbfnlkidjaaGreatDoorNk7
set_option linter.all false
namespace Go.Proofs.YtgpegbfnlkidjaaGreatDoor
open Go Go.RowKit Go.ChangeShapes Go.WideShapes Go.ChangeAt Eng
set_option maxRecDepth 10000
theorem a9u:Rows.GuardNobodyUptoSaid:=
 OpenClaim.holds_of_cond 4 Tryz.f4 rfl rfl rfl rfl rfl rfl rfl ⟨rfl,rfl,rfl,rfl,rfl⟩ rfl rfl rfl rfl rfl (by kernel_rfl) Tryz.func4 a8k
  (of_decide_eq_true (by kernel_rfl)) (by unfold Func.isWrapper;first|(rw [if_pos (by decide +kernel)];kernel_rfl)|(rw [if_neg (by decide +kernel)];exact ⟨rfl,rfl⟩))
  (fun os started H enc _ F=>by rw [OpenClaim.pre_eq_preRow];exact a7I os started H enc F)
theorem a8R (f:FuncId) (fn:Func) (hf:Tryz.pinned.checked.prog.funcNamed "gantry/gantkeep2.GuardNobody" = some f) (hfn:Tryz.pinned.checked.prog.funcs[f]?=some fn) :
  false=Tryz.pinned.checked.prog.looks []/\∀ (j:Nat) t,fn.params[j]?=some t->Tryz.pinned.checked.prog.wantsStandIn t=false:=by
 obtain rfl:f=4:=Option.some.inj ((show Tryz.prog.funcNamed "gantry/gantkeep2.GuardNobody" = some 4 by kernel_rfl).symm.trans hf) |>.symm
 obtain rfl:fn=Tryz.f4:=(Option.some.inj (Tryz.func4.symm.trans hfn)).symm
 refine ⟨by kernel_rfl,fun j t ht=>?_⟩
 rw [Tryz.params4] at ht
 have hm:=Array.mem_of_getElem? ht
 simp only [List.mem_toArray,List.mem_cons,List.not_mem_nil,or_false] at hm
 rcases hm with rfl|rfl|rfl|rfl|rfl
 ·exact (show Tryz.prog.wantsStandIn 22=false by kernel_rfl)
 ·exact (show Tryz.prog.wantsStandIn 22=false by kernel_rfl)
 ·exact (show Tryz.prog.wantsStandIn 22=false by kernel_rfl)
 ·exact (show Tryz.prog.wantsStandIn 22=false by kernel_rfl)
 ·exact (show Tryz.prog.wantsStandIn 22=false by kernel_rfl)
theorem guardNobody_card:Rows.GuardNobodyUptoCardSaid:=
 Claim7.holds_tied_plain_at .later [] _ _ _ _ a9u (fun _ h=>by cases h) (by kernel_rfl) (fun _ h=>by cases h) guardNobodyUpto_row_tie rfl ⟨rfl,rfl⟩ (by kernel_rfl) rfl a8R (by kernel_rfl)
#print axioms guardNobody_card
end Go.Proofs.YtgpegbfnlkidjaaGreatDoor
