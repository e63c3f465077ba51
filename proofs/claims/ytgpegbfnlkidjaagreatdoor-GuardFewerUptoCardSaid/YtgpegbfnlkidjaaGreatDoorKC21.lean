/- Proved here: for every three lists of integers of which the reading is of bulk at most 1048576, and every integer, the law gantkeep2.GuardFewer returns true and leaves its arguments as they read before; the table of the library that its code reads is premised in the statement. -/
import Derived.Test.YtgpegbfnlkidjaaGreatDoorFk7
set_option linter.all false
namespace Go.Proofs.YtgpegbfnlkidjaaGreatDoor
open Go Go.RowKit Go.ChangeShapes Go.WideShapes Go.ChangeAt Eng
set_option maxRecDepth 10000
theorem b0m:Rows.GuardFewerUptoSaid:=
 OpenClaim.holds_of_cond 3 Tryz.f3 rfl rfl rfl rfl rfl rfl rfl ⟨rfl,rfl,rfl,rfl,rfl⟩ rfl rfl rfl rfl rfl (by kernel_rfl) Tryz.func3 a8Q
  (of_decide_eq_true (by kernel_rfl)) (by unfold Func.isWrapper;first|(rw [if_pos (by decide +kernel)];kernel_rfl)|(rw [if_neg (by decide +kernel)];exact ⟨rfl,rfl⟩))
  (fun os started H enc _ F=>by rw [OpenClaim.pre_eq_preRow];exact a8S os started H enc F)
theorem a9F (f:FuncId) (fn:Func) (hf:Tryz.pinned.checked.prog.funcNamed "gantry/gantkeep2.GuardFewer" = some f) (hfn:Tryz.pinned.checked.prog.funcs[f]?=some fn) :
  false=Tryz.pinned.checked.prog.looks []/\∀ (j:Nat) t,fn.params[j]?=some t->Tryz.pinned.checked.prog.wantsStandIn t=false:=by
 obtain rfl:f=3:=Option.some.inj ((show Tryz.prog.funcNamed "gantry/gantkeep2.GuardFewer" = some 3 by kernel_rfl).symm.trans hf) |>.symm
 obtain rfl:fn=Tryz.f3:=(Option.some.inj (Tryz.func3.symm.trans hfn)).symm
 refine ⟨by kernel_rfl,fun j t ht=>?_⟩
 rw [Tryz.params3] at ht
 have hm:=Array.mem_of_getElem? ht
 simp only [List.mem_toArray,List.mem_cons,List.not_mem_nil,or_false] at hm
 rcases hm with rfl|rfl|rfl|rfl
 ·exact (show Tryz.prog.wantsStandIn 22=false by kernel_rfl)
 ·exact (show Tryz.prog.wantsStandIn 22=false by kernel_rfl)
 ·exact (show Tryz.prog.wantsStandIn 22=false by kernel_rfl)
 ·exact (show Tryz.prog.wantsStandIn 3=false by kernel_rfl)
theorem guardFewer_card:Rows.GuardFewerUptoCardSaid:=
 Claim7.holds_tied_plain_at .later [] _ _ _ _ b0m (fun _ h=>by cases h) (by kernel_rfl) (fun _ h=>by cases h) guardFewerUpto_row_tie rfl ⟨rfl,rfl⟩ (by kernel_rfl) rfl a9F (by kernel_rfl)
#print axioms guardFewer_card
end Go.Proofs.YtgpegbfnlkidjaaGreatDoor
