/- Proved here: for every slice of bytes of which the reading is of bulk at most 1048576, the law gantlaw2.RecordReads returns true and leaves its argument as it was. -/
import Derived.Test.YtfkipfnkpeobjaaGreatDoorRk8
set_option linter.all false
namespace Go.Proofs.YtfkipfnkpeobjaaGreatDoor
open Go Go.RowKit Go.ChangeShapes Go.WideShapes Go.ChangeAt Eng
set_option maxRecDepth 10000
def b0y:Rows.RecordReadsUptoSaid:=
 OpenClaim.holds_of_cond 3 Tryz.f3 rfl rfl rfl rfl rfl rfl rfl ⟨rfl,rfl,rfl,rfl,rfl⟩ rfl rfl rfl rfl rfl (by kernel_rfl) Tryz.func3 a8T
  (of_decide_eq_true (by kernel_rfl)) (by unfold Func.isWrapper;first|(rw[if_pos (by decide +kernel)];kernel_rfl)|(rw[if_neg (by decide +kernel)];exact⟨rfl,rfl⟩))
  (λu h H enc _ F=>by rw[OpenClaim.pre_eq_preRow];exact a9x u h H enc F)
def b0f (f:FuncId) (fn:Func) (hf:Tryz.pinned.checked.prog.funcNamed "gantry/gantlaw2.RecordReads" = some f) (hfn:Tryz.pinned.checked.prog.funcs[f]?=some fn) :
  false=Tryz.pinned.checked.prog.looks []/\∀(j:Nat) t,fn.params[j]?=some t->Tryz.pinned.checked.prog.wantsStandIn t=false:=by
 obtain rfl:f=3:=Option.some.inj ((show Tryz.prog.funcNamed "gantry/gantlaw2.RecordReads" = some 3 by kernel_rfl).symm.trans hf) |>.symm;obtain rfl:fn=Tryz.f3:=(Option.some.inj (Tryz.func3.symm.trans hfn)).symm;refine⟨by kernel_rfl,λj t ht=>?_⟩;rw[Tryz.params3]at ht;have hm:=Array.mem_of_getElem? ht;simp only[List.mem_toArray,List.mem_cons,List.not_mem_nil,or_false]at hm;rcases hm with rfl
 ·exact(show Tryz.prog.wantsStandIn 22=false by kernel_rfl)
theorem recordReads_card:Rows.RecordReadsUptoCardSaid:=
 Claim7.holds_tied_plain_at .later [] _ _ _ _ b0y (λ_ h=>by cases h) (by kernel_rfl) (λ_ h=>by cases h) recordReadsUpto_row_tie rfl ⟨rfl,rfl⟩ (by kernel_rfl) rfl b0f (by kernel_rfl)
#print axioms recordReads_card
end Go.Proofs.YtfkipfnkpeobjaaGreatDoor
