/- Proved here: for every list of integers of which the reading is of bulk at most 1048576, the law gantkeep2.WorksCopies returns true and leaves its argument as it read before; the table of the library that it reads is tied to the text of the program by the given tie. Conditions: none. -/
import Derived.Test.YtgmlehjgpgdjhaaGreatDoorWk6
set_option linter.all false
namespace Go.Proofs.YtgmlehjgpgdjhaaGreatDoor
open Go Go.RowKit Go.ChangeShapes Go.WideShapes Go.ChangeAt Eng
set_option maxRecDepth 10000
theorem a6Z : Rows.WorksCopiesUptoSaid :=
 OpenClaim.holds_of_cond 3 Tryz.f3 rfl rfl rfl rfl rfl rfl rfl ⟨rfl, rfl, rfl, rfl, rfl⟩ rfl rfl rfl rfl rfl (by kernel_rfl) Tryz.func3 a5w
  (of_decide_eq_true (by kernel_rfl)) (by unfold Func.isWrapper; first | (rw [if_pos (by decide +kernel)]; kernel_rfl) | (rw [if_neg (by decide +kernel)]; exact ⟨rfl, rfl⟩))
  (fun os started H enc _ F => by rw [OpenClaim.pre_eq_preRow]; exact a5A os started H enc F)
theorem a6m (f : FuncId) (fn : Func) (hf : Tryz.pinned.checked.prog.funcNamed "gantry/gantkeep2.WorksCopies" = some f) (hfn : Tryz.pinned.checked.prog.funcs[f]? = some fn) :
  false = Tryz.pinned.checked.prog.looks [] /\ ∀ (j : Nat) t, fn.params[j]? = some t -> Tryz.pinned.checked.prog.wantsStandIn t = false := by
 obtain rfl : f = 3 := Option.some.inj ((show Tryz.prog.funcNamed "gantry/gantkeep2.WorksCopies" = some 3 by kernel_rfl).symm.trans hf) |>.symm
 obtain rfl : fn = Tryz.f3 := (Option.some.inj (Tryz.func3.symm.trans hfn)).symm
 refine ⟨by kernel_rfl, fun j t ht => ?_⟩
 rw [Tryz.params3] at ht
 have hm := Array.mem_of_getElem? ht
 simp only [List.mem_toArray, List.mem_cons, List.not_mem_nil, or_false] at hm
 rcases hm with rfl
 ·exact (show Tryz.prog.wantsStandIn 22 = false by kernel_rfl)
theorem worksCopies_card : Rows.WorksCopiesUptoCardSaid :=
 Claim7.holds_tied_plain_at .later [] _ _ _ _ a6Z (fun _ h => by cases h) (by kernel_rfl) (fun _ h => by cases h) worksCopiesUpto_row_tie rfl ⟨rfl, rfl⟩ (by kernel_rfl) rfl a6m (by kernel_rfl)
#print axioms worksCopies_card
end Go.Proofs.YtgmlehjgpgdjhaaGreatDoor
