/- Proved here: for every three lists of integers of which the reading is of bulk at most 1048576, the law gantkeep2.GuardRange returns true and leaves its arguments as they read before; the table of the library that it reads is tied to the text of the program by the given tie. Conditions: none. -/
import Derived.Test.YtgmlehjgpgdjhaaGreatDoorGk6
set_option linter.all false
namespace Go.Proofs.YtgmlehjgpgdjhaaGreatDoor
open Go Go.RowKit Go.ChangeShapes Go.WideShapes Go.ChangeAt Eng
set_option maxRecDepth 10000
theorem a9h : Rows.GuardRangeUptoSaid :=
 OpenClaim.holds_of_cond 5 Tryz.f5 rfl rfl rfl rfl rfl rfl rfl ⟨rfl, rfl, rfl, rfl, rfl⟩ rfl rfl rfl rfl rfl (by kernel_rfl) Tryz.func5 a7B
  (of_decide_eq_true (by kernel_rfl)) (by unfold Func.isWrapper; first | (rw [if_pos (by decide +kernel)]; kernel_rfl) | (rw [if_neg (by decide +kernel)]; exact ⟨rfl, rfl⟩))
  (fun os started H enc _ F => by rw [OpenClaim.pre_eq_preRow]; exact a7A os started H enc F)
theorem a8y (f : FuncId) (fn : Func) (hf : Tryz.pinned.checked.prog.funcNamed "gantry/gantkeep2.GuardRange" = some f) (hfn : Tryz.pinned.checked.prog.funcs[f]? = some fn) :
  false = Tryz.pinned.checked.prog.looks [] /\ ∀ (j : Nat) t, fn.params[j]? = some t -> Tryz.pinned.checked.prog.wantsStandIn t = false := by
 obtain rfl : f = 5 := Option.some.inj ((show Tryz.prog.funcNamed "gantry/gantkeep2.GuardRange" = some 5 by kernel_rfl).symm.trans hf) |>.symm
 obtain rfl : fn = Tryz.f5 := (Option.some.inj (Tryz.func5.symm.trans hfn)).symm
 refine ⟨by kernel_rfl, fun j t ht => ?_⟩
 rw [Tryz.params5] at ht
 have hm := Array.mem_of_getElem? ht
 simp only [List.mem_toArray, List.mem_cons, List.not_mem_nil, or_false] at hm
 rcases hm with rfl | rfl | rfl
 ·exact (show Tryz.prog.wantsStandIn 22 = false by kernel_rfl)
 ·exact (show Tryz.prog.wantsStandIn 22 = false by kernel_rfl)
 ·exact (show Tryz.prog.wantsStandIn 22 = false by kernel_rfl)
theorem guardRange_card : Rows.GuardRangeUptoCardSaid :=
 Claim7.holds_tied_plain_at .later [] _ _ _ _ a9h (fun _ h => by cases h) (by kernel_rfl) (fun _ h => by cases h) guardRangeUpto_row_tie rfl ⟨rfl, rfl⟩ (by kernel_rfl) rfl a8y (by kernel_rfl)
#print axioms guardRange_card
end Go.Proofs.YtgmlehjgpgdjhaaGreatDoor
