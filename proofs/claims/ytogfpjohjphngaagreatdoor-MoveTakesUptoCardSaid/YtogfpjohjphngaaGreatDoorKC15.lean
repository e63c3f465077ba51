/- Proved here: for every works, every state and every two integers of which the reading is of bulk at most 1048576, the law gantlaw2.MoveTakes returns true and leaves its arguments as they read before; the tables of the library that it reads are tied to the text of the program by the given tie. Conditions: none but those that the given statement itself has. -/
import Derived.Test.YtogfpjohjphngaaGreatDoorPk6
set_option linter.all false
namespace Go.Proofs.YtogfpjohjphngaaGreatDoor
open Go Go.RowKit Go.ChangeShapes Go.WideShapes Go.ChangeAt Eng
set_option maxRecDepth 10000
theorem a8o : Rows.MoveTakesUptoSaid :=
 OpenClaim.holds_of_cond 9 Tryz.f9 rfl rfl rfl rfl rfl rfl rfl ⟨rfl, rfl, rfl, rfl, rfl⟩ rfl rfl rfl rfl rfl (by kernel_rfl) Tryz.func9 a7r
  (of_decide_eq_true (by kernel_rfl)) (by unfold Func.isWrapper; first | (rw [if_pos (by decide +kernel)]; kernel_rfl) | (rw [if_neg (by decide +kernel)]; exact ⟨rfl, rfl⟩))
  (fun os started H enc _ F => by rw [OpenClaim.pre_eq_preRow]; exact a7i os started H enc F)
theorem a8k (f : FuncId) (fn : Func) (hf : Tryz.pinned.checked.prog.funcNamed "gantry/gantlaw2.MoveTakes" = some f) (hfn : Tryz.pinned.checked.prog.funcs[f]? = some fn) :
  false = Tryz.pinned.checked.prog.looks [] /\ ∀ (j : Nat) t, fn.params[j]? = some t -> Tryz.pinned.checked.prog.wantsStandIn t = false := by
 obtain rfl : f = 9 := Option.some.inj ((show Tryz.prog.funcNamed "gantry/gantlaw2.MoveTakes" = some 9 by kernel_rfl).symm.trans hf) |>.symm
 obtain rfl : fn = Tryz.f9 := (Option.some.inj (Tryz.func9.symm.trans hfn)).symm
 refine ⟨by kernel_rfl, fun j t ht => ?_⟩
 rw [Tryz.params9] at ht
 have hm := Array.mem_of_getElem? ht
 simp only [List.mem_toArray, List.mem_cons, List.not_mem_nil, or_false] at hm
 rcases hm with rfl | rfl | rfl | rfl
 ·exact (show Tryz.prog.wantsStandIn 31 = false by kernel_rfl)
 ·exact (show Tryz.prog.wantsStandIn 37 = false by kernel_rfl)
 ·exact (show Tryz.prog.wantsStandIn 3 = false by kernel_rfl)
 ·exact (show Tryz.prog.wantsStandIn 3 = false by kernel_rfl)
theorem moveTakes_card : Rows.MoveTakesUptoCardSaid :=
 Claim7.holds_tied_plain_at .later [] _ _ _ _ a8o (fun _ h => by cases h) (by kernel_rfl) (fun _ h => by cases h) moveTakesUpto_row_tie rfl ⟨rfl, rfl⟩ (by kernel_rfl) rfl a8k (by kernel_rfl)
#print axioms moveTakes_card
end Go.Proofs.YtogfpjohjphngaaGreatDoor
