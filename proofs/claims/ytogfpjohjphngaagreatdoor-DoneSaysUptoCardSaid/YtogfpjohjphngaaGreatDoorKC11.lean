/- Proved here: for every works, every state, every two integers and every list of wants of which the reading is of bulk at most 1048576, the law gantlaw2.DoneSays returns true and leaves its arguments as they read before; the tables of the library that it reads are tied to the text of the program by the given tie. Conditions: none but those that the given statement itself has. -/
import Derived.Test.YtogfpjohjphngaaGreatDoorPk6
set_option linter.all false
namespace Go.Proofs.YtogfpjohjphngaaGreatDoor
open Go Go.RowKit Go.ChangeShapes Go.WideShapes Go.ChangeAt Eng
set_option maxRecDepth 10000
set_option maxRecDepth 100000 in
theorem a9b (os : Os) (started : os.Started) (H : Type) (enc : TypeId × Value -> H) (F : Stop.Interp) :
  ReturnsInHanded {} Tryz.checked os 6 .any ((Rows.OpenSpec.upto Rows.doneSaysSpec).preRow enc Tryz.prog Tryz.f6 Rows.doneSaysUptoRow.domain false Rows.doneSaysUptoRow.laid) (((Rows.OpenSpec.upto Rows.doneSaysSpec).at F).post enc Tryz.prog Tryz.f6 false true false false) := by
 obtain ⟨places, hx⟩ := a9Z os enc
 refine returnsInHanded_of_row (C := Tryz.checked) (s := Rows.OpenSpec.upto Rows.doneSaysSpec) b9m started (by kernel_rfl) Tryz.func6
  (b4U (enc := enc) (C := Tryz.checked) false (laidWorldU os) #[.agg #[.slice none 0 0, .slice none 0 0, .slice none 0 0, .slice none 0 0, .slice none 0 0, .bool false, .string ⟨#[]⟩, .string ⟨#[]⟩], .agg #[.int .i64 0, .slice none 0 0, .slice none 0 0, .slice none 0 0, .slice none 0 0], .int .i64 0, .int .i64 0, .slice none 0 0] rfl (by kernel_rfl) (by kernel_rfl) (by kernel_rfl)
   (OpenSpec.preRow_of_cond 8 hx (by kernel_rfl) (fun k hk => by cases hk; kernel_rfl) (by kernel_rfl) (b3f os _))) ?_
 intro W base args ds gs before hval hW _ hcond _ hL hS _
 exact a7w H enc W base args ds gs before hval hW (hcond _ rfl) hL hS
theorem b1s : Rows.DoneSaysUptoSaid :=
 OpenClaim.holds_of_cond 6 Tryz.f6 rfl rfl rfl rfl rfl rfl rfl ⟨rfl, rfl, rfl, rfl, rfl⟩ rfl rfl rfl rfl rfl (by kernel_rfl) Tryz.func6 (by kernel_rfl)
  (of_decide_eq_true (by kernel_rfl)) (by unfold Func.isWrapper; first | (rw [if_pos (by decide +kernel)]; kernel_rfl) | (rw [if_neg (by decide +kernel)]; exact ⟨rfl, rfl⟩))
  (fun os started H enc _ F => by rw [OpenClaim.pre_eq_preRow]; exact a9b os started H enc F)
theorem b0j (f : FuncId) (fn : Func) (hf : Tryz.pinned.checked.prog.funcNamed "gantry/gantlaw2.DoneSays" = some f) (hfn : Tryz.pinned.checked.prog.funcs[f]? = some fn) :
  false = Tryz.pinned.checked.prog.looks [] /\ ∀ (j : Nat) t, fn.params[j]? = some t -> Tryz.pinned.checked.prog.wantsStandIn t = false := by
 obtain rfl : f = 6 := Option.some.inj ((show Tryz.prog.funcNamed "gantry/gantlaw2.DoneSays" = some 6 by kernel_rfl).symm.trans hf) |>.symm
 obtain rfl : fn = Tryz.f6 := (Option.some.inj (Tryz.func6.symm.trans hfn)).symm
 refine ⟨by kernel_rfl, fun j t ht => ?_⟩
 rw [Tryz.params6] at ht
 have hm := Array.mem_of_getElem? ht
 simp only [List.mem_toArray, List.mem_cons, List.not_mem_nil, or_false] at hm
 rcases hm with rfl | rfl | rfl | rfl | rfl
 ·exact (show Tryz.prog.wantsStandIn 31 = false by kernel_rfl)
 ·exact (show Tryz.prog.wantsStandIn 37 = false by kernel_rfl)
 ·exact (show Tryz.prog.wantsStandIn 3 = false by kernel_rfl)
 ·exact (show Tryz.prog.wantsStandIn 3 = false by kernel_rfl)
 ·exact (show Tryz.prog.wantsStandIn 98 = false by kernel_rfl)
theorem doneSays_card : Rows.DoneSaysUptoCardSaid :=
 Claim7.holds_tied_plain_at .later [] _ _ _ _ b1s (fun _ h => by cases h) (by kernel_rfl) (fun _ h => by cases h) doneSaysUpto_row_tie rfl ⟨rfl, rfl⟩ (by kernel_rfl) rfl b0j (by kernel_rfl)
#print axioms doneSays_card
end Go.Proofs.YtogfpjohjphngaaGreatDoor
