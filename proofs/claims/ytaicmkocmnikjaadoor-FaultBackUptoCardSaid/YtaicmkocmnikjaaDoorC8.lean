/- Proved here: for every two lists of integers of which the reading is of bulk at most 1048576, the law gantkeep2.FaultBack returns true and leaves its arguments as they read before; the tables and the errors of the library that it reads are tied to the text of the program by the given tie. Conditions: none but those that the given statement itself has. -/
import Derived.Test.YtaicmkocmnikjaaDoorCt
import Derived.Test.YtaicmkocmnikjaaDoorF7
namespace Go.Proofs.YtaicmkocmnikjaaDoor
set_option linter.all false
open Go Go.RowKit Go.ChangeShapes Go.WideShapes Go.ChangeAt Eng
set_option maxRecDepth 10000

theorem faultBack_met (os : Os) (args : Array Value) : laidMet Tryd.prog Rows.faultBackUptoRow.laid ((laidWorldT os).forCall (fun _ _ => 0) ⟨#[], args, []⟩).memory :=
  laid_metT os args
theorem faultBack_contract (H : Type) (enc : TypeId × Value → H) (W : World) (base : Nat) (args : Array Value) (ds gs : List (DataW H)) (before : List MemPlace)
    (hval : ∀ (j : Nat) t v, Tryd.f6.params[j]? = some t → args[j]? = some v → Value.okWide Tryd.prog W .any base t v)
    (hW : DataW.Whole enc Tryd.prog Tryd.f6.params.toList Rows.faultBackSpec.vars false W args.toList ds gs before) (hk : Rows.uptoSmall H (ds ++ gs) = true) (hL : laidMetH Tryd.prog Rows.faultBackUptoRow.laid W) (hS : W.ShapedOpen Tryd.prog) :
    Calls Tryd.prog 6 args W fun e W' => ∃ v, e = .returned v ∧ Rows.faultBackSpec.post enc Tryd.prog Tryd.f6 false true false false W args v W' := by
  have hW' := hW
  obtain ⟨p, q, hA0, hV, rfl, hfz, hnd⟩ := hW
  have hA : DataW.TrodAll enc Tryd.prog W 0 (fun _ => true) true Tryd.f6.params.toList args.toList ds p := hA0
  rw [Tryd.params6] at hA hval
  obtain ⟨v0, vs0, d0, ds0, p0, q0, hargs, rfl, rfl, h0, r0⟩ := trodAll_cons hA
  obtain ⟨v1, vs1, d1, ds1, p1, q1, rfl, rfl, rfl, h1, r1⟩ := trodAll_cons r0
  obtain ⟨rfl, rfl, rfl⟩ := trodAll_nil r1
  obtain rfl : args = #[v0, v1] := by cases args; simp_all
  obtain ⟨rfl, rfl⟩ := trodVars_none hV
  have hb := bulk_cap hk
  obtain ⟨A0, n0, c0, rfl⟩ := okWide_slice Tryd.underlying33 (hval 0 33 v0 rfl rfl)
  obtain ⟨m0, h0⟩ := h0
  obtain ⟨raw, e0, _, k0, b0⟩ := o_ints _ _ _ h0
  have b0 : 1 + raw.length ≤ Rows.uptoBulk d0 := b0
  have e0 : FzL W noB [raws raw] [.slice A0 n0 c0] := e0
  simp only [FzL] at e0
  obtain ⟨y0, ys0, f0, g0, rfl⟩ := e0
  injection f0 with f0 _
  subst f0
  obtain ⟨A1, n1, c1, rfl⟩ := okWide_slice Tryd.underlying33 (hval 1 33 v1 rfl rfl)
  obtain ⟨m1, h1⟩ := h1
  obtain ⟨more, e1, _, k1, b1⟩ := o_ints _ _ _ h1
  have b1 : 1 + more.length ≤ Rows.uptoBulk d1 := b1
  have e1 : FzL W noB [raws more] [.slice A1 n1 c1] := e1
  simp only [FzL] at e1
  obtain ⟨y1, ys1, f1, g1, rfl⟩ := e1
  injection f1 with f1 _
  subst f1
  simp only [List.append_nil, List.cons_append, List.nil_append, Rows.uptoBulkAll] at hb
  have hF : FzL W noB [raws raw, raws more] [.slice A0 n0 c0, .slice A1 n1 c1] := by
    simp only [FzL]
    exact ⟨_, _, rfl, g0, ⟨_, _, rfl, g1, rfl⟩⟩
  refine (f_FaultBack raw more (by omega) (by omega) noB W _ (tabs_of hL hS) (fun _ h => h.elim) hF).mono fun e W' ⟨y, he, hbl, hy⟩ => ?_
  subst he
  simp only [Fz] at hy
  subst hy
  refine ⟨_, rfl, law_post laid_out (by
    intro t ht
    rw [Tryd.params6] at ht
    simp only [List.mem_cons, List.not_mem_nil, or_false] at ht
    rcases ht with rfl | rfl
    · exact ⟨by kernel_rfl, of_decide_eq_true (by kernel_rfl)⟩
    · exact ⟨by kernel_rfl, of_decide_eq_true (by kernel_rfl)⟩) (tb := 4) rfl Tryd.underlying4 rfl rfl hW' hbl⟩

theorem faultBack_reads (os : Os) {H : Type} (enc : TypeId × Value → H) : ∃ places, DataW.whole enc Tryd.prog ((laidWorldT os).forCall (fun _ _ => 0) ⟨#[], #[.slice none 0 0, .slice none 0 0], []⟩).memory Tryd.f6.params.toList Rows.faultBackSpec.vars false (#[.slice none 0 0, .slice none 0 0] : Array Value).toList 8 = some ([.nil, .nil], [], places) :=
  ⟨[], by kernel_rfl⟩

set_option maxRecDepth 100000 in
theorem faultBack_lifted (os : Os) (started : os.Started) (H : Type) (enc : TypeId × Value → H) (F : Stop.Interp) :
    ReturnsInHanded {} Tryd.checked os 6 .any ((Rows.OpenSpec.upto Rows.faultBackSpec).preRow enc Tryd.prog Tryd.f6 Rows.faultBackUptoRow.domain false Rows.faultBackUptoRow.laid) (((Rows.OpenSpec.upto Rows.faultBackSpec).at F).post enc Tryd.prog Tryd.f6 false true false false) := by
  obtain ⟨places, hx⟩ := faultBack_reads os enc
  refine returnsInHanded_of_row (C := Tryd.checked) (s := Rows.OpenSpec.upto Rows.faultBackSpec) own_knob started (by kernel_rfl) Tryd.func6
    (witness_zip (enc := enc) (C := Tryd.checked) false (laidWorldT os) #[.slice none 0 0, .slice none 0 0] rfl (by kernel_rfl) (by kernel_rfl) (by kernel_rfl)
      (OpenSpec.preRow_of_cond 8 hx (by kernel_rfl) (fun k hk => by cases hk; kernel_rfl) (by kernel_rfl) (faultBack_met os _))) ?_
  intro W base args ds gs before hval hW _ hcond _ hL hS _
  exact faultBack_contract H enc W base args ds gs before hval hW (hcond _ rfl) hL hS

theorem faultBack_over : Rows.FaultBackUptoSaid :=
  OpenClaim.holds_of_cond 6 Tryd.f6 rfl rfl rfl rfl rfl rfl rfl ⟨rfl, rfl, rfl, rfl, rfl⟩ rfl rfl rfl rfl rfl (by kernel_rfl) Tryd.func6 (by kernel_rfl)
    (of_decide_eq_true (by kernel_rfl)) (by unfold Func.isWrapper; first | (rw [if_pos (by decide +kernel)]; kernel_rfl) | (rw [if_neg (by decide +kernel)]; exact ⟨rfl, rfl⟩))
    (fun os started H enc _ F => by rw [OpenClaim.pre_eq_preRow]; exact faultBack_lifted os started H enc F)

theorem faultBack_plain (f : FuncId) (fn : Func) (hf : Tryd.pinned.checked.prog.funcNamed "gantry/gantkeep2.FaultBack" = some f) (hfn : Tryd.pinned.checked.prog.funcs[f]? = some fn) :
    true = Tryd.pinned.checked.prog.looks [] ∧ ∀ (j : Nat) t, fn.params[j]? = some t → Tryd.pinned.checked.prog.wantsStandIn t = false := by
  obtain rfl : f = 6 := Option.some.inj ((show Tryd.prog.funcNamed "gantry/gantkeep2.FaultBack" = some 6 by kernel_rfl).symm.trans hf) |>.symm
  obtain rfl : fn = Tryd.f6 := (Option.some.inj (Tryd.func6.symm.trans hfn)).symm
  refine ⟨by kernel_rfl, fun j t ht => ?_⟩
  rw [Tryd.params6] at ht
  have hm := Array.mem_of_getElem? ht
  simp only [List.mem_toArray, List.mem_cons, List.not_mem_nil, or_false] at hm
  rcases hm with rfl | rfl
  · exact (show Tryd.prog.wantsStandIn 33 = false by kernel_rfl)
  · exact (show Tryd.prog.wantsStandIn 33 = false by kernel_rfl)

theorem faultBack_card : Rows.FaultBackUptoCardSaid :=
  Claim7.holds_tied_plain_at .later [] _ _ _ _ faultBack_over (fun _ h => by cases h) (by kernel_rfl) (fun _ h => by cases h) faultBackUpto_row_tie rfl ⟨rfl, rfl⟩ (by kernel_rfl) rfl faultBack_plain (by kernel_rfl)
#print axioms faultBack_card
end Go.Proofs.YtaicmkocmnikjaaDoor
