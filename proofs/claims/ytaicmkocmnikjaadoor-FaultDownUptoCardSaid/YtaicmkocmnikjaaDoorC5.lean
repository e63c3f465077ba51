/- Proved here: for every list of integers and every two integers of which the reading is of bulk at most 1048576, the law gantkeep2.FaultDown returns true and leaves its arguments as they read before; the tables of the library that it reads are tied to the text of the program by the given tie. Conditions: none but those that the given statement itself has. -/
import Derived.Test.YtaicmkocmnikjaaDoorF5
import Derived.Test.YtaicmkocmnikjaaDoorCm
namespace Go.Proofs.YtaicmkocmnikjaaDoor
set_option linter.all false
open Go Go.RowKit Go.ChangeShapes Go.WideShapes Go.ChangeAt Eng
set_option maxRecDepth 10000

theorem faultDown_met (os : Os) (args : Array Value) : laidMet Tryd.prog Rows.faultDownUptoRow.laid ((laidWorld os).forCall (fun _ _ => 0) ⟨#[], args, []⟩).memory :=
  laidMet_of_run' 8 (by kernel_rfl) (by kernel_rfl)
theorem faultDown_contract (H : Type) (enc : TypeId × Value → H) (W : World) (base : Nat) (args : Array Value) (ds gs : List (DataW H)) (before : List MemPlace)
    (hval : ∀ (j : Nat) t v, Tryd.f4.params[j]? = some t → args[j]? = some v → Value.okWide Tryd.prog W .any base t v)
    (hW : DataW.Whole enc Tryd.prog Tryd.f4.params.toList Rows.faultDownSpec.vars false W args.toList ds gs before) (hk : Rows.uptoSmall H (ds ++ gs) = true) (hL : laidMetH Tryd.prog Rows.faultDownUptoRow.laid W) (hS : W.ShapedOpen Tryd.prog) :
    Calls Tryd.prog 4 args W fun e W' => ∃ v, e = .returned v ∧ Rows.faultDownSpec.post enc Tryd.prog Tryd.f4 false true false false W args v W' := by
  have hW' := hW
  obtain ⟨p, q, hA0, hV, rfl, hfz, hnd⟩ := hW
  have hA : DataW.TrodAll enc Tryd.prog W 0 (fun _ => true) true Tryd.f4.params.toList args.toList ds p := hA0
  rw [Tryd.params4] at hA hval
  obtain ⟨v0, vs0, d0, ds0, p0, q0, hargs, rfl, rfl, h0, r0⟩ := trodAll_cons hA
  obtain ⟨v1, vs1, d1, ds1, p1, q1, rfl, rfl, rfl, h1, r1⟩ := trodAll_cons r0
  obtain ⟨v2, vs2, d2, ds2, p2, q2, rfl, rfl, rfl, h2, r2⟩ := trodAll_cons r1
  obtain ⟨rfl, rfl, rfl⟩ := trodAll_nil r2
  obtain rfl : args = #[v0, v1, v2] := by cases args; simp_all
  obtain ⟨rfl, rfl⟩ := trodVars_none hV
  have hb := bulk_cap hk
  obtain ⟨A0, n0, c0, rfl⟩ := okWide_slice Tryd.underlying33 (hval 0 33 v0 rfl rfl)
  obtain ⟨m0, h0⟩ := h0
  obtain ⟨raw, e0, _, k0, b0⟩ := o_ints _ _ _ h0
  have b0 : 1 + raw.length ≤ Rows.uptoBulk d0 := b0
  have e0 : FzL W noB [raws raw] [.slice A0 n0 c0] := e0
  simp only [FzL] at e0
  obtain ⟨y0, ys0, f0, g0, rfl⟩ := e0
  injection f0 with f0 _
  subst f0
  obtain ⟨n, rfl, rfl, rfl, w1⟩ := open_int Tryd.underlying3 (hval 1 3 v1 rfl rfl) h1
  have hn : I64 n := by simpa [Lit.wf, IntKind.min, IntKind.max, IntKind.signed, IntKind.bits, I64] using w1
  obtain ⟨tick, rfl, rfl, rfl, w2⟩ := open_int Tryd.underlying3 (hval 2 3 v2 rfl rfl) h2
  have htick : I64 tick := by simpa [Lit.wf, IntKind.min, IntKind.max, IntKind.signed, IntKind.bits, I64] using w2
  simp only [List.append_nil, List.cons_append, List.nil_append, Rows.uptoBulkAll] at hb
  have hF : FzL W noB [raws raw, ints n, ints tick] [.slice A0 n0 c0, .int .i64 n, .int .i64 tick] := by
    simp only [FzL]
    exact ⟨_, _, rfl, g0, ⟨_, _, rfl, by simp only [ints, Fz], ⟨_, _, rfl, by simp only [ints, Fz], rfl⟩⟩⟩
  refine (f_FaultDown raw n tick (by omega) noB W _ (tab10_of hL) (fun _ h => h.elim) hF).mono fun e W' ⟨y, he, hbl, hy⟩ => ?_
  subst he
  simp only [Fz] at hy
  subst hy
  refine ⟨_, rfl, law_post laid_out (by
    intro t ht
    rw [Tryd.params4] at ht
    simp only [List.mem_cons, List.not_mem_nil, or_false] at ht
    rcases ht with rfl | rfl | rfl
    · exact ⟨by kernel_rfl, of_decide_eq_true (by kernel_rfl)⟩
    · exact ⟨by kernel_rfl, of_decide_eq_true (by kernel_rfl)⟩
    · exact ⟨by kernel_rfl, of_decide_eq_true (by kernel_rfl)⟩) (tb := 4) rfl Tryd.underlying4 rfl rfl hW' hbl⟩

theorem faultDown_reads (os : Os) {H : Type} (enc : TypeId × Value → H) : ∃ places, DataW.whole enc Tryd.prog ((laidWorld os).forCall (fun _ _ => 0) ⟨#[], #[.slice none 0 0, .int .i64 0, .int .i64 0], []⟩).memory Tryd.f4.params.toList Rows.faultDownSpec.vars false (#[.slice none 0 0, .int .i64 0, .int .i64 0] : Array Value).toList 8 = some ([.nil, .lit (.int .i64 0), .lit (.int .i64 0)], [], places) :=
  ⟨[], by kernel_rfl⟩

set_option maxRecDepth 100000 in
theorem faultDown_lifted (os : Os) (started : os.Started) (H : Type) (enc : TypeId × Value → H) (F : Stop.Interp) :
    ReturnsInHanded {} Tryd.checked os 4 .any ((Rows.OpenSpec.upto Rows.faultDownSpec).preRow enc Tryd.prog Tryd.f4 Rows.faultDownUptoRow.domain false Rows.faultDownUptoRow.laid) (((Rows.OpenSpec.upto Rows.faultDownSpec).at F).post enc Tryd.prog Tryd.f4 false true false false) := by
  obtain ⟨places, hx⟩ := faultDown_reads os enc
  refine returnsInHanded_of_row (C := Tryd.checked) (s := Rows.OpenSpec.upto Rows.faultDownSpec) own_knob started (by kernel_rfl) Tryd.func4
    (witness_row_at (enc := enc) (C := Tryd.checked) false (laidWorld os) #[.slice none 0 0, .int .i64 0, .int .i64 0] rfl (by kernel_rfl) (by kernel_rfl) (by kernel_rfl)
      (OpenSpec.preRow_of_cond 8 hx (by kernel_rfl) (fun k hk => by cases hk; kernel_rfl) (by kernel_rfl) (faultDown_met os _))) ?_
  intro W base args ds gs before hval hW _ hcond _ hL hS _
  exact faultDown_contract H enc W base args ds gs before hval hW (hcond _ rfl) hL hS

theorem faultDown_over : Rows.FaultDownUptoSaid :=
  OpenClaim.holds_of_cond 4 Tryd.f4 rfl rfl rfl rfl rfl rfl rfl ⟨rfl, rfl, rfl, rfl, rfl⟩ rfl rfl rfl rfl rfl (by kernel_rfl) Tryd.func4 (by kernel_rfl)
    (of_decide_eq_true (by kernel_rfl)) (by unfold Func.isWrapper; first | (rw [if_pos (by decide +kernel)]; kernel_rfl) | (rw [if_neg (by decide +kernel)]; exact ⟨rfl, rfl⟩))
    (fun os started H enc _ F => by rw [OpenClaim.pre_eq_preRow]; exact faultDown_lifted os started H enc F)

theorem faultDown_plain (f : FuncId) (fn : Func) (hf : Tryd.pinned.checked.prog.funcNamed "gantry/gantkeep2.FaultDown" = some f) (hfn : Tryd.pinned.checked.prog.funcs[f]? = some fn) :
    true = Tryd.pinned.checked.prog.looks [] ∧ ∀ (j : Nat) t, fn.params[j]? = some t → Tryd.pinned.checked.prog.wantsStandIn t = false := by
  obtain rfl : f = 4 := Option.some.inj ((show Tryd.prog.funcNamed "gantry/gantkeep2.FaultDown" = some 4 by kernel_rfl).symm.trans hf) |>.symm
  obtain rfl : fn = Tryd.f4 := (Option.some.inj (Tryd.func4.symm.trans hfn)).symm
  refine ⟨by kernel_rfl, fun j t ht => ?_⟩
  rw [Tryd.params4] at ht
  have hm := Array.mem_of_getElem? ht
  simp only [List.mem_toArray, List.mem_cons, List.not_mem_nil, or_false] at hm
  rcases hm with rfl | rfl | rfl
  · exact (show Tryd.prog.wantsStandIn 33 = false by kernel_rfl)
  · exact (show Tryd.prog.wantsStandIn 3 = false by kernel_rfl)
  · exact (show Tryd.prog.wantsStandIn 3 = false by kernel_rfl)

theorem faultDown_card : Rows.FaultDownUptoCardSaid :=
  Claim7.holds_tied_plain_at .later [] _ _ _ _ faultDown_over (fun _ h => by cases h) (by kernel_rfl) (fun _ h => by cases h) faultDownUpto_row_tie rfl ⟨rfl, rfl⟩ (by kernel_rfl) rfl faultDown_plain (by kernel_rfl)
#print axioms faultDown_card
end Go.Proofs.YtaicmkocmnikjaaDoor
