/- Proved here: for every list of faults and every three integers of which the reading is of bulk at most 1048576, the law gantlaw2.FaultChecks returns true and leaves its arguments as they read before; the tables of the library that it reads are tied to the program's text by the given tie. Conditions: none but those that the given statement itself has. -/
import Derived.Test.YtaicmkocmnikjaaDoorF4
import Derived.Test.YtaicmkocmnikjaaDoorOpn
import Derived.Test.YtaicmkocmnikjaaDoorCards
import Derived.Test.YtaicmkocmnikjaaDoorTie
import Derived.Deep.DeepHandedRow
import Derived.Lib.LaidTab
import Derived.LaidMore
namespace Go.Proofs.YtaicmkocmnikjaaDoor
set_option linter.all false
open Go Go.RowKit Go.ChangeShapes Go.WideShapes Go.ChangeAt Eng
set_option maxRecDepth 10000

theorem own_knob : ownKnob Tryd.prog.godebug = none := by kernel_rfl
theorem laid_out : laidOutB Tryd.prog = true := by kernel_rfl
theorem gPow : Tryd.prog.globalNamed "internal/strconv.uint64pow10" = some 3 := by kernel_rfl
theorem pow_type : (Tryd.prog.globals[3]?).map (·.type) = some 105 := by kernel_rfl
theorem pow_cells : Tryd.prog.cellsOf 105 = 20 := by kernel_rfl
theorem pow_cell : Tryd.prog.cellsOf 88 = 1 := by kernel_rfl
theorem pow_array : Tryd.prog.underlying 105 = some (.array 20 88) := by kernel_rfl
theorem pow_int : Tryd.prog.underlying 88 = some (.int .u64) := by kernel_rfl

theorem met_tail {P : Program} {x : String × DataW Unit} {r : List (String × DataW Unit)} {w : World} (h : laidMet P (x :: r) w) : laidMet P r w := by
  obtain ⟨ps, ⟨g, t, cs, fuel, p, q, h1, h2, h3, h4, h5, rfl⟩, h6, h7⟩ := h
  exact ⟨q, h5, (List.nodup_append.1 h6).2.1, fun b off hy => h7 b off (List.mem_append_right _ hy)⟩
theorem pow_data : (Rows.laid_internal_strconv_uint64pow10 : DataW Unit) = Lib.tabData .u64 Lib.pow10Tab := by rfl

theorem tab10_of {W : World} {a b : String × DataW Unit} {rest : List (String × DataW Unit)} (h : laidMet Tryd.prog (a :: b :: ("internal/strconv.uint64pow10", Rows.laid_internal_strconv_uint64pow10) :: rest) W) : Tab10 W := by
  have h2 := met_tail (met_tail h)
  rw [pow_data] at h2
  exact Lib.tabIs_of_head gPow pow_type pow_array pow_int pow_cell pow_cells h2

/-! ### Faults as arguments -/
section
variable {H : Type} {enc : TypeId × Value → H} {W : World}
def FtOK (x : Ft) : Prop := I64 x.tick ∧ I64 x.kind ∧ I64 x.n
theorem ft_cells : Tryd.prog.cellsOf 28 = 3 := by kernel_rfl
theorem ft_struct : ∃ fs, Tryd.prog.underlying 28 = some (.struct fs) ∧ fs.toList.map (·.type) = [3, 3, 3] ∧ contig Tryd.prog fs.toList 0 = some (Tryd.prog.cellsOf 28) := ⟨_, Tryd.underlying28, rfl, by kernel_rfl⟩
theorem o_fault : Opens enc Tryd.prog W 28 Ft.enc FtOK fun _ => 1 := by
  obtain ⟨fs, h1, h2, h3⟩ := ft_struct
  refine (opens_struct h1 h2 h3 (opensP_cons (opens_int Tryd.underlying3) (opensP_cons (opens_int Tryd.underlying3) (opensP_cons (opens_int Tryd.underlying3) opensP_nil)))).imp ?_
  rintro ⟨a, b, c, _⟩ ⟨h1, h2, h3, _⟩
  exact ⟨⟨a, b, c⟩, rfl, ⟨h1, h2, h3⟩, by simp⟩
theorem o_faults : Opens enc Tryd.prog W 22 (fun f : List Ft => [fts f]) (fun f => ∀ x ∈ f, FtOK x) fun f => 1 + f.length := by
  refine (opens_slice Tryd.underlying22 ft_cells (by decide) (fun _ => rfl) o_fault).imp fun f hf => ⟨f, rfl, hf, ?_⟩
  have : ∀ l : List Ft, l.length = (l.map fun _ => 1).sum := by
    intro l
    induction l with
    | nil => rfl
    | cons x l ih => simp only [List.length_cons, List.map_cons, List.sum_cons, ih]; omega
  rw [this f]
  exact Nat.le_refl _
end

theorem faultChecks_contract (H : Type) (enc : TypeId × Value → H) (W : World) (base : Nat) (args : Array Value) (ds gs : List (DataW H)) (before : List MemPlace)
    (hval : ∀ (j : Nat) t v, Tryd.f3.params[j]? = some t → args[j]? = some v → Value.okWide Tryd.prog W .any base t v)
    (hW : DataW.Whole enc Tryd.prog Tryd.f3.params.toList Rows.faultChecksSpec.vars false W args.toList ds gs before) (hk : Rows.uptoSmall H (ds ++ gs) = true) (hL : laidMetH Tryd.prog Rows.faultChecksUptoRow.laid W) :
    Calls Tryd.prog 3 args W fun e W' => ∃ v, e = .returned v ∧ Rows.faultChecksSpec.post enc Tryd.prog Tryd.f3 false true false false W args v W' := by
  have hW' := hW
  obtain ⟨p, q, hA0, hV, rfl, hfz, hnd⟩ := hW
  have hA : DataW.TrodAll enc Tryd.prog W 0 (fun _ => true) true Tryd.f3.params.toList args.toList ds p := hA0
  rw [Tryd.params3] at hA hval
  obtain ⟨v0, vs0, d0, ds0, p0, q0, hargs, rfl, rfl, h0, r0⟩ := trodAll_cons hA
  obtain ⟨v1, vs1, d1, ds1, p1, q1, rfl, rfl, rfl, h1, r1⟩ := trodAll_cons r0
  obtain ⟨v2, vs2, d2, ds2, p2, q2, rfl, rfl, rfl, h2, r2⟩ := trodAll_cons r1
  obtain ⟨v3, vs3, d3, ds3, p3, q3, rfl, rfl, rfl, h3, r3⟩ := trodAll_cons r2
  obtain ⟨rfl, rfl, rfl⟩ := trodAll_nil r3
  obtain rfl : args = #[v0, v1, v2, v3] := by cases args; simp_all
  obtain ⟨rfl, rfl⟩ := trodVars_none hV
  have hb := bulk_cap hk
  obtain ⟨A, n, c, rfl⟩ := okWide_slice Tryd.underlying22 (hval 0 22 v0 rfl rfl)
  obtain ⟨arms, rfl, rfl, rfl, wa⟩ := open_int Tryd.underlying3 (hval 1 3 v1 rfl rfl) h1
  obtain ⟨nn, rfl, rfl, rfl, wn⟩ := open_int Tryd.underlying3 (hval 2 3 v2 rfl rfl) h2
  obtain ⟨tick, rfl, rfl, rfl, wt⟩ := open_int Tryd.underlying3 (hval 3 3 v3 rfl rfl) h3
  obtain ⟨n0, h0⟩ := h0
  obtain ⟨f, e0, _, k0, m0⟩ := o_faults _ _ _ h0
  have m0 : 1 + f.length ≤ Rows.uptoBulk d0 := m0
  simp only [List.append_nil, List.cons_append, List.nil_append, Rows.uptoBulkAll] at hb
  have hF : FzL W noB [fts f, ints arms, ints nn, ints tick] [.slice A n c, .int .i64 arms, .int .i64 nn, .int .i64 tick] := by
    have e1 : FzL W noB [fts f] [.slice A n c] := e0
    simp only [FzL] at e1 ⊢
    obtain ⟨y, ys, e2, e3, rfl⟩ := e1
    injection e2 with e2 _
    subst e2
    exact ⟨_, _, rfl, e3, _, _, rfl, by simp only [ints, Fz], _, _, rfl, by simp only [ints, Fz], _, _, rfl, by simp only [ints, Fz], rfl⟩
  have ha : arms ≤ 9223372036854775807 := by
    have : I64 arms := by simpa [Lit.wf, IntKind.min, IntKind.max, IntKind.signed, IntKind.bits, I64] using wa
    exact this.2
  refine (f_FaultChecks f arms nn tick (by omega) ha noB W _ (tab10_of hL) (fun _ h => h.elim) hF).mono fun e W' ⟨y, he, hbl, hy⟩ => ?_
  subst he
  simp only [Fz] at hy
  subst hy
  refine ⟨_, rfl, law_post laid_out (by
    intro t ht
    rw [Tryd.params3] at ht
    simp only [List.mem_cons, List.not_mem_nil, or_false] at ht
    rcases ht with rfl | rfl | rfl | rfl
    · exact ⟨by kernel_rfl, of_decide_eq_true (by kernel_rfl)⟩
    · exact ⟨by kernel_rfl, of_decide_eq_true (by kernel_rfl)⟩
    · exact ⟨by kernel_rfl, of_decide_eq_true (by kernel_rfl)⟩
    · exact ⟨by kernel_rfl, of_decide_eq_true (by kernel_rfl)⟩) (tb := 4) rfl Tryd.underlying4 rfl rfl hW' hbl⟩

/-- A WORLD FOR THE WITNESS: what the program's own start lays. -/
noncomputable def laidWorld (os : Os) : World := World.doorLaid Tryd.prog 400 os
theorem laid_met (os : Os) (args : Array Value) : laidMet Tryd.prog Rows.faultChecksUptoRow.laid ((laidWorld os).forCall (fun _ _ => 0) ⟨#[], args, []⟩).memory :=
  laidMet_of_run' 8 (by kernel_rfl) (by kernel_rfl)

theorem faultChecks_reads (os : Os) {H : Type} (enc : TypeId × Value → H) : ∃ places, DataW.whole enc Tryd.prog ((laidWorld os).forCall (fun _ _ => 0) ⟨#[], #[.slice none 0 0, .int .i64 0, .int .i64 0, .int .i64 0], []⟩).memory Tryd.f3.params.toList Rows.faultChecksSpec.vars false #[Value.slice none 0 0, .int .i64 0, .int .i64 0, .int .i64 0].toList 8 = some ([.nil, .lit (.int .i64 0), .lit (.int .i64 0), .lit (.int .i64 0)], [], places) :=
  ⟨[], by kernel_rfl⟩

set_option maxRecDepth 100000 in
theorem faultChecks_lifted (os : Os) (started : os.Started) (H : Type) (enc : TypeId × Value → H) (F : Stop.Interp) :
    ReturnsInHanded {} Tryd.checked os 3 .any ((Rows.OpenSpec.upto Rows.faultChecksSpec).preRow enc Tryd.prog Tryd.f3 Rows.faultChecksUptoRow.domain false Rows.faultChecksUptoRow.laid) (((Rows.OpenSpec.upto Rows.faultChecksSpec).at F).post enc Tryd.prog Tryd.f3 false true false false) := by
  obtain ⟨places, hx⟩ := faultChecks_reads os enc
  refine returnsInHanded_of_row (C := Tryd.checked) (s := Rows.OpenSpec.upto Rows.faultChecksSpec) own_knob started (by kernel_rfl) Tryd.func3
    (witness_row_at (enc := enc) (C := Tryd.checked) false (laidWorld os) #[.slice none 0 0, .int .i64 0, .int .i64 0, .int .i64 0] rfl (by kernel_rfl) (by kernel_rfl) (by kernel_rfl)
      (OpenSpec.preRow_of_cond 8 hx (by kernel_rfl) (fun k hk => by cases hk; kernel_rfl) (by kernel_rfl) (laid_met os _))) ?_
  intro W base args ds gs before hval hW _ hcond _ hL _ _
  exact faultChecks_contract H enc W base args ds gs before hval hW (hcond _ rfl) hL

theorem faultChecks_over : Rows.FaultChecksUptoSaid :=
  OpenClaim.holds_of_cond 3 Tryd.f3 rfl rfl rfl rfl rfl rfl rfl ⟨rfl, rfl, rfl, rfl, rfl⟩ rfl rfl rfl rfl rfl (by kernel_rfl) Tryd.func3 (by kernel_rfl)
    (of_decide_eq_true (by kernel_rfl)) (by unfold Func.isWrapper; first | (rw [if_pos (by decide +kernel)]; kernel_rfl) | (rw [if_neg (by decide +kernel)]; exact ⟨rfl, rfl⟩))
    (fun os started H enc _ F => by rw [OpenClaim.pre_eq_preRow]; exact faultChecks_lifted os started H enc F)

theorem faultChecks_plain (f : FuncId) (fn : Func) (hf : Tryd.pinned.checked.prog.funcNamed "gantry/gantlaw2.FaultChecks" = some f) (hfn : Tryd.pinned.checked.prog.funcs[f]? = some fn) :
    true = Tryd.pinned.checked.prog.looks [] ∧ ∀ (j : Nat) t, fn.params[j]? = some t → Tryd.pinned.checked.prog.wantsStandIn t = false := by
  obtain rfl : f = 3 := Option.some.inj ((show Tryd.prog.funcNamed "gantry/gantlaw2.FaultChecks" = some 3 by kernel_rfl).symm.trans hf) |>.symm
  obtain rfl : fn = Tryd.f3 := (Option.some.inj (Tryd.func3.symm.trans hfn)).symm
  refine ⟨by kernel_rfl, fun j t ht => ?_⟩
  rw [Tryd.params3] at ht
  have hm := Array.mem_of_getElem? ht
  simp only [List.mem_toArray, List.mem_cons, List.not_mem_nil, or_false] at hm
  have h1 : Tryd.prog.wantsStandIn 22 = false := by kernel_rfl
  have h2 : Tryd.prog.wantsStandIn 3 = false := by kernel_rfl
  rcases hm with rfl | rfl | rfl | rfl
  · exact h1
  · exact h2
  · exact h2
  · exact h2

theorem faultChecks_card : Rows.FaultChecksUptoCardSaid :=
  Claim7.holds_tied_plain_at .later [] _ _ _ _ faultChecks_over (fun _ h => by cases h) (by kernel_rfl) (fun _ h => by cases h) faultChecksUpto_row_tie rfl ⟨rfl, rfl⟩ (by kernel_rfl) rfl faultChecks_plain (by kernel_rfl)
#print axioms faultChecks_card
end Go.Proofs.YtaicmkocmnikjaaDoor
