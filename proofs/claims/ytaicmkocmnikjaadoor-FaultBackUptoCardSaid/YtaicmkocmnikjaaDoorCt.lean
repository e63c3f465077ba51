/- What the cards of the texts' laws share: what the listed variables give, and the world of the witness. -/
import Derived.Test.YtaicmkocmnikjaaDoorCm
import Derived.Test.YtaicmkocmnikjaaDoorRd
import Derived.Stop.LaidErr
import Derived.Shelf.Vars
import Derived.Deep.DeepWitnessRowRef
import Derived.Lay
namespace Go.Proofs.YtaicmkocmnikjaaDoor
set_option linter.all false
open Go Go.RowKit Go.ChangeShapes Go.WideShapes Go.ChangeAt Eng
set_option maxRecDepth 10000

theorem gSyn : Tryd.prog.globalNamed "strconv.ErrSyntax" = some 1 := by kernel_rfl
theorem gRng : Tryd.prog.globalNamed "strconv.ErrRange" = some 2 := by kernel_rfl
theorem synType : (Tryd.prog.globals[1]?).map (·.type) = some 59 := by kernel_rfl
theorem rngType : (Tryd.prog.globals[2]?).map (·.type) = some 59 := by kernel_rfl

/-- an interface variable that is listed holds an interface value -/
theorem iface_var {n nm : String} {d : DataW Unit} {rest : List (String × DataW Unit)} {W : World} {g : Nat} {ti : TypeId} {ms : Array (String × TypeId)} (h : laidMet Tryd.prog ((n, .iface nm d) :: rest) W)
    (hg : Tryd.prog.globalNamed n = some g) (ht : (Tryd.prog.globals[g]?).map (·.type) = some ti) (hi : Tryd.prog.underlying ti = some (.interface ms)) : ∃ v, W.cell? ⟨g, 0, none⟩ = some v ∧ isErr v := by
  obtain ⟨ps, ⟨g0, t0, cs0, f0, p0, q0, hg0, ht0, hv0, hd0, _, e0⟩, _, hrows⟩ := h
  obtain rfl := Option.some.inj (hg.symm.trans hg0)
  obtain rfl := Option.some.inj (ht.symm.trans ht0)
  have hcell := fun i => World.var?_cell hg0 hv0 i
  cases f0 with
  | zero => simp [DataW.trod] at hd0
  | succ f0 =>
    unfold DataW.trod at hd0
    rw [hi] at hd0
    split at hd0 <;> (try (simp at hd0; done))
    all_goals first
      | (rename_i heq hcs; cases heq; done)
      | (rename_i heq hcs hne; cases heq; done)
      | (have h0 := hcell 0
         rw [← Array.getElem?_toList] at h0
         simp_all [isErr]; done)
      | trace_state
theorem maxlen_cell {W : World} (hS : W.ShapedOpen Tryd.prog) : ∃ v, W.cell? ⟨0, 0, none⟩ = some v ∧ ∃ m, v = .int .i64 m := by
  obtain ⟨m, h⟩ := cell_of_shapedOpen_int (g := 0) (t := 3) (zero := #[.int .i64 0]) hS (of_decide_eq_true (by kernel_rfl)) (by kernel_rfl) rfl (by kernel_rfl) (by kernel_rfl) Tryd.underlying3
  exact ⟨_, h, m, rfl⟩
theorem tabs_of {W : World} {a b d : String × DataW Unit} {x y : DataW Unit} {n m : String} {rest : List (String × DataW Unit)} (h : laidMet Tryd.prog (a :: b :: ("internal/strconv.uint64pow10", Rows.laid_internal_strconv_uint64pow10) :: d :: ("strconv.ErrRange", .iface n x) :: ("strconv.ErrSyntax", .iface m y) :: rest) W) (hS : W.ShapedOpen Tryd.prog) : Tabs W := by
  have h4 := met_tail (met_tail (met_tail (met_tail h)))
  refine ⟨tab10_of h, maxlen_cell hS, iface_var (met_tail h4) gSyn synType Tryd.underlying59, iface_var h4 gRng rngType Tryd.underlying59⟩
/-- A WORLD FOR THE WITNESS: the listed variables laid. -/
noncomputable def laidWorldT (os : Os) : World := World.laidAll Tryd.prog os Rows.faultTextsUptoRow.laid
theorem laid_metT (os : Os) (args : Array Value) : laidMet Tryd.prog Rows.faultTextsUptoRow.laid ((laidWorldT os).forCall (fun _ _ => 0) ⟨#[], args, []⟩).memory :=
  laidMet_laidAll args (by kernel_rfl) (by kernel_rfl)
theorem witness_zip {H : Type} {enc : TypeId × Value → H} {C : Checked} {os : Os} {f : FuncId} {fn : Func} {s : OpenSpec} {conds : List PathCond} {apart : Bool} {laid : List (String × DataW Unit)} (modest : Bool) (w0 : World) (args : Array Value) (hos : w0.os = os)
    (hv : (w0.forCall (fun _ _ => 0) ⟨#[], args, []⟩).variablesZipB C.prog = true)
    (hr : ((w0.forCall (fun _ _ => 0) ⟨#[], args, []⟩).heap.toList.drop C.prog.globals.size).take ((begin C.prog (fun _ _ => 0) default).world.heap.size - C.prog.globals.size) =
      (begin C.prog (fun _ _ => 0) default).world.heap.toList.drop C.prog.globals.size)
    (hok : Input.okWideB C.prog (w0.forCall (fun _ _ => 0) ⟨#[], args, []⟩) f ⟨#[], args, []⟩ = true)
    (hrow : s.preRow enc C.prog fn conds apart laid (w0.forCall (fun _ _ => 0) ⟨#[], args, []⟩).memory args) :
    ∃ (w : World) (tape : Tape) (i : Input), w.os = os ∧ (w.forCall tape i).Shaped C.prog ∧ i.vars = [] ∧ Input.okWide C.prog (w.forCall tape i) .any w.heap.size f i ∧
      s.preRow enc C.prog fn conds apart laid (w.forCall tape i).memory i.args ∧ ({ modest := modest } : Assume).holds C.prog (lone (Frame.enter C.prog f i.args .normal) [] (w.forCall tape i)) :=
  ⟨w0, fun _ _ => 0, ⟨#[], args, []⟩, hos, World.shaped_of_ZipB hv hr, (Input.okWide_of_okWideB (base := 0) hok).1, (Input.okWide_of_okWideB hok).2, hrow, by
    simp only [Assume.holds]
    exact ⟨by simp, by simp, fun _ => Modest.zero, by simp, by simp⟩⟩
end Go.Proofs.YtaicmkocmnikjaaDoor
