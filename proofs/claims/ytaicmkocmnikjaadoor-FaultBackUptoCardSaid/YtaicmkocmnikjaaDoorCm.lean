/- What the cards of the laws of faults share: the tables of the row, the arguments, the world of the witness. -/
import Derived.Test.YtaicmkocmnikjaaDoorFw
import Derived.Test.YtaicmkocmnikjaaDoorOpn
import Derived.Test.YtaicmkocmnikjaaDoorCards
import Derived.Test.YtaicmkocmnikjaaDoorTie
import Derived.Deep.DeepHandedRow
import Derived.Lib.LaidTab
import Derived.LaidMore
namespace Go.Proofs.YtaicmkocmnikjaaDoor
set_option linter.all false
open Go Go.RowKit Go.ChangeShapes Go.WideShapes Go.ChangeAt Eng
set_option maxRecDepth 10000

theorem own_knob : ownKnob Tryd.prog.godebug = none := by kernel_rfl
theorem laid_out : laidOutB Tryd.prog = true := by kernel_rfl
theorem gPow : Tryd.prog.globalNamed "internal/strconv.uint64pow10" = some 3 := by kernel_rfl
theorem pow_type : (Tryd.prog.globals[3]?).map (·.type) = some 105 := by kernel_rfl
theorem pow_cells : Tryd.prog.cellsOf 105 = 20 := by kernel_rfl
theorem pow_cell : Tryd.prog.cellsOf 88 = 1 := by kernel_rfl
theorem pow_array : Tryd.prog.underlying 105 = some (.array 20 88) := by kernel_rfl
theorem pow_int : Tryd.prog.underlying 88 = some (.int .u64) := by kernel_rfl

theorem met_tail {P : Program} {x : String × DataW Unit} {r : List (String × DataW Unit)} {w : World} (h : laidMet P (x :: r) w) : laidMet P r w := by
  obtain ⟨ps, ⟨g, t, cs, fuel, p, q, h1, h2, h3, h4, h5, rfl⟩, h6, h7⟩ := h
  exact ⟨q, h5, (List.nodup_append.1 h6).2.1, fun b off hy => h7 b off (List.mem_append_right _ hy)⟩
theorem pow_data : (Rows.laid_internal_strconv_uint64pow10 : DataW Unit) = Lib.tabData .u64 Lib.pow10Tab := by rfl

theorem tab10_of {W : World} {a b : String × DataW Unit} {rest : List (String × DataW Unit)} (h : laidMet Tryd.prog (a :: b :: ("internal/strconv.uint64pow10", Rows.laid_internal_strconv_uint64pow10) :: rest) W) : Tab10 W := by
  have h2 := met_tail (met_tail h)
  rw [pow_data] at h2
  exact Lib.tabIs_of_head gPow pow_type pow_array pow_int pow_cell pow_cells h2

/-! ### Faults as arguments -/
section
variable {H : Type} {enc : TypeId × Value → H} {W : World}
def FtOK (x : Ft) : Prop := I64 x.tick ∧ I64 x.kind ∧ I64 x.n
theorem ft_cells : Tryd.prog.cellsOf 28 = 3 := by kernel_rfl
theorem ft_struct : ∃ fs, Tryd.prog.underlying 28 = some (.struct fs) ∧ fs.toList.map (·.type) = [3, 3, 3] ∧ contig Tryd.prog fs.toList 0 = some (Tryd.prog.cellsOf 28) := ⟨_, Tryd.underlying28, rfl, by kernel_rfl⟩
theorem o_fault : Opens enc Tryd.prog W 28 Ft.enc FtOK fun _ => 1 := by
  obtain ⟨fs, h1, h2, h3⟩ := ft_struct
  refine (opens_struct h1 h2 h3 (opensP_cons (opens_int Tryd.underlying3) (opensP_cons (opens_int Tryd.underlying3) (opensP_cons (opens_int Tryd.underlying3) opensP_nil)))).imp ?_
  rintro ⟨a, b, c, _⟩ ⟨h1, h2, h3, _⟩
  exact ⟨⟨a, b, c⟩, rfl, ⟨h1, h2, h3⟩, by simp⟩
theorem o_faults : Opens enc Tryd.prog W 22 (fun f : List Ft => [fts f]) (fun f => ∀ x ∈ f, FtOK x) fun f => 1 + f.length := by
  refine (opens_slice Tryd.underlying22 ft_cells (by decide) (fun _ => rfl) o_fault).imp fun f hf => ⟨f, rfl, hf, ?_⟩
  have : ∀ l : List Ft, l.length = (l.map fun _ => 1).sum := by
    intro l
    induction l with
    | nil => rfl
    | cons x l ih => simp only [List.length_cons, List.map_cons, List.sum_cons, ih]; omega
  rw [this f]
  exact Nat.le_refl _
end


section
variable {H : Type} {enc : TypeId × Value → H} {W : World}
theorem sum_ones {α : Type} : ∀ l : List α, l.length = (l.map fun _ => 1).sum
  | [] => rfl
  | x :: l => by simp only [List.length_cons, List.map_cons, List.sum_cons, ← sum_ones l]; omega
theorem int_cells : Tryd.prog.cellsOf 3 = 1 := by kernel_rfl
theorem o_ints : Opens enc Tryd.prog W 33 (fun l : List Int => [.sl 1 (l.map fun n => [.v (.int .i64 n)])]) (fun l => ∀ x ∈ l, I64 x) fun l => 1 + l.length :=
  (opens_slice Tryd.underlying33 int_cells (by decide) (fun _ => rfl) (opens_int Tryd.underlying3)).imp fun f hf => ⟨f, rfl, hf, by rw [← sum_ones]; exact Nat.le_refl _⟩
end

/-- A WORLD FOR THE WITNESS: what the program's own start lays. -/
noncomputable def laidWorld (os : Os) : World := World.doorLaid Tryd.prog 400 os
end Go.Proofs.YtaicmkocmnikjaaDoor
