/- Laws of functions under a premise on the world (tables of the library). -/
import Derived.Test.YtaicmkocmnikjaaDoorVc
namespace Go.Proofs.YtaicmkocmnikjaaDoor.Eng
set_option linter.all false
open Go Go.RowKit

/-- what is said of the world outlasts every call that keeps its blocks -/
def Lasts (Pw : World → Prop) : Prop := ∀ w w' : World, w.heap.size ≤ w'.heap.size → (∀ b, b < w.heap.size → w'.heap[b]? = w.heap[b]?) → Pw w → Pw w'

/-- from trees to a tree, where the world is as it is said -/
def FSpecW (P : Program) (Pw : World → Prop) (f : Nat) (args : List C) (r : C) : Prop := ∀ (O : Nat → Prop) (w : World) (vs : List Value), Pw w → (∀ b, O b → b < w.heap.size) → FzL w O args vs →
  Calls P f vs.toArray w fun e w' => ∃ y, e = .returned y ∧ Below w.heap.size w w' ∧ Fz w' O r y

theorem FSpec.w {P : Program} {Pw : World → Prop} {f : Nat} {args : List C} {r : C} (h : FSpec P f args r) : FSpecW P Pw f args r := fun O w vs _ hO hA => h O w vs hO hA
theorem FSpecW.mono {P : Program} {Pw Pw' : World → Prop} {f : Nat} {args : List C} {r : C} (h : FSpecW P Pw f args r) (hp : ∀ w, Pw' w → Pw w) : FSpecW P Pw' f args r := fun O w vs hw hO hA => h O w vs (hp w hw) hO hA
theorem FSpecW.of {eff : Nat → Bool} {P : Program} {Pw : World → Prop} {f : Nat} {fn : Func} {ir : IFun} (hf : P.funcs[f]? = some fn) (hc : compF eff P fn = some ir) {args : List C} {r : C} (hn : args.length ≤ ir.ntmps)
    (h : ∀ w O, Pw w → S ⟨P, eff, ir.ntmps, w, fun _ => False, O, [], []⟩ (Fin P ir.results (Out ⟨P, eff, ir.ntmps, w, fun _ => False, O, [], []⟩ r)) ⟨frOf 0 args, []⟩ [.code ir.body]) : FSpecW P Pw f args r := by
  intro O w vs hw hO hargs
  exact enter hf hc O hO args hargs hn (h w O hw)

theorem CallP.specW {E : Ctx} {Pw : World → Prop} {rs : List Res} {p : Bool} {f : Nat} {args args' : List C} {r : C} (hown : E.own0 = fun _ => False) (hL : Lasts Pw) (hw : Pw E.w0) (hs : p = true → FSpecW E.P Pw f args' r) (hi : p = true → ImpL rs rs args args') (hcl : p = true → C.clL args' = true) : CallP E rs p f args r := by
  intro hp av ν w vs hR hav hF hD
  have hlt : ∀ b, OO av rs ν b → b < w.heap.size := fun b hb => by
    rcases hb with hb | hb
    · exact hR.av b hb
    · exact (hR.low b hb).1
  have hD' := (hi hp).den hR (Cut.of hR (kindOK_refl rs)) hD
  have et : ν.take rs.length = ν := by rw [← hR.len]; exact List.take_length
  rw [et] at hD'
  have hw' : Pw w := hL E.w0 w hF.size (fun b hb => hF.block b hb (by rw [hown]; exact fun h => h)) hw
  refine (hs hp (OO av rs ν) w vs hw' hlt (hD'.fz (hcl hp))).mono ?_
  rintro e w' ⟨y, rfl, h1, h2⟩
  exact ⟨y, rfl, h1, h2.den ν⟩
/-- called with a view of what is one's own, for a plain result -/
theorem CallP.viewW {E : Ctx} {Pw : World → Prop} {rs : List Res} {p : Bool} {f : Nat} {args args' : List C} {r : C} (hown : E.own0 = fun _ => False) (hL : Lasts Pw) (hw : Pw E.w0) (hs : p = true → FSpecW E.P Pw f args' r) (hi : p = true → ImpL rs [] args args') (hcl : p = true → C.clL args' = true) (hr : r.flat = true) : CallP E rs p f args r := by
  intro hp av ν w vs hR hav hF hD
  have hC : Cut av rs [] ν := Cut.of hR (by simp [kindOK])
  have hD' := (hi hp).den hR hC hD
  have hlt : ∀ b, OO av [] (ν.take ([] : List Res).length) b → b < w.heap.size := fun b hb => by
    rcases hC.sub b hb with hb | hb
    · exact hR.av b hb
    · exact (hR.low b hb).1
  have hw' : Pw w := hL E.w0 w hF.size (fun b hb => hF.block b hb (by rw [hown]; exact fun h => h)) hw
  refine (hs hp _ w vs hw' hlt (hD'.fz (hcl hp))).mono ?_
  rintro e w' ⟨y, rfl, h1, h2⟩
  exact ⟨y, rfl, h1, Fz.flat hr h2⟩

theorem Lasts.cell {ad : Addr} {Q : Value → Prop} : Lasts fun w => ∃ v, w.cell? ad = some v ∧ Q v := by
  rintro w w' hs hb ⟨v, hv, hq⟩
  refine ⟨v, ?_, hq⟩
  rw [← hv]
  exact World.cell?_of_block (hb _ (block_lt_of_cell hv))
theorem Lasts.and {A B : World → Prop} (ha : Lasts A) (hb : Lasts B) : Lasts fun w => A w ∧ B w := fun w w' h1 h2 h => ⟨ha w w' h1 h2 h.1, hb w w' h1 h2 h.2⟩
end Go.Proofs.YtaicmkocmnikjaaDoor.Eng
