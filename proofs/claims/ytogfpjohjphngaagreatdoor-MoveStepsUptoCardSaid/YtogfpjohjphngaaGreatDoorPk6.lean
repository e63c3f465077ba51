/- A part of the proof: lemmas only, with the conditions that each names. -/
import Derived.Test.YtogfpjohjphngaaGreatDoorProg
import Derived.KernelRfl
import Derived.Deep.DeepWitnessRowRef
import Derived.Lay
import Derived.Test.YtogfpjohjphngaaGreatDoorPk5
set_option linter.all false
namespace Go.Proofs.YtogfpjohjphngaaGreatDoor
open Go Go.RowKit Go.ChangeShapes Go.WideShapes Go.ChangeAt Eng
set_option maxRecDepth 10000
theorem b2G {α : Type} {f : α -> Nat} : ∀ {l : List α} {x : α}, x ∈ l -> f x <= (l.map f).sum
 | y :: l, x, h => by
  rw [c1F, c2e]
  rcases List.mem_cons.1 h with rfl | h
  ·omega
  ·have := b2G (f := f) h; omega
theorem a8x {α : Type} {f : α -> Nat} (hf : ∀ x, 1 <= f x) : ∀ (l : List α), l.length <= (l.map f).sum
 | [] => c1w _
 | y :: l => by
  have h1 := hf y
  have h2 := a8x hf l
  rw [c1F, c2e, c1J]; omega
def rtM (a : Nm.Rt) : Nat := 3 + a.num.length + a.den.length
def vtM (v : Vt) : Nat := rtM v.x + rtM v.y
def frM (f : Fr) : Nat := rtM f.x + rtM f.y + rtM f.t
def lsM {α : Type} (f : α -> Nat) (l : List α) : Nat := 1 + (l.map f).sum
def lkM (l : Lk) : Nat := rtM l.length + rtM l.low + rtM l.high + rtM l.speed + rtM l.brake + lsM vtM l.shape
def amM (a : Am) : Nat := a.name.length + frM a.base + lsM lkM a.links
def ptM (p : Pt) : Nat := p.name.length + lsM vtM p.shape + frM p.grasp
def slM (s : Sl) : Nat := s.name.length + frM s.frame + rtM s.within
def gtM (g : Gt) : Nat := g.name.length + vtM g.low + vtM g.high
def wkM (w : Wk) : Nat := lsM amM w.arms + lsM (lsM vtM) w.walls + lsM ptM w.parts + lsM slM w.slots + lsM gtM w.gates + rtM w.walk
def asM (x : Ast) : Nat := lsM rtM x.q + lsM rtM x.v + 1
def stM (s : Stt) : Nat := lsM asM s.arms + lsM frM s.parts + lsM vtM s.people + lsM (fun _ => 1) s.gates + 1
theorem a1t {a : Nm.Rt} {k : Nat} (h : rtM a <= k) : Rb k a := by unfold rtM at h; exact ⟨by omega, by omega⟩
theorem b6y {a : Vt} {k : Nat} (h : vtM a <= k) : Vb k a := by unfold vtM at h; exact ⟨a1t (by omega), a1t (by omega)⟩
theorem b3W {a : Fr} {k : Nat} (h : frM a <= k) : Fb k a := by unfold frM at h; exact ⟨a1t (by omega), a1t (by omega), a1t (by omega)⟩
theorem a1L {α : Type} {f : α -> Nat} {l : List α} {k : Nat} (hf : ∀ x, 1 <= f x) (h : lsM f l <= k) : l.length <= k /\ ∀ x ∈ l, f x <= k := by
 unfold lsM at h
 have := a8x hf l
 exact ⟨by omega, fun x hx => by have := b2G (f := f) hx; omega⟩
theorem a1k (a : Nm.Rt) : 1 <= rtM a := by unfold rtM; omega
theorem a8p (a : Vt) : 1 <= vtM a := by have := a1k a.x; unfold vtM; omega
theorem a4K (a : Fr) : 1 <= frM a := by have := a1k a.x; unfold frM; omega
theorem b2F {α : Type} (f : α -> Nat) (l : List α) : 1 <= lsM f l := by unfold lsM; omega
theorem b9d (a : Lk) : 1 <= lkM a := by have := a1k a.length; unfold lkM; omega
theorem b7V (a : Am) : 1 <= amM a := by have := a4K a.base; unfold amM; omega
theorem b8n (a : Pt) : 1 <= ptM a := by have := a4K a.grasp; unfold ptM; omega
theorem b8U (a : Sl) : 1 <= slM a := by have := a4K a.frame; unfold slM; omega
theorem b8l (a : Gt) : 1 <= gtM a := by have := a8p a.low; unfold gtM; omega
theorem b2T (a : Ast) : 1 <= asM a := by unfold asM; omega
theorem a7D {l : List Vt} {k : Nat} (h : lsM vtM l <= k) : Vbs k l := by
 obtain ⟨h1, h2⟩ := a1L a8p h
 exact ⟨h1, fun x hx => b6y (h2 x hx)⟩
theorem c0W {w : Wk} {k : Nat} (h : wkM w <= k) : Wb k w := by
 unfold wkM at h
 obtain ⟨a1, a2⟩ := a1L b7V (show lsM amM w.arms <= k by omega)
 obtain ⟨b1, b2⟩ := a1L (b2F vtM) (show lsM (lsM vtM) w.walls <= k by omega)
 obtain ⟨c1, c2⟩ := a1L b8n (show lsM ptM w.parts <= k by omega)
 obtain ⟨d1, d2⟩ := a1L b8U (show lsM slM w.slots <= k by omega)
 obtain ⟨e1, e2⟩ := a1L b8l (show lsM gtM w.gates <= k by omega)
 refine ⟨⟨a1, fun x hx => ?_⟩, ⟨b1, fun x hx => a7D (b2 x hx)⟩, ⟨c1, fun x hx => ?_⟩, ⟨d1, fun x hx => ?_⟩, ⟨e1, fun x hx => ?_⟩, a1t (by omega)⟩
 ·have := a2 x hx
  unfold amM at this
  obtain ⟨f1, f2⟩ := a1L b9d (show lsM lkM x.links <= k by omega)
  refine ⟨by omega, b3W (by omega), f1, fun l hl => ?_⟩
  have := f2 l hl
  unfold lkM at this
  exact ⟨a1t (by omega), a1t (by omega), a1t (by omega), a1t (by omega), a1t (by omega), a7D (by omega)⟩
 ·have := c2 x hx
  unfold ptM at this
  exact ⟨by omega, a7D (by omega), b3W (by omega)⟩
 ·have := d2 x hx
  unfold slM at this
  exact ⟨by omega, b3W (by omega), a1t (by omega)⟩
 ·have := e2 x hx
  unfold gtM at this
  exact ⟨by omega, b6y (by omega), b6y (by omega)⟩
theorem c1b {s : Stt} {k : Nat} (h : stM s <= k) : Stb k s := by
 unfold stM at h
 obtain ⟨a1, a2⟩ := a1L b2T (show lsM asM s.arms <= k by omega)
 obtain ⟨b1, b2⟩ := a1L a4K (show lsM frM s.parts <= k by omega)
 obtain ⟨c1, _⟩ := a1L (fun _ => c1w _) (show lsM (fun _ => 1) s.gates <= k by omega)
 refine ⟨⟨a1, fun x hx => ?_⟩, ⟨b1, fun x hx => b3W (b2 x hx)⟩, a7D (by omega), c1⟩
 have := a2 x hx
 unfold asM at this
 obtain ⟨d1, d2⟩ := a1L a1k (show lsM rtM x.q <= k by omega)
 obtain ⟨e1, e2⟩ := a1L a1k (show lsM rtM x.v <= k by omega)
 exact ⟨⟨d1, fun r hr => a1t (d2 r hr)⟩, e1, fun r hr => a1t (e2 r hr)⟩
section
variable {H : Type} {enc : TypeId × Value -> H} {W : World}
theorem o_b : Opens enc Tryz.prog W 4 (fun b : Bool => [.v (.bool b)]) (fun _ => True) fun _ => 1 := b3P Tryz.underlying4
theorem o_i : Opens enc Tryz.prog W 3 (fun n : Int => [.v (.int .i64 n)]) I64 fun _ => 1 := b5u Tryz.underlying3
theorem o_s : Opens enc Tryz.prog W 9 (fun l : List UInt8 => [sb l]) (fun _ => True) fun l => l.length + 1 :=
 (b4S Tryz.underlying9).imp fun s _ => ⟨s.data.toList, by simp only [sb, b9h], trivial, by have h : s.data.toList.length = s.size := (by cases s; simp [ByteArray.size]); omega⟩
theorem b4r : ∃ fs, Tryz.prog.underlying 29 = some (.struct fs) /\ fs.toList.map (·.type) = [4, 9, 9] /\ P7 Tryz.prog fs.toList 0 = some (Tryz.prog.cellsOf 29) := ⟨_, Tryz.underlying29, rfl, by kernel_rfl⟩
theorem b6c : Tryz.prog.cellsOf 29 = 3 := by kernel_rfl
theorem a3Q : Opens enc Tryz.prog W 29 rcs (fun _ => True) rtM := by
 obtain ⟨fs, h1, h2, h3⟩ := b4r
 refine (I7 h1 h2 h3 (p8 o_b (p8 o_s (p8 o_s L8)))).imp ?_
 rintro ⟨a, b, c, _⟩ hok
 exact ⟨⟨a, b, c⟩, rfl, trivial, by simp only [rtM]; omega⟩
theorem b5k : ∃ fs, Tryz.prog.underlying 51 = some (.struct fs) /\ fs.toList.map (·.type) = [29, 29] /\ P7 Tryz.prog fs.toList 0 = some (Tryz.prog.cellsOf 51) := ⟨_, Tryz.underlying51, rfl, by kernel_rfl⟩
theorem b7j : Tryz.prog.cellsOf 51 = 6 := by kernel_rfl
theorem b3w : Opens enc Tryz.prog W 51 Vt.enc (fun _ => True) vtM := by
 obtain ⟨fs, h1, h2, h3⟩ := b5k
 refine (I7 h1 h2 h3 (p8 a3Q (p8 a3Q L8))).imp ?_
 rintro ⟨a, b, _⟩ hok
 exact ⟨⟨a, b⟩, rfl, trivial, by simp only [vtM]; omega⟩
theorem b4F : ∃ fs, Tryz.prog.underlying 53 = some (.struct fs) /\ fs.toList.map (·.type) = [4, 29] /\ P7 Tryz.prog fs.toList 0 = some (Tryz.prog.cellsOf 53) := ⟨_, Tryz.underlying53, rfl, by kernel_rfl⟩
theorem c0V : Opens enc Tryz.prog W 53 (fun p : Bool × Nm.Rt => .v (.bool p.1) :: rcs p.2) (fun _ => True) fun p => rtM p.2 := by
 obtain ⟨fs, h1, h2, h3⟩ := b4F
 refine (I7 h1 h2 h3 (p8 o_b (p8 a3Q L8))).imp ?_
 rintro ⟨a, b, _⟩ hok
 exact ⟨⟨a, b⟩, rfl, trivial, by simp only; omega⟩
theorem b5E : ∃ fs, Tryz.prog.underlying 55 = some (.struct fs) /\ fs.toList.map (·.type) = [51, 53] /\ P7 Tryz.prog fs.toList 0 = some (Tryz.prog.cellsOf 55) := ⟨_, Tryz.underlying55, rfl, by kernel_rfl⟩
theorem b6x : Tryz.prog.cellsOf 55 = 10 := by kernel_rfl
theorem b4g : Opens enc Tryz.prog W 55 Fr.enc (fun _ => True) frM := by
 obtain ⟨fs, h1, h2, h3⟩ := b5E
 refine (I7 h1 h2 h3 (p8 b3w (p8 c0V L8))).imp ?_
 rintro ⟨⟨x, y⟩, ⟨h, t⟩, _⟩ hok
 exact ⟨⟨x, y, h, t⟩, rfl, trivial, by simp only [frM, vtM]; omega⟩
theorem a7F : Opens enc Tryz.prog W 34 (fun l => [vts l]) (fun _ => True) (lsM vtM) :=
 (K9 Tryz.underlying34 b7j (by decide) (fun _ => rfl) b3w).imp fun l hl => ⟨l, rfl, trivial, c1w _⟩
theorem b4V : Tryz.prog.cellsOf 34 = 1 := by kernel_rfl
theorem b4w : ∃ fs, Tryz.prog.underlying 158 = some (.struct fs) /\ fs.toList.map (·.type) = [29, 29, 29, 29, 29, 34] /\ P7 Tryz.prog fs.toList 0 = some (Tryz.prog.cellsOf 158) := ⟨_, Tryz.underlying158, rfl, by kernel_rfl⟩
theorem b6q : Tryz.prog.cellsOf 158 = 16 := by kernel_rfl
theorem c1d : Opens enc Tryz.prog W 158 Lk.enc (fun _ => True) lkM := by
 obtain ⟨fs, h1, h2, h3⟩ := b4w
 refine (I7 h1 h2 h3 (p8 a3Q (p8 a3Q (p8 a3Q (p8 a3Q (p8 a3Q (p8 a7F L8))))))).imp ?_
 rintro ⟨a, b, c, d, e, f, _⟩ hok
 exact ⟨⟨a, b, c, d, e, f⟩, rfl, trivial, by simp only [lkM]; omega⟩
theorem c0B : Opens enc Tryz.prog W 74 (fun l => [lks l]) (fun _ => True) (lsM lkM) :=
 (K9 Tryz.underlying74 b6q (by decide) (fun _ => rfl) c1d).imp fun l hl => ⟨l, rfl, trivial, c1w _⟩
theorem b5U : ∃ fs, Tryz.prog.underlying 76 = some (.struct fs) /\ fs.toList.map (·.type) = [9, 55, 74] /\ P7 Tryz.prog fs.toList 0 = some (Tryz.prog.cellsOf 76) := ⟨_, Tryz.underlying76, rfl, by kernel_rfl⟩
theorem b7u : Tryz.prog.cellsOf 76 = 12 := by kernel_rfl
theorem c0Z : Opens enc Tryz.prog W 76 Am.enc (fun _ => True) amM := by
 obtain ⟨fs, h1, h2, h3⟩ := b5U
 refine (I7 h1 h2 h3 (p8 o_s (p8 b4g (p8 c0B L8)))).imp ?_
 rintro ⟨a, b, c, _⟩ hok
 exact ⟨⟨a, b, c⟩, rfl, trivial, by simp only [amM]; omega⟩
theorem c0D : Opens enc Tryz.prog W 23 (fun l => [ams l]) (fun _ => True) (lsM amM) :=
 (K9 Tryz.underlying23 b7u (by decide) (fun _ => rfl) c0Z).imp fun l hl => ⟨l, rfl, trivial, c1w _⟩
theorem c0x : Opens enc Tryz.prog W 24 (fun l => [wls l]) (fun _ => True) (lsM (lsM vtM)) :=
 (K9 Tryz.underlying24 b4V (by decide) (fun _ => rfl) a7F).imp fun l hl => ⟨l, rfl, trivial, c1w _⟩
theorem b5v : ∃ fs, Tryz.prog.underlying 80 = some (.struct fs) /\ fs.toList.map (·.type) = [9, 34, 55] /\ P7 Tryz.prog fs.toList 0 = some (Tryz.prog.cellsOf 80) := ⟨_, Tryz.underlying80, rfl, by kernel_rfl⟩
theorem b6b : Tryz.prog.cellsOf 80 = 12 := by kernel_rfl
theorem c1c : Opens enc Tryz.prog W 80 Pt.enc (fun _ => True) ptM := by
 obtain ⟨fs, h1, h2, h3⟩ := b5v
 refine (I7 h1 h2 h3 (p8 o_s (p8 a7F (p8 b4g L8)))).imp ?_
 rintro ⟨a, b, c, _⟩ hok
 exact ⟨⟨a, b, c⟩, rfl, trivial, by simp only [ptM]; omega⟩
theorem c0H : Opens enc Tryz.prog W 25 (fun l => [pts l]) (fun _ => True) (lsM ptM) :=
 (K9 Tryz.underlying25 b6b (by decide) (fun _ => rfl) c1c).imp fun l hl => ⟨l, rfl, trivial, c1w _⟩
theorem b5y : ∃ fs, Tryz.prog.underlying 57 = some (.struct fs) /\ fs.toList.map (·.type) = [9, 55, 29] /\ P7 Tryz.prog fs.toList 0 = some (Tryz.prog.cellsOf 57) := ⟨_, Tryz.underlying57, rfl, by kernel_rfl⟩
theorem b6Z : Tryz.prog.cellsOf 57 = 14 := by kernel_rfl
theorem c0P : Opens enc Tryz.prog W 57 Sl.enc (fun _ => True) slM := by
 obtain ⟨fs, h1, h2, h3⟩ := b5y
 refine (I7 h1 h2 h3 (p8 o_s (p8 b4g (p8 a3Q L8)))).imp ?_
 rintro ⟨a, b, c, _⟩ hok
 exact ⟨⟨a, b, c⟩, rfl, trivial, by simp only [slM]; omega⟩
theorem c0J : Opens enc Tryz.prog W 26 (fun l => [sls l]) (fun _ => True) (lsM slM) :=
 (K9 Tryz.underlying26 b6Z (by decide) (fun _ => rfl) c0P).imp fun l hl => ⟨l, rfl, trivial, c1w _⟩
theorem b5G : ∃ fs, Tryz.prog.underlying 114 = some (.struct fs) /\ fs.toList.map (·.type) = [51, 51] /\ P7 Tryz.prog fs.toList 0 = some (Tryz.prog.cellsOf 114) := ⟨_, Tryz.underlying114, rfl, by kernel_rfl⟩
theorem c0X : Opens enc Tryz.prog W 114 (fun p : Vt × Vt => p.1.enc ++ p.2.enc) (fun _ => True) fun p => vtM p.1 + vtM p.2 := by
 obtain ⟨fs, h1, h2, h3⟩ := b5G
 refine (I7 h1 h2 h3 (p8 b3w (p8 b3w L8))).imp ?_
 rintro ⟨a, b, _⟩ hok
 exact ⟨⟨a, b⟩, rfl, trivial, by simp only; omega⟩
theorem b4N : ∃ fs, Tryz.prog.underlying 116 = some (.struct fs) /\ fs.toList.map (·.type) = [9, 114] /\ P7 Tryz.prog fs.toList 0 = some (Tryz.prog.cellsOf 116) := ⟨_, Tryz.underlying116, rfl, by kernel_rfl⟩
theorem b7k : Tryz.prog.cellsOf 116 = 13 := by kernel_rfl
theorem c1i : Opens enc Tryz.prog W 116 Gt.enc (fun _ => True) gtM := by
 obtain ⟨fs, h1, h2, h3⟩ := b4N
 refine (I7 h1 h2 h3 (p8 o_s (p8 c0X L8))).imp ?_
 rintro ⟨a, ⟨b, c⟩, _⟩ hok
 exact ⟨⟨a, b, c⟩, rfl, trivial, by simp only [gtM]; omega⟩
theorem c0I : Opens enc Tryz.prog W 27 (fun l => [gts l]) (fun _ => True) (lsM gtM) :=
 (K9 Tryz.underlying27 b7k (by decide) (fun _ => rfl) c1i).imp fun l hl => ⟨l, rfl, trivial, c1w _⟩
theorem b4W : ∃ fs, Tryz.prog.underlying 31 = some (.struct fs) /\ fs.toList.map (·.type) = [23, 24, 25, 26, 27, 29] /\ P7 Tryz.prog fs.toList 0 = some (Tryz.prog.cellsOf 31) := ⟨_, Tryz.underlying31, rfl, by kernel_rfl⟩
theorem c1j : Opens enc Tryz.prog W 31 Wk.enc (fun _ => True) wkM := by
 obtain ⟨fs, h1, h2, h3⟩ := b4W
 refine (I7 h1 h2 h3 (p8 c0D (p8 c0x (p8 c0H (p8 c0J (p8 c0I (p8 a3Q L8))))))).imp ?_
 rintro ⟨a, b, c, d, e, f, _⟩ hok
 exact ⟨⟨a, b, c, d, e, f⟩, rfl, trivial, by simp only [wkM]; omega⟩
theorem b3O : Opens enc Tryz.prog W 88 (fun l => [rts l]) (fun _ => True) (lsM rtM) :=
 (K9 Tryz.underlying88 b6c (by decide) (fun _ => rfl) a3Q).imp fun l hl => ⟨l, rfl, trivial, c1w _⟩
theorem b5o : ∃ fs, Tryz.prog.underlying 90 = some (.struct fs) /\ fs.toList.map (·.type) = [88, 88, 4, 3] /\ P7 Tryz.prog fs.toList 0 = some (Tryz.prog.cellsOf 90) := ⟨_, Tryz.underlying90, rfl, by kernel_rfl⟩
theorem b6v : Tryz.prog.cellsOf 90 = 4 := by kernel_rfl
theorem c0Q : Opens enc Tryz.prog W 90 Ast.enc (Aok) asM := by
 obtain ⟨fs, h1, h2, h3⟩ := b5o
 refine (I7 h1 h2 h3 (p8 b3O (p8 b3O (p8 o_b (p8 o_i L8))))).imp ?_
 rintro ⟨a, b, c, d, _⟩ hok
 exact ⟨⟨a, b, c, d⟩, rfl, hok.2.2.2.1, by simp only [asM]; omega⟩
theorem b9N : Opens enc Tryz.prog W 32 (fun l => [E8 l]) (fun l => ∀ x ∈ l, Aok x) (lsM asM) :=
 (K9 Tryz.underlying32 b6v (by decide) (fun _ => rfl) c0Q).imp fun l hl => ⟨l, rfl, hl, c1w _⟩
theorem c0p : Opens enc Tryz.prog W 33 (fun l => [frs l]) (fun _ => True) (lsM frM) :=
 (K9 Tryz.underlying33 b6x (by decide) (fun _ => rfl) b4g).imp fun l hl => ⟨l, rfl, trivial, c1w _⟩
theorem b8M : Tryz.prog.cellsOf 4 = 1 := by kernel_rfl
theorem b7z : Opens enc Tryz.prog W 35 (fun l => [bls l]) (fun _ => True) (lsM fun _ => 1) :=
 (K9 Tryz.underlying35 b8M (by decide) (fun _ => rfl) o_b).imp fun l hl => ⟨l, rfl, trivial, c1w _⟩
theorem b5W : ∃ fs, Tryz.prog.underlying 37 = some (.struct fs) /\ fs.toList.map (·.type) = [3, 32, 33, 34, 35] /\ P7 Tryz.prog fs.toList 0 = some (Tryz.prog.cellsOf 37) := ⟨_, Tryz.underlying37, rfl, by kernel_rfl⟩
theorem c1f : Opens enc Tryz.prog W 37 Stt.enc (Sok) stM := by
 obtain ⟨fs, h1, h2, h3⟩ := b5W
 refine (I7 h1 h2 h3 (p8 o_i (p8 b9N (p8 c0p (p8 a7F (p8 b7z L8)))))).imp ?_
 rintro ⟨a, b, c, d, e, _⟩ hok
 exact ⟨⟨a, b, c, d, e⟩, rfl, ⟨hok.1, hok.2.1⟩, by simp only [stM]; omega⟩
end
theorem b2x (u : Nat) : (V6 u).length <= u + 1 := by
 induction u using V6.induct with
 | case1 u h => rw [a8s h]; simp
 | case2 u h ih => rw [a6x h, c1J]; omega
theorem a3Z (b : Bool) : (a2C b).length = 1 := by cases b <;> rfl
theorem b2s (n : Int) : (a5R n).length <= 10 := b7o n
theorem b0Y (l : List UInt8) : (a5B l).length <= 2 * l.length + 1 := by
 have := b2x l.length
 unfold a5B; rw [c1p]; omega
theorem a2q (a : Nm.Rt) : (U5 a).length <= 10 * rtM a := by
 have h1 := b0Y a.num
 have h2 := b0Y a.den
 have h3 := a3Z a.neg
 unfold U5 rtM; simp only [c1p]; omega
theorem a2h {α : Type} {f : α -> List UInt8} {m : α -> Nat} {c : Nat} (hm : ∀ x, 1 <= m x) (h : ∀ x, (f x).length <= c * m x) (l : List α) : (J5 f l).length <= (c + 1) * lsM m l := by
 have h1 : ∀ l : List α, (l.flatMap f).length <= c * (l.map m).sum := fun l => by
  induction l with
  | nil => simp
  | cons x l ih =>
   have := h x
   rw [List.flatMap_cons, c1p, c1F, c2e, Nat.mul_add]; omega
 have h2 := b2x l.length
 have h3 := a8x hm l
 have h4 := h1 l
 unfold J5 lsM
 rw [c1p, Nat.add_mul, Nat.mul_add, Nat.mul_add]
 omega
theorem b8V (s : Stt) : (a2Y s).length <= 40 * stM s := by
 have h1 := b2s s.tick
 have h2 : ∀ x : Ast, (a5g x).length <= 22 * asM x := fun x => by
  have a1 := a2h a1k a2q x.q
  have a2 := a2h a1k a2q x.v
  have a3 := a3Z x.power
  have a4 := b2s (IntKind.i64.wrap (x.holds + 1))
  unfold a5g asM; simp only [c1p]; omega
 have h3 : ∀ f : Fr, (frB f).length <= 11 * frM f := fun f => by
  have a1 := a2q f.x
  have a2 := a2q f.y
  have a3 := a3Z f.half
  have a4 := a2q f.t
  have := a1k f.x
  unfold frB frM; simp only [c1p]; omega
 have h4 : ∀ v : Vt, (a4o v).length <= 10 * vtM v := fun f => by
  have a1 := a2q f.x
  have a2 := a2q f.y
  unfold a4o vtM; simp only [c1p]; omega
 have b2 := a2h b2T h2 s.arms
 have b3 := a2h a4K h3 s.parts
 have b4 := a2h a8p h4 s.people
 have b5 := a2h (f := a2C) (m := fun _ => 1) (c := 1) (fun _ => c1w _) (fun b => by rw [a3Z]; omega) s.gates
 unfold a2Y stM; simp only [c1p]; omega
open Go Go.RowKit Eng
theorem a4z {α : Type} {f : α -> Nat} {n b : Nat} : ∀ {l : List α}, l.length <= n -> (∀ x ∈ l, f x <= b) -> lsM f l <= 1 + n * b := by
 intro l hn hb
 have h1 : ∀ l : List α, (∀ x ∈ l, f x <= b) -> (l.map f).sum <= l.length * b := fun l => by
  induction l with
  | nil => intro _; simp
  | cons x l ih =>
   intro h
   have h2 := h x (by simp)
   have h3 := ih fun y hy => h y (by simp [hy])
   rw [c1F, c2e, c1J, Nat.add_mul]; omega
 have h2 := h1 l hb
 have h3 := c1T b hn
 unfold lsM; omega
structure Stc (k : Nat) (s : Stt) : Prop where
 arms : s.arms.length <= 4 /\ ∀ x ∈ s.arms, (x.q.length <= 3 /\ ∀ r ∈ x.q, Rb k r) /\ (x.v.length <= 3 /\ ∀ r ∈ x.v, Rb k r)
 parts : s.parts.length <= 6 /\ ∀ f ∈ s.parts, Fb k f
 people : s.people.length <= 4 /\ ∀ v ∈ s.people, Vb k v
 gates : s.gates.length <= 4
theorem b9v {s : Stt} {k : Nat} (h : Stc k s) : stM s <= 100 * (2 * k + 3) + 100 := by
 obtain ⟨⟨a1, a2⟩, ⟨b1, b2⟩, ⟨c1, c2⟩, d1⟩ := h
 have hr : ∀ r : Nm.Rt, Rb k r -> rtM r <= 2 * k + 3 := fun r hr => by have := hr.1; have := hr.2; unfold rtM; omega
 generalize 2 * k + 3 = m at *
 have e1 := a4z (f := asM) (b := 6 * m + 3) a1 fun x hx => by
  obtain ⟨⟨q1, q2⟩, v1, v2⟩ := a2 x hx
  have f1 := a4z q1 fun r h => hr r (q2 r h)
  have f2 := a4z v1 fun r h => hr r (v2 r h)
  unfold asM; omega
 have e2 := a4z (f := frM) (b := 3 * m) b1 fun f hf => by
  obtain ⟨f1, f2, f3⟩ := b2 f hf
  have := hr _ f1; have := hr _ f2; have := hr _ f3
  unfold frM; omega
 have e3 := a4z (f := vtM) (b := 2 * m) c1 fun v hv => by
  obtain ⟨f1, f2⟩ := c2 v hv
  have := hr _ f1; have := hr _ f2
  unfold vtM; omega
 have e4 := a4z (f := fun _ : Bool => 1) (b := 1) d1 fun _ _ => c1w _
 unfold stM; omega
theorem b2u {s : Stt} (h : Stc 4294967296 s) : (a2Y s).length <= 140737488355328 := by
 have h1 := b9v h
 have h2 := b8V s
 omega
open Go Eng
set_option maxRecDepth 100000
set_option maxHeartbeats 16000000
theorem c0i {w : Wk} {q : List Nm.Rt} {a : Am} {pt : Pt} (hwb : Wb 1048576 w) (gp : pt ∈ w.parts) (ha : J2 a = 0) (hql : q.length = a.links.length) (hq : ∀ r ∈ q, Rb 2097664 r) : Fb 4294967296 (a1j a q pt.grasp) := by
 obtain ⟨p, hp⟩ := List.getElem?_of_mem gp
 obtain ⟨fb, lb⟩ := b1d ha
 have h3 : (a.links.zip q).length <= 3 := by have := (a1h ha).2; rw [List.length_zip]; omega
 have ht := b4c (a.links.zip q) a.base 0 fb (by omega) fun y hy => ⟨lb _ (List.of_mem_zip hy).1, hq _ (List.of_mem_zip hy).2⟩
 have hc := a8H (show 0 + (a.links.zip q).length <= 3 by omega)
 obtain ⟨k1, k2, k3⟩ := b4P (hwb.parts.2 pt gp).2.2
 obtain ⟨r1, r2, r3⟩ := a7n ht.1 ht.2.1 ht.2.2 k1 k2 k3 (by omega) (by omega) (by decide) (by decide)
 exact ⟨r1.mono (by omega), r2.mono (by omega), r3.mono (by omega)⟩
theorem b6w {w : Wk} {s : Stt} {u : List (List Nm.Rt)} {p : List Bool} {z : Am × Ast} (h1 : s.arms.length = w.arms.length) (h2 : u.length = w.arms.length) (h3 : p.length = w.arms.length) (hz : z ∈ w.arms.zip (a2p w s u p)) :
  ∃ x l b, (z.1, x) ∈ w.arms.zip s.arms /\ l ∈ u /\ z.2 = a0x z.1 x l b := by
 obtain ⟨i, hi⟩ := List.getElem?_of_mem hz
 rw [List.getElem?_zip_eq_some] at hi
 obtain ⟨g1, g2⟩ := hi
 have hl := (c1u.1 g1).1
 have x1 := c1l (show i < s.arms.length by omega)
 have x2 := c1l (show i < u.length by omega)
 have x3 := c1l (show i < p.length by omega)
 rw [a7o g1 x1 x2 x3] at g2
 injection g2 with g2
 exact ⟨_, _, _, c1o (H7 g1 x1), c1o x2, g2.symm⟩
theorem b0x {w : Wk} {Q : Fr -> Prop} : ∀ (l : List (Am × Ast)) (P : List Fr), (∀ f ∈ P, Q f) -> (∀ z ∈ l, ∀ pt ∈ w.parts, Q (a1j z.1 z.2.q pt.grasp)) -> ∀ f ∈ l.foldl (a4u w) P, Q f
 | [], P, h, _ => h
 | z :: l, P, h, hl => by
  rw [List.foldl_cons]
  refine b0x l _ (fun f hf => ?_) fun z hz => hl z (by simp [hz])
  unfold a4u at hf
  split at hf
  ·exact h f hf
  ·split at hf
   ·rename_i pt hpt
    rcases List.mem_or_eq_of_mem_set hf with hf | rfl
    ·exact h f hf
    ·exact hl z (by simp) pt (c1o hpt)
   ·exact h f hf
theorem Fb.mono' {k m : Nat} {f : Fr} (h : Fb k f) (hm : k <= m) : Fb m f := ⟨h.1.mono hm, h.2.1.mono hm, h.2.2.mono hm⟩
theorem b7g {w : Wk} {s : Stt} {u : List (List Nm.Rt)} {p : List Bool} {v : List Vt} (hwb : Wb 1048576 w) (hs : Stb 1048576 s) (hu : Wsb 1048576 u) (hv : Vbs 1048576 v) (h : V4 w s u p v = 0) : Stc 4294967296 (a3c w s u p v) /\ Stw (a3c w s u p v) := by
 obtain ⟨h0, h1, h2, h3, h4, h5⟩ := b7l h
 have hok := a7r h0
 have hA : ∀ z ∈ w.arms.zip (a2p w s u p), J2 z.1 = 0 /\ (z.2.q.length = z.1.links.length /\ z.2.v.length = z.1.links.length) /\ (∀ r ∈ z.2.q, Rb 2097664 r) /\ ∀ r ∈ z.2.v, Rb 2097664 r := fun z hz => by
  obtain ⟨x, l, b, hx, hl, e⟩ := b6w hok.arms h1 h2 hz
  have ho := b0M (hok.one _ hx)
  simp only at ho
  rw [e]
  exact ⟨ho.arm, a8D ho, b0F ho.arm (hs.arms.2 x (List.of_mem_zip hx).2) (hu.2 l hl).2⟩
 have hlA := a7l (u := u) (p := p) hok.arms h1 h2
 have hB : ∀ x ∈ a2p w s u p, (x.q.length <= 3 /\ ∀ r ∈ x.q, Rb 2097664 r) /\ (x.v.length <= 3 /\ ∀ r ∈ x.v, Rb 2097664 r) := fun x hx => by
  obtain ⟨i, hi⟩ := List.getElem?_of_mem hx
  have hl := (c1u.1 hi).1
  have ga := c1l (show i < w.arms.length by omega)
  obtain ⟨a1, ⟨a2, a3⟩, a4, a5⟩ := hA _ (c1o (H7 ga hi))
  simp only at a1 a2 a3 a4 a5
  have := (a1h a1).2
  exact ⟨⟨by omega, a4⟩, by omega, a5⟩
 have hb := hok.big
 have hp := a4U w (w.arms.zip (a2p w s u p)) s.parts
 have hv' : ((s.people.zip v).map a2W).length <= s.people.length := by rw [c1m, List.length_zip]; omega
 have e1 := hok.parts
 have e2 := hok.people
 have e3 := hok.gates
 unfold a3c
 refine ⟨⟨⟨by simp only; omega, fun x hx => ?_⟩, ⟨by simp only; omega, ?_⟩, ⟨by simp only; omega, fun y hy => ?_⟩, by simp only; omega⟩, ⟨⟨by simp only; omega, fun x hx => ?_⟩, by simp only; omega, by simp only; omega, by simp only; omega⟩⟩
 ·obtain ⟨⟨b1, b2⟩, b3, b4⟩ := hB x hx
  exact ⟨⟨b1, fun r hr => (b2 r hr).mono (by decide)⟩, b3, fun r hr => (b4 r hr).mono (by decide)⟩
 ·refine b0x _ _ (fun f hf => (hs.parts.2 f hf).mono' (by decide)) fun z hz pt hpt => ?_
  obtain ⟨a1, ⟨a2, a3⟩, a4, a5⟩ := hA z hz
  exact c0i hwb hpt a1 a2 a4
 ·obtain ⟨a, ha, b, hb, rfl⟩ := b4b hy
  exact ⟨a6c (hs.people.2 a ha).1 (hv.2 b hb).1 (by decide) (by decide) (by decide), a6c (hs.people.2 a ha).2 (hv.2 b hb).2 (by decide) (by decide) (by decide)⟩
 ·obtain ⟨⟨b1, b2⟩, b3, b4⟩ := hB x hx
  exact ⟨⟨by omega, fun r hr => (b2 r hr).mono (by decide)⟩, by omega, fun r hr => (b4 r hr).mono (by decide)⟩
theorem b8k (w : Wk) (s : Stt) (u : List (List Nm.Rt)) (p : List Bool) (hwb : Wb 1048576 w) (hs : Stb 1048576 s) (hu : Wsb 1048576 u) (hp : p.length <= 1048576) :
  FZ 56 [w.c, s.c, wss u, bls p, .v (.slice none 0 0)] (a3k w s u p []) := by
 have h := b5B w s u p [] hwb hs hu hp ⟨c1s _, fun x hx => by cases hx⟩
 intro O w' vs hw hO hA
 refine h O w' vs hw hO ?_
 simp only [FzL] at hA ⊢
 obtain ⟨y1, r1, rfl, f1, y2, r2, rfl, f2, y3, r3, rfl, f3, y4, r4, rfl, f4, y5, r5, rfl, f5, rfl⟩ := hA
 simp only [Fz] at f5
 subst f5
 exact ⟨_, _, rfl, f1, _, _, rfl, f2, _, _, rfl, f3, _, _, rfl, f4, _, _, rfl, b4R, rfl⟩
theorem b3z : a2p I5 (J9 I5) [[Q 1 8]] [true] = [⟨[Q 1 8], [Q 1 8], true, -1⟩] := by decide +kernel
theorem b5I : I5.arms.length = 1 /\ (J9 I5).people.length = 0 /\ (J9 I5).tick = 0 := by decide +kernel
theorem b3Y : V4 I5 (J9 I5) [[Q 1 8]] [true] [] = 0 := by
 obtain ⟨ha, hs⟩ := b4Y
 have h0 := b6u a4c ha hs
 obtain ⟨h1, h2, h3⟩ := b5I
 unfold V4
 rw [if_neg (by simpa using h0), if_neg (by simp only [c1J, List.length_nil]; omega), if_neg (by simp), if_neg (by omega)]
theorem c0w : Rb 1048576 (Q 1 8) := ⟨by decide +kernel, by decide +kernel⟩
theorem b2o : FZ 55 [] (.v (.bool true)) := by
 refine kW Tryz.func55 (by cbv) (by rfl) fun w' O hw => ?_
 obtain ⟨ha, hs⟩ := b4Y
 have hb := b0z
 have h1 := b8W
 have h2 := a2D 1 8 (by decide) (by decide)
 have h3 := b8k I5 (J9 I5) [[Q 1 8]] [true] hb (b6h (by decide) hb ha hs) ⟨by decide, fun l hl => by rw [List.mem_singleton] at hl; subst hl; exact ⟨by decide, fun r hr => by rw [List.mem_singleton] at hr; subst hr; exact c0w⟩⟩ (by decide)
 have h4 := b9g [Q 1 8] [Q 1 8] (by decide) (by decide)
 unfold a3k at h3
 rw [if_pos b3Y] at h3
 have hA : (a3c I5 (J9 I5) [[Q 1 8]] [true] []).arms = [⟨[Q 1 8], [Q 1 8], true, -1⟩] := b3z
 rw [decide_eq_true rfl] at h4
 generalize a3c I5 (J9 I5) [[Q 1 8]] [true] [] = S at *
 generalize J9 I5 = s at *
 generalize I5 = w at *
 generalize Q 1 8 = q at *
 obtain ⟨arms, walls, parts, slots, gates, walk⟩ := w
 obtain ⟨tick, sarms, sparts, people, sgates⟩ := s
 obtain ⟨tick2, sarms2, sparts2, people2, sgates2⟩ := S
 simp only at hA
 subst hA
 simp only [j5]
 simp only [Wk.c, Wk.enc, Stt.c, Stt.enc, Ast.enc, ams, wls, pts, sls, gts, E8, frs, vts, bls, wss, rts, rcs, rc, sb, ints, c1F, c1L] at h1 h2 h3 h4 ⊢
 (repeat first | refine uA ?_ | (refine uK ?_ ?_; focus first | omega | (intros; simp_all <;> omega)) | simp (disch := omega) only [go_sem, Nat.reduceBEq, Nat.reduceAdd, ww, decide_true, c1n] | (refine uB h2 ?_ ?_; exact rfl) | (refine uB h4 ?_ ?_; exact rfl) | (refine uD h1 ?_ ?_ ?_; exact tz hw; exact rfl) | (refine uD h3 ?_ ?_ ?_; exact tz hw; exact rfl))
 exact S.done (j3.out rfl (Imp.refl rfl) rfl)
theorem b4G : u7 Tryz.prog 41 [a4S.c, a4S.c] (.v (.bool true)) := by
 have h := a6W a4S a4S b2M.w b2M.w (by decide +kernel) (by decide +kernel)
 rwa [decide_eq_true rfl] at h
set_option maxHeartbeats 8000000
theorem b4C (b v : Nm.Rt) (hb : Rb 1073741824 b) (hv : Rb 1073741824 v) : FZ 219 [rc b, rc v] (rc (Z5 b v)) := by
 refine kW Tryz.func219 (by cbv) (by rfl) fun w O hw => ?_
 have o2 := a3g v (hv.mono (by decide))
 have o3 := K5 (Nm.ofQ (E9 (Nm.d9 v))) b (a1Q ((hv.mono (m := 17179869184) (by decide)).fit (by decide))) (hb.mono (by decide))
 rw [Nm.F7] at o3
 have o4 := a7v
 have o5 := M5 v (hv.mono (by decide))
 have o6 := a4E v b (hv.mono (by decide)) (hb.mono (by decide))
 have o7 := a0q v b (hv.mono (by decide)) (hb.mono (by decide))
 unfold Z5 a1N
 generalize Nm.q9 (E9 (Nm.d9 v)) (Nm.d9 b) = c at *
 generalize y7 (Nm.d9 v) = s2 at *
 unfold rq at *
 generalize Nm.ofQ (E9 (Nm.d9 v)) = av at *
 generalize Nm.ofQ (Nm.d9 v - Nm.d9 b) = d at *
 generalize Nm.ofQ (Nm.d9 v + Nm.d9 b) = e at *
 generalize Nm.ofQ 0 = z at *
 simp only [j5]
 simp only [rc, sb, ints] at *
 (repeat first | refine uG o2 ?_ | refine uG o3 ?_ | refine uA ?_ | (refine uK ?_ ?_; focus first | omega | (intros; simp_all <;> omega)) | simp (disch := omega) only [go_sem, Nat.reduceBEq, Nat.reduceAdd, ww] | (refine uD o2 ?_ ?_ ?_; exact tz hw; exact rfl) | (refine uD o3 ?_ ?_ ?_; exact tz hw; exact rfl))
 refine S.cond rfl (fun hc => ?_) (fun hc => ?_)
 ·rw [if_pos (by simpa using hc)]
  (repeat first | refine uG o4 ?_ | refine uA ?_ | (refine uK ?_ ?_; focus first | omega | (intros; simp_all <;> omega)) | simp (disch := omega) only [go_sem, Nat.reduceBEq, Nat.reduceAdd, ww] | (refine uD o4 ?_ ?_ ?_; exact tz hw; exact rfl))
  (refine S.done ?_; simp only [p9, l7, go_sem, Nat.reduceBEq, Nat.reduceAdd, Nat.reduceLeDiff, Int.reduceToNat, Int.reducePow]; (repeat (refine ⟨?_, ?_⟩; focus first | trivial | omega | simp)); exact j3.out rfl (Imp.refl rfl) rfl)
 rw [if_neg (by simpa using hc)]
 (repeat first | refine uG o5 ?_ | refine uA ?_ | (refine uK ?_ ?_; focus first | omega | (intros; simp_all <;> omega)) | simp (disch := omega) only [go_sem, Nat.reduceBEq, Nat.reduceAdd, ww] | (refine uD o5 ?_ ?_ ?_; exact tz hw; exact rfl))
 refine S.cond rfl (fun hc => ?_) (fun hc => ?_)
 ·rw [if_pos (by simpa using hc)]
  (repeat first | refine uG o7 ?_ | refine uA ?_ | (refine uK ?_ ?_; focus first | omega | (intros; simp_all <;> omega)) | simp (disch := omega) only [go_sem, Nat.reduceBEq, Nat.reduceAdd, ww] | (refine uD o7 ?_ ?_ ?_; exact tz hw; exact rfl))
  (refine S.done ?_; simp only [p9, l7, go_sem, Nat.reduceBEq, Nat.reduceAdd, Nat.reduceLeDiff, Int.reduceToNat, Int.reducePow]; (repeat (refine ⟨?_, ?_⟩; focus first | trivial | omega | simp)); exact j3.out rfl (Imp.refl rfl) rfl)
 ·rw [if_neg (by simpa using hc)]
  (repeat first | refine uG o6 ?_ | refine uA ?_ | (refine uK ?_ ?_; focus first | omega | (intros; simp_all <;> omega)) | simp (disch := omega) only [go_sem, Nat.reduceBEq, Nat.reduceAdd, ww] | (refine uD o6 ?_ ?_ ?_; exact tz hw; exact rfl))
  (refine S.done ?_; simp only [p9, l7, go_sem, Nat.reduceBEq, Nat.reduceAdd, Nat.reduceLeDiff, Int.reduceToNat, Int.reducePow]; (repeat (refine ⟨?_, ?_⟩; focus first | trivial | omega | simp)); exact j3.out rfl (Imp.refl rfl) rfl)
theorem b5V (a : Am) (x : Ast) (hl : Ab 1073741824 a) (hx : Asb 1073741824 x) (hq : x.q.length = a.links.length) (hv : x.v.length = a.links.length) : FZ 163 [a.c, x.c] (a7k a x).c := by
 refine kW Tryz.func163 (by cbv) (by rfl) fun w O hw => ?_
 have hbg := @b2Q a x
 obtain ⟨hVl, hQl⟩ := b2R hq hv
 unfold a7k
 generalize a2g a x = V at *
 generalize a3N a x = Q at *
 obtain ⟨hqn, hqb⟩ := hx.1
 obtain ⟨hvn, hvb⟩ := hx.2
 obtain ⟨name, ⟨bx, by', half, t⟩, links⟩ := a
 obtain ⟨q, v, power, holds⟩ := x
 obtain ⟨b0, ⟨b1, b2, b3⟩, hn, hb⟩ := hl
 simp only at hq hv hn hb hqn hqb hvn hvb hVl hQl hbg ⊢
 simp only [j5]
 simp only [Am.c, Am.enc, Ast.c, Ast.enc, lks, rts, sb, ints]
 (repeat first | refine uA ?_ | (refine uK ?_ ?_; focus first | omega | (intros; simp_all <;> omega)) | simp (disch := omega) only [go_sem, Nat.reduceBEq, Nat.reduceAdd, ww, c1m])
 refine S.loop (X := Nat) (fun i => ⟨[(3, .bp 1 0), (4, .bp 2 0), (5, .bp 3 0), (13, lks links), (14, ints links.length), (15, ints i)], [.gone, .box 90 [rts q, rts v, .v (.bool power), ints holds], .box 90 [.v (.slice none 0 0), .v (.slice none 0 0), .v (.bool false), .v (.int .i64 0)], .box 90 [.rv 4, .rv 5, .v (.bool false), ints holds], .row 29 3 ((Q.take i).map rcs), .row 29 3 ((V.take i).map rcs)]⟩) (fun i => i <= links.length) (fun i => links.length - i) 0 (c1s _) (Ent.trans (Ent.a1q 3 0 29 3 rfl rfl rfl) (Ent.trans (Ent.a1q 3 1 29 3 rfl rfl rfl) (by (repeat first | refine uA ?_ | (refine ⟨?_, ?_⟩; focus first | rfl | simp [slot]) | rfl | simp)))) ?_
 intro i hi
 simp only [lks, rts, ints]
 (repeat first | refine uA ?_ | (refine uK ?_ ?_; focus first | omega | (intros; simp_all <;> omega)) | simp (disch := omega) only [go_sem, Nat.reduceBEq, Nat.reduceAdd, ww])
 (refine uJ rfl (fun hc => ?_) fun hc => ?_)
 ·have hi' : i < links.length := by omega
  have hgl := c1l hi'
  have hgq := c1l (show i < q.length by omega)
  have hgv := c1l (show i < v.length by omega)
  generalize links[i] = l at hgl
  generalize q[i]'_ = qi at hgq
  generalize v[i]'_ = vi at hgv
  obtain ⟨g1, g2⟩ := hbg hgl hgv hgq
  have bl := hb l (c1o hgl)
  have bv := hvb vi (c1o hgv)
  have bq := hqb qi (c1o hgq)
  have o1 := b4C l.brake vi bl.2.2.2.2.1 bv
  have o2 := a0q qi (Z5 l.brake vi) (bq.mono (by decide)) ((b2B (by decide) bl.2.2.2.2.1 bv).mono (by decide))
  have hp1 := take_at g1
  have hp2 := take_at g2
  have l1 : (V.take i).length = i := by rw [c1z]; omega
  have l2 : (Q.take i).length = i := by rw [c1z]; omega
  unfold rq at o2
  unfold a1N at hp2
  generalize Nm.ofQ (Nm.d9 qi + Nm.d9 (Z5 l.brake vi)) = z at *
  generalize Z5 l.brake vi = y at *
  have hqi : (i : Int) < q.length := by omega
  have hvi : (i : Int) < v.length := by omega
  simp only [rc, sb] at o1 o2
  (repeat first | refine uG o1 ?_ | refine uI ?_ | (refine uK ?_ ?_; focus first | omega | (intros; simp_all <;> omega)) | simp (disch := omega) only [go_sem, Nat.reduceBEq, Nat.reduceAdd, ww, hgl, hgq, hgv, c1n, c1m, Lk.enc, rcs, vts, sb, c1q] | (refine uD o1 ?_ ?_ ?_; exact tz hw; exact rfl))
  refine S.b7C ?_
  (repeat first | refine uG o1 ?_ | refine uI ?_ | (refine uK ?_ ?_; focus first | omega | (intros; simp_all <;> omega)) | simp (disch := omega) only [go_sem, Nat.reduceBEq, Nat.reduceAdd, ww, hgl, hgq, hgv, c1n, c1m, Lk.enc, rcs, vts, sb, c1q] | (refine uD o1 ?_ ?_ ?_; exact tz hw; exact rfl))
  refine S.H6 [.gone, .box 90 [.sl 3 (q.map rcs), .sl 3 (v.map rcs), .v (.bool power), .v (.int .i64 holds)], .gone, .box 90 [.rv 4, .junk, .v (.bool false), .v (.int .i64 holds)], .gone, .gone, .gone, .box 29 [.v (.bool y.neg), .v (.string (bs y.num)), .v (.string (bs y.den))]] (by simp [Eng.F3, Eng.leC]) ?_
  (repeat first | refine uG o2 ?_ | refine uA ?_ | (refine uK ?_ ?_; focus first | omega | (intros; simp_all <;> omega)) | simp (disch := omega) only [go_sem, Nat.reduceBEq, Nat.reduceAdd, ww, KMd, hgl, hgq, hgv, c1n, c1m, rcs, sb, l1, l2, c1q] | (refine uD o2 ?_ ?_ ?_; exact tz hw; exact rfl))
  refine S.next (i + 1) (by omega) (by omega) (by simp only [hp1, hp2, c2d, c1F, c1L, rcs, sb]; exact (by (repeat first | refine uA ?_ | (refine ⟨?_, ?_⟩; focus first | rfl | simp [slot]) | rfl | simp)))
 ·have hi' : i = links.length := by omega
  subst hi'
  rw [c1G (by omega), c1G (by omega)]
  (repeat first | refine uA ?_ | (refine uK ?_ ?_; focus first | omega | (intros; simp_all <;> omega)) | simp (disch := omega) only [go_sem, Nat.reduceBEq, Nat.reduceAdd, ww])
  (refine S.done ?_; simp only [p9, l7, go_sem, Nat.reduceBEq, Nat.reduceAdd, Nat.reduceLeDiff, Int.reduceToNat, Int.reducePow]; (repeat (refine ⟨?_, ?_⟩; focus first | trivial | omega | simp)); exact j3.out rfl (Imp.agg (by (repeat' (first | exact l6.nil | exact Imp.refl rfl | exact Imp.frz rfl rfl rfl | exact Imp.K4 | refine l6.cons ?_ ?_)))) rfl)
theorem b1F (a : Am) (q u : List Nm.Rt) (hl : Ab 1073741824 a) (hq : Rbs 1073741824 q) (hu : Rbs 1073741824 u) (hql : q.length = a.links.length) : FZ 164 [a.c, rts q, rts u] (.v (.bool (a2s a q u))) := by
  refine kW Tryz.func164 (by cbv) (by rfl) fun w O hw => ?_
  have o0 := a3p u ⟨c1t hu.1 (by decide), fun r hr => (hu.2 r hr).mono (by decide)⟩
  obtain ⟨hqn, hqb⟩ := hq
  obtain ⟨hun, hub⟩ := hu
  unfold a2s
  obtain ⟨name, ⟨bx, by', half, t⟩, links⟩ := a
  obtain ⟨b0, ⟨b1, b2, b3⟩, hn, hb⟩ := hl
  simp only at b0 b1 b2 b3 hn hb hql ⊢
  generalize u.all D8 = g at *
  simp only [j5]
  simp only [Am.c, Am.enc, lks, rts, sb, ints] at o0 ⊢
  (repeat first | refine uG o0 ?_ | refine uA ?_ | (refine uK ?_ ?_; focus first | omega | (intros; simp_all <;> omega)) | simp (disch := omega) only [go_sem, Nat.reduceBEq, Nat.reduceAdd, ww, c1m] | (refine uD o0 ?_ ?_ ?_; exact tz hw; exact rfl))
  refine S.cond rfl (fun hc => ?_) (fun hc => ?_)
  · rw [show (decide (u.length = links.length) && (g && (links.zip (q.zip u)).all a6m)) = false by
      cases g
      · simp
      · rw [decide_eq_false (show ¬ u.length = links.length by simp only [c1U, Bool.not_eq_true', c1v, Bool.not_true, c1V, or_false] at hc; omega)]; rfl]
    (repeat first | refine uA ?_ | (refine uK ?_ ?_; focus first | omega | (intros; simp_all <;> omega)) | simp (disch := omega) only [go_sem, Nat.reduceBEq, Nat.reduceAdd, ww])
    exact S.done (j3.out rfl (Imp.refl rfl) rfl)
  have hg : g = true := by cases g; simp at hc; rfl
  subst hg
  have hul : u.length = links.length := by simp only [c1D, Bool.not_eq_false', c1r] at hc; omega
  rw [decide_eq_true hul, Bool.true_and, Bool.true_and]
  (repeat first | refine uA ?_ | (refine uK ?_ ?_; focus first | omega | (intros; simp_all <;> omega)) | simp (disch := omega) only [go_sem, Nat.reduceBEq, Nat.reduceAdd, ww, c1m])
  refine S.loop (X := Nat) (fun i => ⟨[(1, rts q), (2, rts u), (22, lks links), (23, ints links.length), (24, ints i)], []⟩) (fun i => i <= links.length /\ (links.zip (q.zip u)).all a6m = ((links.zip (q.zip u)).drop i).all a6m) (fun i => links.length - i) 0 ⟨c1s _, rfl⟩ (by (repeat first | refine uA ?_ | (refine ⟨?_, ?_⟩; focus first | rfl | simp [slot]) | rfl | simp)) ?_
  rintro i ⟨hi, hg⟩
  simp only [rts, lks, ints]
  (repeat first | refine uA ?_ | (refine uK ?_ ?_; focus first | omega | (intros; simp_all <;> omega)) | simp (disch := omega) only [go_sem, Nat.reduceBEq, Nat.reduceAdd, ww])
  (refine uJ rfl (fun hc => ?_) fun hc => ?_)
  · have hi' : i < links.length := by omega
    have hgl := c1l hi'
    have hgq := c1l (show i < q.length by omega)
    have hgu := c1l (show i < u.length by omega)
    generalize links[i] = l at hgl
    generalize q[i]'_ = qi at hgq
    generalize u[i]'_ = ui at hgu
    have hd := a5j (f := a6m) (H7 hgl (H7 hgq hgu))
    have bl := hb l (c1o hgl)
    have bq := (hqb qi (c1o hgq)).mono (m := 17179869184) (by decide)
    have bu := (hub ui (c1o hgu)).mono (m := 17179869184) (by decide)
    have bz := (O6 ((hqb qi (c1o hgq)).fit (by decide)) ((hub ui (c1o hgu)).fit (by decide))).mono (m := 17179869184) (by decide)
    have o1 := a0q qi ui bq bu
    have o3 := a3g ui bu
    have o4 := K5 (Nm.ofQ (E9 (Nm.d9 ui))) l.speed (a1Q (bu.fit (by decide))) (bl.2.2.2.1.mono (by decide))
    have o5 := K5 l.low (Nm.ofQ (Nm.d9 qi + Nm.d9 ui)) (bl.2.1.mono (by decide)) bz
    have o6 := K5 (Nm.ofQ (Nm.d9 qi + Nm.d9 ui)) l.high bz (bl.2.2.1.mono (by decide))
    rw [Nm.F7] at o4 o5 o6
    have hv : a6m (l, qi, ui) = !(decide (0 < Nm.q9 (E9 (Nm.d9 ui)) (Nm.d9 l.speed)) || decide (0 < Nm.q9 (Nm.d9 l.low) (Nm.d9 qi + Nm.d9 ui)) || decide (0 < Nm.q9 (Nm.d9 qi + Nm.d9 ui) (Nm.d9 l.high))) := rfl
    rw [hv] at hd
    clear hv
    generalize Nm.q9 (E9 (Nm.d9 ui)) (Nm.d9 l.speed) = c1 at *
    generalize Nm.q9 (Nm.d9 l.low) (Nm.d9 qi + Nm.d9 ui) = c2 at *
    generalize Nm.q9 (Nm.d9 qi + Nm.d9 ui) (Nm.d9 l.high) = c4 at *
    unfold rq at o1 o3
    generalize Nm.ofQ (Nm.d9 qi + Nm.d9 ui) = z at *
    generalize Nm.ofQ (E9 (Nm.d9 ui)) = au at *
    have hqi : (i : Int) < q.length := by omega
    have hui : (i : Int) < u.length := by omega
    simp only [rc, sb, ints] at o1 o3 o4 o5 o6
    (repeat first | refine uG o1 ?_ | refine uG o3 ?_ | refine uG o4 ?_ | refine uG o5 ?_ | refine uG o6 ?_ | refine uA ?_ | (refine uK ?_ ?_; focus first | omega | (intros; simp_all <;> omega)) | simp (disch := omega) only [go_sem, Nat.reduceBEq, Nat.reduceAdd, ww, hgl, hgq, hgu, c1n, c1m, Lk.enc, rcs, vts, sb, c1q] | (refine uD o1 ?_ ?_ ?_; exact tz hw; exact rfl) | (refine uD o3 ?_ ?_ ?_; exact tz hw; exact rfl) | (refine uD o4 ?_ ?_ ?_; exact tz hw; exact rfl) | (refine uD o5 ?_ ?_ ?_; exact tz hw; exact rfl) | (refine uD o6 ?_ ?_ ?_; exact tz hw; exact rfl))
    refine S.cond rfl (fun hc2 => ?_) (fun hc2 => ?_)
    · rw [hg, hd, hc2]
      (repeat first | refine uA ?_ | (refine uK ?_ ?_; focus first | omega | (intros; simp_all <;> omega)) | simp (disch := omega) only [go_sem, Nat.reduceBEq, Nat.reduceAdd, ww])
      exact S.done (j3.out rfl (Imp.refl rfl) rfl)
    · rw [hc2] at hd
      (repeat first | refine uA ?_ | (refine uK ?_ ?_; focus first | omega | (intros; simp_all <;> omega)) | simp (disch := omega) only [go_sem, Nat.reduceBEq, Nat.reduceAdd, ww])
      exact S.next (i + 1) ⟨by omega, by rw [hg, hd]; rfl⟩ (by omega) (by (repeat first | refine uA ?_ | (refine ⟨?_, ?_⟩; focus first | rfl | simp [slot]) | rfl | simp))
  · rw [hg, List.drop_eq_nil_of_le (by simp only [List.length_zip]; omega), List.all_nil]
    (repeat first | refine uA ?_ | (refine uK ?_ ?_; focus first | omega | (intros; simp_all <;> omega)) | simp (disch := omega) only [go_sem, Nat.reduceBEq, Nat.reduceAdd, ww])
    exact S.done (j3.out rfl (Imp.refl rfl) rfl)
theorem b8Z (w : Wk) (n : Nat) (x : Ast) (a : Am) (p : Nat) (pt : Pt) (hwb : Wb 1048576 w) (ga : w.arms[n]? = some a) (gp : w.parts[p]? = some pt) (hx : x.holds = p) (ha : J2 a = 0) (hql : x.q.length = a.links.length) (hq : ∀ r ∈ x.q, Rb 2097664 r) :
  FZ 166 [w.c, .v (.int .i64 (n : Int)), x.c] (a1j a x.q pt.grasp).c := by
 refine kW Tryz.func166 (by cbv) (by rfl) fun w' O hw => ?_
 obtain ⟨n1, b1⟩ := hwb.arms
 obtain ⟨n2, b2⟩ := hwb.parts
 have h1 := b1v a x.q ((b1 a (c1o ga)).mono (by decide)) ha hql hq
 have h2 := b2z pt.grasp (b2 pt (c1o gp)).2.2
 have h3 := a8X hwb ga gp ha hql hq
 obtain ⟨g1, g2⟩ := a4r (a.links.zip x.q) a.base
 have hn : (a.links.zip x.q).length <= 3 := by rw [List.length_zip]; have := (a1h ha).2; omega
 unfold a1j
 have na := (c1u.1 ga).1
 have np := (c1u.1 gp).1
 generalize a0s a.base (a.links.zip x.q) = L at *
 generalize a1W a.base (a.links.zip x.q) = T at *
 generalize (a.links.zip x.q).length = k at *
 generalize M8 T (a0O pt.grasp) = R at *
 generalize a0O pt.grasp = B at *
 obtain ⟨q, v, power, holds⟩ := x
 obtain ⟨arms, walls, parts, slots, gates, walk⟩ := w
 simp only at ga gp na np hx h1 ⊢
 subst hx
 have na' : (n : Int) < arms.length := by omega
 have np' : (p : Int) < parts.length := by omega
 have e1 : ((L.length : Int) - 1) = (k : Int) := by omega
 have e2 : (k : Int) < L.length := by omega
 have e3 : decide ((L.length : Int) = 0) = false := decide_eq_false (by omega)
 simp only [j5]
 simp only [Wk.c, Wk.enc, Am.c, Am.enc, Ast.c, Ast.enc, Fr.c, Fr.enc, ams, wls, pts, sls, gts, lks, rts, frs, sb, ints] at h1 h2 h3 ⊢
 (repeat first | refine uG h1 ?_ | refine uA ?_ | (refine uK ?_ ?_; focus first | omega | (intros; simp_all <;> omega)) | simp (disch := omega) only [go_sem, Nat.reduceBEq, Nat.reduceAdd, ww, ga, c1n, c1m, Am.enc, lks, sb, c1q] | (refine uD h1 ?_ ?_ ?_; exact tz hw; exact rfl))
 refine S.cond rfl (fun hc => by simp only [c1r] at hc; omega) (fun hc => ?_)
 (repeat first | refine uG h2 ?_ | refine uG h3 ?_ | refine uA ?_ | (refine uK ?_ ?_; focus first | omega | (intros; simp_all <;> omega)) | simp (disch := omega) only [go_sem, Nat.reduceBEq, Nat.reduceAdd, ww, gp, g1, e1, c1n, c1m, Pt.enc, Fr.enc, vts, sb, c1q] | (refine uD h2 ?_ ?_ ?_; exact tz hw; exact rfl) | (refine uD h3 ?_ ?_ ?_; exact tz hw; exact rfl))
 (refine S.done ?_; simp only [p9, l7, go_sem, Nat.reduceBEq, Nat.reduceAdd, Nat.reduceLeDiff, Int.reduceToNat, Int.reducePow]; (repeat (refine ⟨?_, ?_⟩; focus first | trivial | omega | simp)); exact j3.out rfl (Imp.refl rfl) rfl)
set_option maxHeartbeats 16000000
theorem c0g (a b c d e v : Int) : (if D9 id [a, b, c, d, e] ≠ 0 then D9 id [a, b, c, d, e] else v) = if a ≠ 0 then a else if b ≠ 0 then b else if c ≠ 0 then c else if d ≠ 0 then d else if e ≠ 0 then e else v := by
 simp only [D9, id]
 by_cases ha : a = 0 <;> by_cases hb : b = 0 <;> by_cases hc : c = 0 <;> by_cases hd : d = 0 <;> by_cases he : e = 0 <;> simp [ha, hb, hc, hd, he]
theorem b2V {k : Nat} {a : Nm.Rt} (h : 1 <= k) (h1 : Rb k a) : Rbs k [a] := ⟨h, fun x hx => by simp at hx; subst hx; exact h1⟩
theorem b7h {k : Nat} {a b c d : Nm.Rt} (h : 4 <= k) (h1 : Rb k a) (h2 : Rb k b) (h3 : Rb k c) (h4 : Rb k d) : Rbs k [a, b, c, d] := ⟨h, fun x hx => by simp at hx; rcases hx with rfl | rfl | rfl | rfl <;> assumption⟩
theorem walk_eq (a : Nm.Rt) : a9P a = if ([a].all j4 = false \/ y7 (Nm.d9 a) = -1) then 1 else 0 := by
 have h1 : (decide a.D5 && j4 a) = [a].all j4 := by rw [<- V5]; simp
 have h2 := b4T (Nm.d9 a)
 unfold a9P
 rw [h1]
 generalize [a].all j4 = q
 have := b1l (Nm.d9 a)
 cases q
 ·simp
 ·by_cases h : 0 <= y7 (Nm.d9 a)
  ·rw [if_pos (by simpa using h), if_neg (by simp; omega)]
  ·rw [if_neg (by simpa using h), if_pos (by right; omega)]
theorem b8v (s : Sl) : (okF s.frame && decide s.within.D5 && j4 s.within && decide (0 < y7 (Nm.d9 s.within))) = !(!okF s.frame || !([s.within].all j4) || decide (y7 (Nm.d9 s.within) < 1)) := by
 have h1 : (okF s.frame && decide s.within.D5 && j4 s.within) = (okF s.frame && [s.within].all j4) := by
  rw [Bool.and_assoc, <- V5]; simp
 rw [h1, sign_one]
 cases okF s.frame <;> cases [s.within].all j4 <;> cases decide (0 < y7 (Nm.d9 s.within)) <;> rfl
theorem b9a (g : Gt) : (okV g.low && okV g.high && decide (Nm.q9 (Nm.d9 g.low.x) (Nm.d9 g.high.x) <= 0) && decide (Nm.q9 (Nm.d9 g.low.y) (Nm.d9 g.high.y) <= 0)) = !(!([g.low.x, g.low.y, g.high.x, g.high.y].all j4) || decide (Nm.q9 (Nm.d9 g.low.x) (Nm.d9 g.high.x) = 1) || decide (Nm.q9 (Nm.d9 g.low.y) (Nm.d9 g.high.y) = 1)) := by
 have h1 : (okV g.low && okV g.high) = [g.low.x, g.low.y, g.high.x, g.high.y].all j4 := by
  rw [a9R, a9R]; simp [Bool.and_assoc]
 rw [h1, b3f, b3f]
 cases [g.low.x, g.low.y, g.high.x, g.high.y].all j4 <;> cases decide (Nm.q9 (Nm.d9 g.low.x) (Nm.d9 g.high.x) <= 0) <;> cases decide (Nm.q9 (Nm.d9 g.low.y) (Nm.d9 g.high.y) <= 0) <;> rfl
theorem b8z (n : Nms) (a : Am) : a0i n a = if J2 a ≠ 0 then (J2 a, n) else J6 n a.name := rfl
theorem b6N (n : Nms) (p : Pt) : Z9 n p = if (J6 n p.name).1 ≠ 0 then J6 n p.name else if K7 p.shape ≠ 0 then (K7 p.shape, (J6 n p.name).2) else (if okF p.grasp then 0 else 1, (J6 n p.name).2) := rfl
theorem b7e (n : Nms) (s : Sl) : Z7 n s = if (J6 n s.name).1 ≠ 0 then J6 n s.name else (if okF s.frame && decide s.within.D5 && j4 s.within && decide (0 < y7 (Nm.d9 s.within)) then 0 else 1, (J6 n s.name).2) := rfl
theorem b6e (n : Nms) (g : Gt) : Z4 n g = if (J6 n g.name).1 ≠ 0 then J6 n g.name else (if okV g.low && okV g.high && decide (Nm.q9 (Nm.d9 g.low.x) (Nm.d9 g.high.x) <= 0) && decide (Nm.q9 (Nm.d9 g.low.y) (Nm.d9 g.high.y) <= 0) then 0 else 1, (J6 n g.name).2) := rfl
theorem b7b (w : Wk) (hb : Wb 1073741824 w) : FZ 24 [w.c] (ints (W9 w)) := by
 refine kW Tryz.func24 (by cbv) (by rfl) fun w' O hw => ?_
 have hcal : callable Tryz.prog 98 = true := by kernel_rfl
 obtain ⟨⟨n1, b1⟩, ⟨n2, b2⟩, ⟨n3, b3⟩, ⟨n4, b4⟩, ⟨n5, b5⟩, b6⟩ := hb
 have hnm := fun (E : Ctx) (hP : E.P = Tryz.prog) (n : Nms) (s : List UInt8) (hs : s.length <= 1099511627776) (hn : n.length <= 1000000) => b7Z hP w n s hs hn
 have h6 := a3y _ (b2V (by decide) (b6.mono (m := 17179869184) (by decide)))
 have h7 := M5 w.walk (b6.mono (by decide))
 unfold W9 a4A
 generalize hr1 : C8 a0i [] w.arms = r1
 obtain ⟨e1, m1⟩ := r1
 simp only
 generalize hr3 : C8 Z9 m1 w.parts = r3
 obtain ⟨e3, m3⟩ := r3
 simp only
 generalize hr4 : C8 Z7 m3 w.slots = r4
 obtain ⟨e4, m4⟩ := r4
 simp only
 generalize hr5 : C8 Z4 m4 w.gates = r5
 obtain ⟨e5, m5⟩ := r5
 simp only
 generalize hr2 : D9 K7 w.walls = e2
 rw [c0g, walk_eq]
 generalize [w.walk].all j4 = q6 at *
 generalize y7 (Nm.d9 w.walk) = s7 at *
 obtain ⟨arms, walls, parts, slots, gates, walk⟩ := w
 simp only at n1 n2 n3 n4 n5 b1 b2 b3 b4 b5 hr1 hr2 hr3 hr4 hr5 ⊢
 simp only [j5]
 simp only [Wk.c, Wk.enc, rsR, ams, wls, pts, sls, gts, rts, rcs, rc, sb, ints, c1F, c1L] at hnm h6 h7 ⊢
 (repeat first | refine uA ?_ | (refine uK ?_ ?_; focus first | omega | (intros; simp_all <;> omega)) | simp (disch := omega) only [go_sem, Nat.reduceBEq, Nat.reduceAdd, ww, c1m])
 refine S.cond rfl (fun hc => ?_) (fun hc => ?_)
 ·rw [if_pos (by simp only [c1U, c1r] at hc; omega)]
  (repeat first | refine uA ?_ | (refine uK ?_ ?_; focus first | omega | (intros; simp_all <;> omega)) | simp (disch := omega) only [go_sem, Nat.reduceBEq, Nat.reduceAdd, ww])
  exact S.done (j3.out rfl (Imp.refl rfl) rfl)
 rw [if_neg (by simp only [c1D, c1v] at hc; omega)]
 simp only [c1D, c1v] at hc
 (repeat first | refine uA ?_ | (refine uK ?_ ?_; focus first | omega | (intros; simp_all <;> omega)) | simp (disch := omega) only [go_sem, Nat.reduceBEq, Nat.reduceAdd, ww, c1m])
 refine S.cond rfl (fun hc => ?_) (fun hc => ?_)
 ·rw [if_pos (by simp only [c1r] at hc; omega)]
  (repeat first | refine uA ?_ | (refine uK ?_ ?_; focus first | omega | (intros; simp_all <;> omega)) | simp (disch := omega) only [go_sem, Nat.reduceBEq, Nat.reduceAdd, ww])
  exact S.done (j3.out rfl (Imp.refl rfl) rfl)
 rw [if_neg (by simp only [c1v] at hc; omega)]
 (repeat first | refine uA ?_ | (refine uK ?_ ?_; focus first | omega | (intros; simp_all <;> omega)) | simp (disch := omega) only [go_sem, Nat.reduceBEq, Nat.reduceAdd, ww, c1m])
 refine S.loop (X := Nat × Nms) (fun x => ⟨[(1, .bp 0 0), (4, .clo 98 [.bp 1 0]), (58, ams arms), (59, ints arms.length), (60, ints x.1)], [.box 31 [ams arms, wls walls, pts parts, sls slots, gts gates, .v (.bool walk.neg), sb walk.num, sb walk.den], .box 153 [.rv 2], .row 9 1 (nmR x.2)]⟩)
  (fun x => x.1 <= arms.length /\ x.2.length <= x.1 /\ (e1, m1) = C8 a0i x.2 (arms.drop x.1)) (fun x => arms.length - x.1) (0, []) ⟨c1s _, c1w _, hr1.symm⟩ (Ent.trans (Ent.a1q 1 0 9 1 rfl rfl rfl) (by (repeat first | refine uA ?_ | (refine ⟨?_, ?_⟩; focus first | rfl | simp [slot]) | rfl | simp))) ?_
 rintro ⟨i, m⟩ ⟨hi, hml, hg⟩
 simp only [ams, wls, pts, sls, gts, sb, ints] at hi hml hg ⊢
 (repeat first | refine uA ?_ | (refine uK ?_ ?_; focus first | omega | (intros; simp_all <;> omega)) | simp (disch := omega) only [go_sem, Nat.reduceBEq, Nat.reduceAdd, ww])
 (refine uJ rfl (fun hc => ?_) fun hc => ?_)
 ·have hgi := c1l (show i < arms.length by omega)
  generalize arms[i]'(_) = x at hgi
  have hx := b1 x (c1o hgi)
  have hst := R4 (f := a0i) (s := m) hgi
  have hnx := R5 (f := a0i) (s := m) hgi
  have o1 := a8b x hx
  have o2 := fun (E : Ctx) (hP : E.P = Tryz.prog) => hnm E hP m x.name (by have := hx.1; omega) (by omega)
  have hal := a5a m x.name
  rw [b8z] at hst hnx
  generalize J2 x = a1 at *
  generalize J6 m x.name = r at *
  obtain ⟨a2, m'⟩ := r
  simp only [Am.c, Am.enc, lks, sb] at o1 o2 hal hst hnx
  (repeat first | refine uG o1 ?_ | refine uA ?_ | (refine uK ?_ ?_; focus first | omega | (intros; simp_all <;> omega)) | simp (disch := omega) only [go_sem, Nat.reduceBEq, Nat.reduceAdd, ww, hgi, c1n, c1m, Am.enc, lks, sb, c1q] | (refine uD o1 ?_ ?_ ?_; exact tz hw; exact rfl))
  refine S.cond rfl (fun hc2 => ?_) (fun hc2 => ?_)
  ·have h0 : a1 ≠ 0 := by simpa using hc2
   rw [if_pos h0] at hst
   rw [hst h0] at hg
   injection hg with g1 g2
   rw [if_pos (by rw [g1]; exact h0), g1]
   (repeat first | refine uA ?_ | (refine uK ?_ ?_; focus first | omega | (intros; simp_all <;> omega)) | simp (disch := omega) only [go_sem, Nat.reduceBEq, Nat.reduceAdd, ww])
   exact S.done (j3.out rfl (Imp.refl rfl) rfl)
  have h0 : ¬ a1 ≠ 0 := by simpa using hc2
  rw [if_neg h0] at hst hnx
  simp only at hst hnx
  (repeat first | refine uA ?_ | (refine uK ?_ ?_; focus first | omega | (intros; simp_all <;> omega)) | simp (disch := omega) only [go_sem, Nat.reduceBEq, Nat.reduceAdd, ww, hcal, c1F, c1L] | refine l9.t (l8.b3I _ (o2 _ rfl) rfl rfl rfl) ?_)
  refine S.cond rfl (fun hc3 => ?_) (fun hc3 => ?_)
  ·have h1 : a2 ≠ 0 := by simpa using hc3
   rw [hst h1] at hg
   injection hg with g1 g2
   rw [if_pos (by rw [g1]; exact h1), g1]
   (repeat first | refine uA ?_ | (refine uK ?_ ?_; focus first | omega | (intros; simp_all <;> omega)) | simp (disch := omega) only [go_sem, Nat.reduceBEq, Nat.reduceAdd, ww])
   exact S.done (j3.out rfl (Imp.refl rfl) rfl)
  ·have h1 : a2 = 0 := by simpa using hc3
   (repeat first | refine uA ?_ | (refine uK ?_ ?_; focus first | omega | (intros; simp_all <;> omega)) | simp (disch := omega) only [go_sem, Nat.reduceBEq, Nat.reduceAdd, ww])
   refine S.next (x := (i, m)) (i + 1, m') ⟨by simp only; omega, by simp only; omega, by simp only; rw [hg]; exact hnx h1⟩ (by simp only; omega) (by (repeat first | refine uA ?_ | (refine ⟨?_, ?_⟩; focus first | rfl | simp [slot]) | rfl | simp))
 rw [V9 (by omega)] at hg
 injection hg with g1 g2
 subst g1 g2
 rw [if_neg (show ¬ (0 : Int) ≠ 0 by simp)]
 have hm1 : m1.length <= 4 := by omega
 clear hr1 b1 hml hi
 (repeat first | refine uA ?_ | (refine uK ?_ ?_; focus first | omega | (intros; simp_all <;> omega)) | simp (disch := omega) only [go_sem, Nat.reduceBEq, Nat.reduceAdd, ww, c1m])
 refine S.loop (X := Nat) (fun i => ⟨[(1, .bp 0 0), (4, .clo 98 [.bp 1 0]), (78, wls walls), (79, ints walls.length), (80, ints i)], [.box 31 [ams arms, wls walls, pts parts, sls slots, gts gates, .v (.bool walk.neg), sb walk.num, sb walk.den], .box 153 [.rv 2], .row 9 1 (nmR m1)]⟩)
  (fun i => i <= walls.length /\ e2 = D9 K7 (walls.drop i)) (fun i => walls.length - i) 0 ⟨c1s _, hr2.symm⟩ (by (repeat first | refine uA ?_ | (refine ⟨?_, ?_⟩; focus first | rfl | simp [slot]) | rfl | simp)) ?_
 rintro j ⟨hj, hg⟩
 simp only [ams, wls, pts, sls, gts, sb, ints] at hj hg ⊢
 (repeat first | refine uA ?_ | (refine uK ?_ ?_; focus first | omega | (intros; simp_all <;> omega)) | simp (disch := omega) only [go_sem, Nat.reduceBEq, Nat.reduceAdd, ww])
 (refine uJ rfl (fun hc => ?_) fun hc => ?_)
 ·have hgi := c1l (show j < walls.length by omega)
  generalize walls[j]'(_) = x at hgi
  have hx := b2 x (c1o hgi)
  have hst := a0c (f := K7) hgi
  have hnx := a0g (f := K7) hgi
  have o1 := b1o x hx
  generalize K7 x = a1 at *
  simp only [vts] at o1
  (repeat first | refine uG o1 ?_ | refine uA ?_ | (refine uK ?_ ?_; focus first | omega | (intros; simp_all <;> omega)) | simp (disch := omega) only [go_sem, Nat.reduceBEq, Nat.reduceAdd, ww, hgi, c1n, c1m, vts, c1q] | (refine uD o1 ?_ ?_ ?_; exact tz hw; exact rfl))
  refine S.cond rfl (fun hc2 => ?_) (fun hc2 => ?_)
  ·have h0 : a1 ≠ 0 := by simpa using hc2
   rw [hst h0] at hg
   rw [if_pos (by rw [hg]; exact h0), hg]
   (repeat first | refine uA ?_ | (refine uK ?_ ?_; focus first | omega | (intros; simp_all <;> omega)) | simp (disch := omega) only [go_sem, Nat.reduceBEq, Nat.reduceAdd, ww])
   exact S.done (j3.out rfl (Imp.refl rfl) rfl)
  ·have h0 : a1 = 0 := by simpa using hc2
   (repeat first | refine uA ?_ | (refine uK ?_ ?_; focus first | omega | (intros; simp_all <;> omega)) | simp (disch := omega) only [go_sem, Nat.reduceBEq, Nat.reduceAdd, ww])
   refine S.next (j + 1) ⟨by omega, by rw [hg]; exact hnx h0⟩ (by omega) (by (repeat first | refine uA ?_ | (refine ⟨?_, ?_⟩; focus first | rfl | simp [slot]) | rfl | simp))
 rw [a0C (by omega)] at hg
 subst hg
 rw [if_neg (show ¬ (0 : Int) ≠ 0 by simp)]
 clear hr2 b2 hj
 (repeat first | refine uA ?_ | (refine uK ?_ ?_; focus first | omega | (intros; simp_all <;> omega)) | simp (disch := omega) only [go_sem, Nat.reduceBEq, Nat.reduceAdd, ww, c1m])
 refine S.loop (X := Nat × Nms) (fun x => ⟨[(1, .bp 0 0), (4, .clo 98 [.bp 1 0]), (91, pts parts), (92, ints parts.length), (93, ints x.1)], [.box 31 [ams arms, wls walls, pts parts, sls slots, gts gates, .v (.bool walk.neg), sb walk.num, sb walk.den], .box 153 [.rv 2], .row 9 1 (nmR x.2)]⟩)
  (fun x => x.1 <= parts.length /\ x.2.length <= 4 + x.1 /\ (e3, m3) = C8 Z9 x.2 (parts.drop x.1)) (fun x => parts.length - x.1) (0, m1) ⟨c1s _, hm1, hr3.symm⟩ (by (repeat first | refine uA ?_ | (refine ⟨?_, ?_⟩; focus first | rfl | simp [slot]) | rfl | simp)) ?_
 rintro ⟨k, m⟩ ⟨hk, hml, hg⟩
 simp only [ams, wls, pts, sls, gts, sb, ints] at hk hml hg ⊢
 (repeat first | refine uA ?_ | (refine uK ?_ ?_; focus first | omega | (intros; simp_all <;> omega)) | simp (disch := omega) only [go_sem, Nat.reduceBEq, Nat.reduceAdd, ww])
 (refine uJ rfl (fun hc => ?_) fun hc => ?_)
 ·have hgi := c1l (show k < parts.length by omega)
  generalize parts[k]'(_) = x at hgi
  have hx := b3 x (c1o hgi)
  have hst := R4 (f := Z9) (s := m) hgi
  have hnx := R5 (f := Z9) (s := m) hgi
  have o1 := b1o x.shape hx.2.1
  have o3 := b0T x.grasp ⟨hx.2.2.1.mono (by decide), hx.2.2.2.1.mono (by decide), hx.2.2.2.2.mono (by decide)⟩
  have o2 := fun (E : Ctx) (hP : E.P = Tryz.prog) => hnm E hP m x.name (by have := hx.1; omega) (by omega)
  have hal := a5a m x.name
  rw [b6N] at hst hnx
  generalize K7 x.shape = a1 at *
  generalize okF x.grasp = q at *
  generalize J6 m x.name = r at *
  obtain ⟨a2, m'⟩ := r
  obtain ⟨xn, xs, ⟨gx, gy, gh, gt⟩⟩ := x
  simp only [Fr.c, Fr.enc, vts, sb] at o1 o2 o3 hal hst hnx
  (repeat first | refine uA ?_ | (refine uK ?_ ?_; focus first | omega | (intros; simp_all <;> omega)) | simp (disch := omega) only [go_sem, Nat.reduceBEq, Nat.reduceAdd, ww, hgi, c1n, c1m, Pt.enc, vts, sb, c1q, hcal, c1F, c1L] | refine l9.t (l8.b3I _ (o2 _ rfl) rfl rfl rfl) ?_)
  refine S.cond rfl (fun hc2 => ?_) (fun hc2 => ?_)
  ·have h0 : a2 ≠ 0 := by simpa using hc2
   rw [if_pos h0] at hst
   rw [hst h0] at hg
   injection hg with g1 g2
   rw [if_pos (by rw [g1]; exact h0), g1]
   (repeat first | refine uA ?_ | (refine uK ?_ ?_; focus first | omega | (intros; simp_all <;> omega)) | simp (disch := omega) only [go_sem, Nat.reduceBEq, Nat.reduceAdd, ww])
   exact S.done (j3.out rfl (Imp.refl rfl) rfl)
  have h0 : ¬ a2 ≠ 0 := by simpa using hc2
  rw [if_neg h0] at hst hnx
  (repeat first | refine uG o1 ?_ | refine uA ?_ | (refine uK ?_ ?_; focus first | omega | (intros; simp_all <;> omega)) | simp (disch := omega) only [go_sem, Nat.reduceBEq, Nat.reduceAdd, ww] | (refine uD o1 ?_ ?_ ?_; exact tz hw; exact rfl))
  refine S.cond rfl (fun hc3 => ?_) (fun hc3 => ?_)
  ·have h1 : a1 ≠ 0 := by simpa using hc3
   rw [if_pos h1] at hst
   rw [hst h1] at hg
   injection hg with g1 g2
   rw [if_pos (by rw [g1]; exact h1), g1]
   (repeat first | refine uA ?_ | (refine uK ?_ ?_; focus first | omega | (intros; simp_all <;> omega)) | simp (disch := omega) only [go_sem, Nat.reduceBEq, Nat.reduceAdd, ww])
   exact S.done (j3.out rfl (Imp.refl rfl) rfl)
  have h1 : ¬ a1 ≠ 0 := by simpa using hc3
  rw [if_neg h1] at hst hnx
  (repeat first | refine uG o3 ?_ | refine uA ?_ | (refine uK ?_ ?_; focus first | omega | (intros; simp_all <;> omega)) | simp (disch := omega) only [go_sem, Nat.reduceBEq, Nat.reduceAdd, ww] | (refine uD o3 ?_ ?_ ?_; exact tz hw; exact rfl))
  refine S.cond rfl (fun hc4 => ?_) (fun hc4 => ?_)
  ·have h2 : ¬ q = true := by simpa using hc4
   rw [if_neg h2] at hst
   rw [hst (show (1 : Int) ≠ 0 by decide)] at hg
   injection hg with g1 g2
   rw [if_pos (by rw [g1]; decide), g1]
   (repeat first | refine uA ?_ | (refine uK ?_ ?_; focus first | omega | (intros; simp_all <;> omega)) | simp (disch := omega) only [go_sem, Nat.reduceBEq, Nat.reduceAdd, ww])
   exact S.done (j3.out rfl (Imp.refl rfl) rfl)
  ·have h2 : q = true := by simpa using hc4
   rw [if_pos h2] at hnx
   (repeat first | refine uA ?_ | (refine uK ?_ ?_; focus first | omega | (intros; simp_all <;> omega)) | simp (disch := omega) only [go_sem, Nat.reduceBEq, Nat.reduceAdd, ww])
   refine S.next (x := (k, m)) (k + 1, m') ⟨by simp only; omega, by simp only; omega, by simp only; rw [hg]; exact hnx rfl⟩ (by simp only; omega) (by (repeat first | refine uA ?_ | (refine ⟨?_, ?_⟩; focus first | rfl | simp [slot]) | rfl | simp))
 rw [V9 (by omega)] at hg
 injection hg with g1 g2
 subst g1 g2
 rw [if_neg (show ¬ (0 : Int) ≠ 0 by simp)]
 have hm3 : m3.length <= 10 := by omega
 clear hr3 b3 hml hk hm1
 (repeat first | refine uA ?_ | (refine uK ?_ ?_; focus first | omega | (intros; simp_all <;> omega)) | simp (disch := omega) only [go_sem, Nat.reduceBEq, Nat.reduceAdd, ww, c1m])
 refine S.loop (X := Nat × Nms) (fun x => ⟨[(1, .bp 0 0), (4, .clo 98 [.bp 1 0]), (116, sls slots), (117, ints slots.length), (118, ints x.1)], [.box 31 [ams arms, wls walls, pts parts, sls slots, gts gates, .v (.bool walk.neg), sb walk.num, sb walk.den], .box 153 [.rv 2], .row 9 1 (nmR x.2)]⟩)
  (fun x => x.1 <= slots.length /\ x.2.length <= 10 + x.1 /\ (e4, m4) = C8 Z7 x.2 (slots.drop x.1)) (fun x => slots.length - x.1) (0, m3) ⟨c1s _, hm3, hr4.symm⟩ (by (repeat first | refine uA ?_ | (refine ⟨?_, ?_⟩; focus first | rfl | simp [slot]) | rfl | simp)) ?_
 rintro ⟨k, m⟩ ⟨hk, hml, hg⟩
 simp only [ams, wls, pts, sls, gts, sb, ints] at hk hml hg ⊢
 (repeat first | refine uA ?_ | (refine uK ?_ ?_; focus first | omega | (intros; simp_all <;> omega)) | simp (disch := omega) only [go_sem, Nat.reduceBEq, Nat.reduceAdd, ww])
 (refine uJ rfl (fun hc => ?_) fun hc => ?_)
 ·have hgi := c1l (show k < slots.length by omega)
  generalize slots[k]'(_) = x at hgi
  have hx := b4 x (c1o hgi)
  have hst := R4 (f := Z7) (s := m) hgi
  have hnx := R5 (f := Z7) (s := m) hgi
  have o1 := b0T x.frame ⟨hx.2.1.1.mono (by decide), hx.2.1.2.1.mono (by decide), hx.2.1.2.2.mono (by decide)⟩
  have o3 := a3y _ (b2V (by decide) (hx.2.2.mono (m := 17179869184) (by decide)))
  have o4 := M5 x.within (hx.2.2.mono (by decide))
  have o2 := fun (E : Ctx) (hP : E.P = Tryz.prog) => hnm E hP m x.name (by have := hx.1; omega) (by omega)
  have hal := a5a m x.name
  rw [b7e] at hst hnx
  rw [b8v] at hst hnx
  generalize okF x.frame = q1 at *
  generalize [x.within].all j4 = q2 at *
  generalize y7 (Nm.d9 x.within) = s3 at *
  generalize J6 m x.name = r at *
  obtain ⟨a2, m'⟩ := r
  obtain ⟨xn, ⟨gx, gy, gh, gt⟩, wi⟩ := x
  simp only [Fr.c, Fr.enc, rts, rcs, rc, sb, ints, c1F, c1L] at o1 o2 o3 o4 hal hst hnx
  (repeat first | refine uA ?_ | (refine uK ?_ ?_; focus first | omega | (intros; simp_all <;> omega)) | simp (disch := omega) only [go_sem, Nat.reduceBEq, Nat.reduceAdd, ww, hgi, c1n, c1m, Sl.enc, sb, c1q, hcal, c1F, c1L] | refine l9.t (l8.b3I _ (o2 _ rfl) rfl rfl rfl) ?_)
  refine S.cond rfl (fun hc2 => ?_) (fun hc2 => ?_)
  ·have h0 : a2 ≠ 0 := by simpa using hc2
   rw [if_pos h0] at hst
   rw [hst h0] at hg
   injection hg with g1 g2
   rw [if_pos (by rw [g1]; exact h0), g1]
   (repeat first | refine uA ?_ | (refine uK ?_ ?_; focus first | omega | (intros; simp_all <;> omega)) | simp (disch := omega) only [go_sem, Nat.reduceBEq, Nat.reduceAdd, ww])
   exact S.done (j3.out rfl (Imp.refl rfl) rfl)
  have h0 : ¬ a2 ≠ 0 := by simpa using hc2
  rw [if_neg h0] at hst hnx
  cases q1
  ·(repeat first | refine uG o1 ?_ | refine uG o4 ?_ | refine uG o3 ?_ | refine uA ?_ | (refine uK ?_ ?_; focus first | omega | (intros; simp_all <;> omega)) | simp (disch := omega) only [go_sem, Nat.reduceBEq, Nat.reduceAdd, ww] | (refine uD o1 ?_ ?_ ?_; exact tz hw; exact rfl) | (refine uD o4 ?_ ?_ ?_; exact tz hw; exact rfl) | (refine uE o3 ?_ ?_ ?_ ?_; exact tz hw; exact rfl; focus (repeat' first | exact l6.nil | exact Imp.refl rfl | exact Imp.frz rfl rfl rfl | (refine Imp.O8 rfl rfl ?_ ?_; (focus ((try simp only [c1p]); omega)); (focus first | rfl | assumption)) | refine l6.cons ?_ ?_); done))
   refine S.cond rfl (fun hc3 => ?_) (fun hc3 => by simp at hc3)
   rw [if_neg (by simp)] at hst
   rw [hst (show (1 : Int) ≠ 0 by decide)] at hg
   injection hg with g1 g2
   rw [if_pos (by rw [g1]; decide), g1]
   (repeat first | refine uA ?_ | (refine uK ?_ ?_; focus first | omega | (intros; simp_all <;> omega)) | simp (disch := omega) only [go_sem, Nat.reduceBEq, Nat.reduceAdd, ww])
   exact S.done (j3.out rfl (Imp.refl rfl) rfl)
  (repeat first | refine uG o1 ?_ | refine uG o4 ?_ | refine uG o3 ?_ | refine uA ?_ | (refine uK ?_ ?_; focus first | omega | (intros; simp_all <;> omega)) | simp (disch := omega) only [go_sem, Nat.reduceBEq, Nat.reduceAdd, ww] | (refine uD o1 ?_ ?_ ?_; exact tz hw; exact rfl) | (refine uD o4 ?_ ?_ ?_; exact tz hw; exact rfl) | (refine uE o3 ?_ ?_ ?_ ?_; exact tz hw; exact rfl; focus (repeat' first | exact l6.nil | exact Imp.refl rfl | exact Imp.frz rfl rfl rfl | (refine Imp.O8 rfl rfl ?_ ?_; (focus ((try simp only [c1p]); omega)); (focus first | rfl | assumption)) | refine l6.cons ?_ ?_); done))
  refine S.cond rfl (fun hc3 => ?_) (fun hc3 => ?_)
  ·rw [if_neg (by simp; simp at hc3; rcases hc3 with h | h <;> simp [h])] at hst
   rw [hst (show (1 : Int) ≠ 0 by decide)] at hg
   injection hg with g1 g2
   rw [if_pos (by rw [g1]; decide), g1]
   (repeat first | refine uA ?_ | (refine uK ?_ ?_; focus first | omega | (intros; simp_all <;> omega)) | simp (disch := omega) only [go_sem, Nat.reduceBEq, Nat.reduceAdd, ww])
   exact S.done (j3.out rfl (Imp.refl rfl) rfl)
  ·rw [if_pos (by simpa using hc3)] at hnx
   (repeat first | refine uA ?_ | (refine uK ?_ ?_; focus first | omega | (intros; simp_all <;> omega)) | simp (disch := omega) only [go_sem, Nat.reduceBEq, Nat.reduceAdd, ww])
   refine S.next (x := (k, m)) (k + 1, m') ⟨by simp only; omega, by simp only; omega, by simp only; rw [hg]; exact hnx rfl⟩ (by simp only; omega) (by (repeat first | refine uA ?_ | (refine ⟨?_, ?_⟩; focus first | rfl | simp [slot]) | rfl | simp))
 rw [V9 (by omega)] at hg
 injection hg with g1 g2
 subst g1 g2
 rw [if_neg (show ¬ (0 : Int) ≠ 0 by simp)]
 have hm4 : m4.length <= 18 := by omega
 clear hr4 b4 hml hk hm3
 (repeat first | refine uA ?_ | (refine uK ?_ ?_; focus first | omega | (intros; simp_all <;> omega)) | simp (disch := omega) only [go_sem, Nat.reduceBEq, Nat.reduceAdd, ww, c1m])
 refine S.loop (X := Nat × Nms) (fun x => ⟨[(1, .bp 0 0), (4, .clo 98 [.bp 1 0]), (148, gts gates), (149, ints gates.length), (150, ints x.1)], [.box 31 [ams arms, wls walls, pts parts, sls slots, gts gates, .v (.bool walk.neg), sb walk.num, sb walk.den], .box 153 [.rv 2], .row 9 1 (nmR x.2)]⟩)
  (fun x => x.1 <= gates.length /\ x.2.length <= 18 + x.1 /\ (e5, m5) = C8 Z4 x.2 (gates.drop x.1)) (fun x => gates.length - x.1) (0, m4) ⟨c1s _, hm4, hr5.symm⟩ (by (repeat first | refine uA ?_ | (refine ⟨?_, ?_⟩; focus first | rfl | simp [slot]) | rfl | simp)) ?_
 rintro ⟨k, m⟩ ⟨hk, hml, hg⟩
 simp only [ams, wls, pts, sls, gts, sb, ints] at hk hml hg ⊢
 (repeat first | refine uA ?_ | (refine uK ?_ ?_; focus first | omega | (intros; simp_all <;> omega)) | simp (disch := omega) only [go_sem, Nat.reduceBEq, Nat.reduceAdd, ww])
 (refine uJ rfl (fun hc => ?_) fun hc => ?_)
 ·have hgi := c1l (show k < gates.length by omega)
  generalize gates[k]'(_) = x at hgi
  obtain ⟨hx0, ⟨hx1, hx2⟩, hx3, hx4⟩ := b5 x (c1o hgi)
  have hst := R4 (f := Z4) (s := m) hgi
  have hnx := R5 (f := Z4) (s := m) hgi
  have o3 := a3y _ (b7h (by decide) (hx1.mono (m := 17179869184) (by decide)) (hx2.mono (m := 17179869184) (by decide)) (hx3.mono (m := 17179869184) (by decide)) (hx4.mono (m := 17179869184) (by decide)))
  have o4 := K5 x.low.x x.high.x (hx1.mono (by decide)) (hx3.mono (by decide))
  have o5 := K5 x.low.y x.high.y (hx2.mono (by decide)) (hx4.mono (by decide))
  have o2 := fun (E : Ctx) (hP : E.P = Tryz.prog) => hnm E hP m x.name (by omega) (by omega)
  have hal := a5a m x.name
  rw [b6e] at hst hnx
  rw [b9a] at hst hnx
  generalize [x.low.x, x.low.y, x.high.x, x.high.y].all j4 = q2 at *
  generalize Nm.q9 (Nm.d9 x.low.x) (Nm.d9 x.high.x) = s3 at *
  generalize Nm.q9 (Nm.d9 x.low.y) (Nm.d9 x.high.y) = s4 at *
  generalize J6 m x.name = r at *
  obtain ⟨a2, m'⟩ := r
  obtain ⟨xn, ⟨lx, ly⟩, ⟨ux, uy⟩⟩ := x
  simp only [rts, rcs, rc, sb, ints, c1F, c1L] at o2 o3 o4 o5 hal hst hnx
  (repeat first | refine uA ?_ | (refine uK ?_ ?_; focus first | omega | (intros; simp_all <;> omega)) | simp (disch := omega) only [go_sem, Nat.reduceBEq, Nat.reduceAdd, ww, hgi, c1n, c1m, Gt.enc, sb, c1q, hcal, c1F, c1L] | refine l9.t (l8.b3I _ (o2 _ rfl) rfl rfl rfl) ?_)
  refine S.cond rfl (fun hc2 => ?_) (fun hc2 => ?_)
  ·have h0 : a2 ≠ 0 := by simpa using hc2
   rw [if_pos h0] at hst
   rw [hst h0] at hg
   injection hg with g1 g2
   rw [if_pos (by rw [g1]; exact h0), g1]
   (repeat first | refine uA ?_ | (refine uK ?_ ?_; focus first | omega | (intros; simp_all <;> omega)) | simp (disch := omega) only [go_sem, Nat.reduceBEq, Nat.reduceAdd, ww])
   exact S.done (j3.out rfl (Imp.refl rfl) rfl)
  have h0 : ¬ a2 ≠ 0 := by simpa using hc2
  rw [if_neg h0] at hst hnx
  (repeat first | refine uI ?_ | (refine uK ?_ ?_; focus first | omega | (intros; simp_all <;> omega)) | simp (disch := omega) only [go_sem, Nat.reduceBEq, Nat.reduceAdd, ww])
  refine S.H6 [.gone, .gone, .gone, .box 116 [.v (.string (bs xn)), .v (.bool lx.neg), .v (.string (bs lx.num)), .v (.string (bs lx.den)), .v (.bool ly.neg), .v (.string (bs ly.num)), .v (.string (bs ly.den)), .v (.bool ux.neg), .v (.string (bs ux.num)), .v (.string (bs ux.den)), .v (.bool uy.neg), .v (.string (bs uy.num)), .v (.string (bs uy.den))]] (by simp [Eng.F3, Eng.X0]) ?_
  (repeat first | refine uG o4 ?_ | refine uG o5 ?_ | refine uG o3 ?_ | refine uA ?_ | (refine uK ?_ ?_; focus first | omega | (intros; simp_all <;> omega)) | simp (disch := omega) only [go_sem, Nat.reduceBEq, Nat.reduceAdd, ww, F3] | (refine uD o4 ?_ ?_ ?_; exact tz hw; exact rfl) | (refine uD o5 ?_ ?_ ?_; exact tz hw; exact rfl) | (refine uE o3 ?_ ?_ ?_ ?_; exact tz hw; exact rfl; focus (repeat' first | exact l6.nil | exact Imp.refl rfl | exact Imp.frz rfl rfl rfl | (refine Imp.O8 rfl rfl ?_ ?_; (focus ((try simp only [c1p, F3]); omega)); (focus first | rfl | assumption)) | refine l6.cons ?_ ?_); done))
  refine S.cond rfl (fun hc3 => ?_) (fun hc3 => ?_)
  ·rw [if_neg (by rw [hc3]; decide)] at hst
   rw [hst (show (1 : Int) ≠ 0 by decide)] at hg
   injection hg with g1 g2
   rw [if_pos (by rw [g1]; decide), g1]
   (repeat first | refine uA ?_ | (refine uK ?_ ?_; focus first | omega | (intros; simp_all <;> omega)) | simp (disch := omega) only [go_sem, Nat.reduceBEq, Nat.reduceAdd, ww])
   exact S.done (j3.out rfl (Imp.refl rfl) rfl)
  ·rw [if_pos (by rw [hc3]; rfl)] at hnx
   (repeat first | refine uA ?_ | (refine uK ?_ ?_; focus first | omega | (intros; simp_all <;> omega)) | simp (disch := omega) only [go_sem, Nat.reduceBEq, Nat.reduceAdd, ww])
   refine S.next (x := (k, m)) (k + 1, m') ⟨by simp only; omega, by simp only; omega, by simp only; rw [hg]; exact hnx rfl⟩ (by simp only; omega) (by (repeat first | refine uA ?_ | (refine ⟨?_, ?_⟩; focus first | rfl | simp [slot]) | rfl | simp))
 rw [V9 (by omega)] at hg
 injection hg with g1 g2
 subst g1
 rw [if_neg (show ¬ (0 : Int) ≠ 0 by simp)]
 (repeat first | refine uG h7 ?_ | refine uG h6 ?_ | refine uA ?_ | (refine uK ?_ ?_; focus first | omega | (intros; simp_all <;> omega)) | simp (disch := omega) only [go_sem, Nat.reduceBEq, Nat.reduceAdd, ww] | (refine uD h7 ?_ ?_ ?_; exact tz hw; exact rfl) | (refine uE h6 ?_ ?_ ?_ ?_; exact tz hw; exact rfl; focus (repeat' first | exact l6.nil | exact Imp.refl rfl | exact Imp.frz rfl rfl rfl | (refine Imp.O8 rfl rfl ?_ ?_; (focus ((try simp only [c1p]); omega)); (focus first | rfl | assumption)) | refine l6.cons ?_ ?_); done))
 refine S.cond rfl (fun hc => ?_) (fun hc => ?_)
 ·rw [if_pos (by simpa using hc)]
  (repeat first | refine uA ?_ | (refine uK ?_ ?_; focus first | omega | (intros; simp_all <;> omega)) | simp (disch := omega) only [go_sem, Nat.reduceBEq, Nat.reduceAdd, ww])
  exact S.done (j3.out rfl (Imp.refl rfl) rfl)
 ·rw [if_neg (by simpa using hc)]
  (repeat first | refine uA ?_ | (refine uK ?_ ?_; focus first | omega | (intros; simp_all <;> omega)) | simp (disch := omega) only [go_sem, Nat.reduceBEq, Nat.reduceAdd, ww])
  exact S.done (j3.out rfl (Imp.refl rfl) rfl)
theorem b4K (v s : Rat) : 0 < Nm.q9 (E9 v) s <-> (0 < Nm.q9 v s \/ 0 < Nm.q9 (-v) s) := by
 rw [U1, U1, U1]
 have hn : v.num < 0 <-> v < 0 := by
  have := @Rat.num_nonneg v
  rw [<- Rat.not_le, <- this]; omega
 unfold E9
 by_cases h : v < 0
 ·rw [if_pos (hn.2 h)]
  constructor
  ·exact .inr
  ·rintro (h1 | h1)
   ·grind
   ·exact h1
 ·rw [if_neg (fun h2 => h (hn.1 h2))]
  constructor
  ·exact .inl
  ·rintro (h1 | h1)
   ·exact h1
   ·grind
theorem b5P (h : List Int) (n k : Int) : (a1H h n).contains k = (h.contains k || decide (n = k)) := by
 rw [Bool.eq_iff_iff]
 unfold a1H
 split
 ·rename_i h1
  simp only [List.contains_iff_mem, c1U, c1r] at h1 ⊢
  exact ⟨.inl, fun h2 => h2.elim id fun h3 => h3 ▸ h1⟩
 ·simp only [List.contains_iff_mem, List.mem_append, List.mem_singleton, c1U, c1r]
  exact ⟨fun h2 => h2.imp id Eq.symm, fun h2 => h2.imp id Eq.symm⟩
theorem b2A {α : Type} {f : α -> Bool} {l : List α} {i : Nat} {x : α} (h : l[i]? = some x) : (l.take (i + 1)).any f = ((l.take i).any f || f x) := by
 rw [List.take_succ, h]; simp
theorem b7q (f : Fr) : Y6 f = !(!([f.x, f.y, f.t].all D8) || (f.half && !decide (y7 (Nm.d9 f.t) = 0))) := by
 rw [a4a]
 unfold Y6 a1Z
 cases D8 f.x <;> cases D8 f.y <;> cases D8 f.t <;> cases f.half <;> cases decide (y7 (Nm.d9 f.t) = 0) <;> rfl
theorem b6V (w : Wk) (s : Stt) (hb : Wb 1073741824 w) (hs : Stb 1073741824 s) : FZ 39 [w.c, s.c] (ints (R7 w s)) := by
 refine kW Tryz.func39 (by cbv) (by rfl) fun w' O hw => ?_
 have hwk := b7b w hb
 obtain ⟨⟨n1, b1⟩, ⟨n2, b2⟩, ⟨n3, b3⟩, n4⟩ := hs
 obtain ⟨m1, a1⟩ := hb.arms
 have m2 := hb.parts.1
 have m3 := hb.gates.1
 unfold R7
 generalize W9 w = e0 at *
 generalize hr : C8 (V7 w.parts.length) [] (w.arms.zip s.arms) = r
 obtain ⟨e1, hfin⟩ := r
 generalize hg1 : s.parts.all Y6 = pA
 generalize hg2 : s.people.all a1V = pB
 obtain ⟨arms, walls, parts, slots, gates, walk⟩ := w
 obtain ⟨tick, sarms, sparts, people, sgates⟩ := s
 simp only at *
 simp only [j5]
 simp only [Wk.c, Wk.enc, Stt.c, Stt.enc, ams, wls, pts, sls, gts, E8, frs, vts, bls, sb, ints] at hwk ⊢
 (repeat first | refine uA ?_ | (refine uK ?_ ?_; focus first | omega | (intros; simp_all <;> omega)) | simp (disch := omega) only [go_sem, Nat.reduceBEq, Nat.reduceAdd, ww] | (refine uD hwk ?_ ?_ ?_; exact tz hw; exact rfl))
 refine S.cond rfl (fun hc => ?_) (fun hc => ?_)
 ·rw [if_pos (by simpa using hc)]
  (repeat first | refine uA ?_ | (refine uK ?_ ?_; focus first | omega | (intros; simp_all <;> omega)) | simp (disch := omega) only [go_sem, Nat.reduceBEq, Nat.reduceAdd, ww])
  exact S.done (j3.out rfl (Imp.refl rfl) rfl)
 rw [if_neg (by simpa using hc)]
 (repeat first | refine uA ?_ | (refine uK ?_ ?_; focus first | omega | (intros; simp_all <;> omega)) | simp (disch := omega) only [go_sem, Nat.reduceBEq, Nat.reduceAdd, ww, c1m])
 refine S.cond rfl (fun hc => ?_) (fun hc => ?_)
 ·rw [if_pos (by simp only [c1r] at hc; omega)]
  (repeat first | refine uA ?_ | (refine uK ?_ ?_; focus first | omega | (intros; simp_all <;> omega)) | simp (disch := omega) only [go_sem, Nat.reduceBEq, Nat.reduceAdd, ww])
  exact S.done (j3.out rfl (Imp.refl rfl) rfl)
 rw [if_neg (by simp only [c1v] at hc; omega)]
 (repeat first | refine uA ?_ | (refine uK ?_ ?_; focus first | omega | (intros; simp_all <;> omega)) | simp (disch := omega) only [go_sem, Nat.reduceBEq, Nat.reduceAdd, ww, c1m])
 refine S.cond rfl (fun hc => ?_) (fun hc => ?_)
 ·rw [if_pos (by simp only [c1U, Bool.not_eq_true', c1r, c1v] at hc; omega)]
  (repeat first | refine uA ?_ | (refine uK ?_ ?_; focus first | omega | (intros; simp_all <;> omega)) | simp (disch := omega) only [go_sem, Nat.reduceBEq, Nat.reduceAdd, ww])
  exact S.done (j3.out rfl (Imp.refl rfl) rfl)
 have hls : sarms.length = arms.length := by simp only [c1D, Bool.not_eq_false', c1r, c1v] at hc; omega
 rw [if_neg (by simp only [c1D, Bool.not_eq_false', c1r, c1v] at hc; omega)]
 clear hc
 (repeat first | refine uA ?_ | (refine uK ?_ ?_; focus first | omega | (intros; simp_all <;> omega)) | simp (disch := omega) only [go_sem, Nat.reduceBEq, Nat.reduceAdd, ww, c1m])
 refine S.loop (X := Nat × List Int) (fun x => ⟨[(2, .bp 0 0), (3, .bp 1 0), (63, E8 sarms), (64, ints sarms.length), (65, ints x.1)], [.box 31 [ams arms, wls walls, pts parts, sls slots, gts gates, .v (.bool walk.neg), sb walk.num, sb walk.den], .box 37 [ints tick, E8 sarms, frs sparts, vts people, bls sgates]]⟩)
  (fun x => x.1 <= sarms.length /\ (∀ k, x.2.contains k = (sarms.take x.1).any fun y => decide (y.holds = k)) /\ (e1, hfin) = C8 (V7 parts.length) x.2 ((arms.zip sarms).drop x.1)) (fun x => sarms.length - x.1) (0, []) ⟨c1s _, fun k => rfl, hr.symm⟩ (by (repeat first | refine uA ?_ | (refine ⟨?_, ?_⟩; focus first | rfl | simp [slot]) | rfl | simp)) ?_
 rintro ⟨i, h⟩ ⟨hi, hk, hg⟩
 simp only [ams, wls, pts, sls, gts, E8, frs, vts, bls, sb, ints] at hi hk hg ⊢
 (repeat first | refine uA ?_ | (refine uK ?_ ?_; focus first | omega | (intros; simp_all <;> omega)) | simp (disch := omega) only [go_sem, Nat.reduceBEq, Nat.reduceAdd, ww])
 (refine uJ rfl (fun hc => ?_) fun hc => ?_)
 ·have hgx := c1l (show i < sarms.length by omega)
  have hga := c1l (show i < arms.length by omega)
  generalize sarms[i]'_ = x at hgx
  generalize arms[i]'_ = a at hga
  have hz := H7 hga hgx
  have hst := R4 (f := V7 parts.length) (s := h) hz
  have hnx := R5 (f := V7 parts.length) (s := h) hz
  have hv : V7 parts.length h (a, x) = if a0R a x parts.length ≠ 0 then (a0R a x parts.length, h) else if (decide (0 <= x.holds) && h.contains x.holds) = true then (10, h) else (0, a1H h x.holds) := rfl
  rw [hv] at hst hnx
  clear hv
  have hxb := b1 x (c1o hgx)
  have hab := a1 a (c1o hga)
  have o1 := a3p x.q ⟨by have := hxb.1.1; omega, fun r hr => (hxb.1.2 r hr).mono (by decide)⟩
  have o2 := a3p x.v ⟨by have := hxb.2.1; omega, fun r hr => (hxb.2.2 r hr).mono (by decide)⟩
  have o3 := b5D a x.q hab hxb.1
  have hone : a0R a x parts.length = if (x.q.all D8 && x.v.all D8) = false then 3 else if a1f a x.q ≠ 0 then a1f a x.q else if x.v.length ≠ a.links.length \/ x.holds < -1 \/ (parts.length : Int) <= x.holds then 1 else D9 U9 (a.links.zip x.v) := rfl
  have hkh := hk x.holds
  have hkn : ∀ k, (a1H h x.holds).contains k = (sarms.take (i + 1)).any fun y => decide (y.holds = k) := fun k => by rw [b5P, hk, b2A hgx]
  generalize h.contains x.holds = c1 at *
  generalize a1H h x.holds = h' at *
  generalize a0R a x parts.length = o at *
  generalize hq1 : x.q.all D8 = q1 at *
  generalize hq2 : x.v.all D8 = q2 at *
  generalize a1f a x.q = fe at *
  obtain ⟨hvn, hvb⟩ := hxb.2
  obtain ⟨_, _, hln, hlb⟩ := hab
  obtain ⟨an, ⟨bx, by', bh, bt⟩, links⟩ := a
  obtain ⟨xq, xv, xp, xh⟩ := x
  have hai : (i : Int) < arms.length := by omega
  simp only [Am.c, Am.enc, lks, rts, sb, ints] at o1 o2 o3 hone hkh hkn hvn hvb hln hlb hst hnx
  clear hq1 hq2 hk
  (repeat first | refine uA ?_ | (refine uK ?_ ?_; focus first | omega | (intros; simp_all <;> omega)) | simp (disch := omega) only [go_sem, Nat.reduceBEq, Nat.reduceAdd, ww, hga, hgx, c1n, c1m, Am.enc, Ast.enc, lks, rts, sb, ints, c1q] | (refine uD o1 ?_ ?_ ?_; exact tz hw; exact rfl) | (refine uD o2 ?_ ?_ ?_; exact tz hw; exact rfl))
  refine S.cond rfl (fun hc2 => ?_) (fun hc2 => ?_)
  ·rw [if_pos (by cases q1 <;> cases q2 <;> simp_all)] at hone
   subst hone
   rw [if_pos (by decide)] at hst
   rw [hst (show (3 : Int) ≠ 0 by decide)] at hg
   injection hg with g1 g2
   rw [if_pos (by rw [g1]; decide), g1]
   (repeat first | refine uA ?_ | (refine uK ?_ ?_; focus first | omega | (intros; simp_all <;> omega)) | simp (disch := omega) only [go_sem, Nat.reduceBEq, Nat.reduceAdd, ww])
   exact S.done (j3.out rfl (Imp.refl rfl) rfl)
  rw [if_neg (by cases q1 <;> cases q2 <;> simp_all)] at hone
  (repeat first | refine uA ?_ | (refine uK ?_ ?_; focus first | omega | (intros; simp_all <;> omega)) | simp (disch := omega) only [go_sem, Nat.reduceBEq, Nat.reduceAdd, ww, hga, c1n, c1m, Am.enc, lks, sb, c1q] | (refine uD o3 ?_ ?_ ?_; exact tz hw; exact rfl))
  refine S.cond rfl (fun hc3 => ?_) (fun hc3 => ?_)
  ·have h0 : fe ≠ 0 := by simpa using hc3
   rw [if_pos h0] at hone
   subst hone
   rw [if_pos h0] at hst
   rw [hst h0] at hg
   injection hg with g1 g2
   rw [if_pos (by rw [g1]; exact h0), g1]
   (repeat first | refine uA ?_ | (refine uK ?_ ?_; focus first | omega | (intros; simp_all <;> omega)) | simp (disch := omega) only [go_sem, Nat.reduceBEq, Nat.reduceAdd, ww])
   exact S.done (j3.out rfl (Imp.refl rfl) rfl)
  rw [if_neg (by simpa using hc3)] at hone
  (repeat first | refine uA ?_ | (refine uK ?_ ?_; focus first | omega | (intros; simp_all <;> omega)) | simp (disch := omega) only [go_sem, Nat.reduceBEq, Nat.reduceAdd, ww, c1m])
  refine S.cond rfl (fun hc4 => ?_) (fun hc4 => ?_)
  ·rw [if_pos (by simp only [c1U, Bool.not_eq_true', c1r, c1v] at hc4; omega)] at hone
   subst hone
   rw [if_pos (by decide)] at hst
   rw [hst (show (1 : Int) ≠ 0 by decide)] at hg
   injection hg with g1 g2
   rw [if_pos (by rw [g1]; decide), g1]
   (repeat first | refine uA ?_ | (refine uK ?_ ?_; focus first | omega | (intros; simp_all <;> omega)) | simp (disch := omega) only [go_sem, Nat.reduceBEq, Nat.reduceAdd, ww])
   exact S.done (j3.out rfl (Imp.refl rfl) rfl)
  rw [if_neg (by simp only [c1D, Bool.not_eq_false', c1r, c1v] at hc4; omega)] at hone
  have hvl : xv.length = links.length := by simp only [c1D, Bool.not_eq_false', c1r, c1v] at hc4; omega
  clear hc3 hc4 hc2 o1 o2 o3
  (repeat first | refine uA ?_ | (refine uK ?_ ?_; focus first | omega | (intros; simp_all <;> omega)) | simp (disch := omega) only [go_sem, Nat.reduceBEq, Nat.reduceAdd, ww, c1m])
  refine S.loop (X := Nat) (fun j => ⟨[(2, .bp 0 0), (3, .bp 1 0), (63, E8 sarms), (64, ints sarms.length), (65, ints i), (6, ints i), (7, .bp 2 0), (8, lks links), (117, rts xv), (118, ints xv.length), (119, ints j)], [.box 31 [ams arms, wls walls, pts parts, sls slots, gts gates, .v (.bool walk.neg), sb walk.num, sb walk.den], .box 37 [ints tick, E8 sarms, frs sparts, vts people, bls sgates], .box 90 [rts xq, rts xv, .v (.bool xp), ints xh]]⟩)
   (fun j => j <= xv.length /\ o = D9 U9 ((links.zip xv).drop j)) (fun j => xv.length - j) 0 ⟨c1s _, hone⟩ (by (repeat first | refine uA ?_ | (refine ⟨?_, ?_⟩; focus first | rfl | simp [slot]) | rfl | simp)) ?_
  rintro j ⟨hj, hsp⟩
  simp only [ams, wls, pts, sls, gts, E8, frs, vts, bls, lks, rts, sb, ints] at hj hsp ⊢
  (repeat first | refine uA ?_ | (refine uK ?_ ?_; focus first | omega | (intros; simp_all <;> omega)) | simp (disch := omega) only [go_sem, Nat.reduceBEq, Nat.reduceAdd, ww])
  (refine uJ rfl (fun hc => ?_) fun hc => ?_)
  ·have hgv := c1l (show j < xv.length by omega)
   have hgl := c1l (show j < links.length by omega)
   generalize xv[j]'_ = v at hgv
   generalize links[j]'_ = l at hgl
   have hz2 := H7 hgl hgv
   have s1 := a0c (f := U9) hz2
   have s2 := a0g (f := U9) hz2
   have vb := hvb v (c1o hgv)
   have lb := (hlb l (c1o hgl)).2.2.2.1
   have p1 := K5 v l.speed (vb.mono (by decide)) (lb.mono (by decide))
   have p2 := b1e v (vb.mono (by decide))
   have p3 := K5 (Nm.ofQ (- Nm.d9 v)) l.speed ((b4H vb (by decide)).mono (by decide)) (lb.mono (by decide))
   rw [Nm.F7] at p3
   have hsv : U9 (l, v) = if (0 < Nm.q9 (Nm.d9 v) (Nm.d9 l.speed) \/ 0 < Nm.q9 (- Nm.d9 v) (Nm.d9 l.speed)) then 1 else 0 := by
    unfold U9
    simp only [b4K]
   rw [hsv] at s1 s2
   unfold rq at p2
   generalize Nm.q9 (Nm.d9 v) (Nm.d9 l.speed) = c2 at *
   generalize Nm.q9 (- Nm.d9 v) (Nm.d9 l.speed) = c3 at *
   generalize Nm.ofQ (- Nm.d9 v) = nv at *
   have hjl : (j : Int) < links.length := by omega
   simp only [rc, sb, ints] at p1 p2 p3
   (repeat first | refine uA ?_ | (refine uK ?_ ?_; focus first | omega | (intros; simp_all <;> omega)) | simp (disch := omega) only [go_sem, Nat.reduceBEq, Nat.reduceAdd, ww, hgv, hgl, c1n, c1m, rcs, Lk.enc, vts, sb, c1q] | (refine uD p1 ?_ ?_ ?_; exact tz hw; exact rfl) | (refine uD p2 ?_ ?_ ?_; exact tz hw; exact rfl) | (refine uD p3 ?_ ?_ ?_; exact tz hw; exact rfl))
   refine S.cond rfl (fun hc5 => ?_) (fun hc5 => ?_)
   ·rw [if_pos (by simp only [c1U, c1r] at hc5; omega)] at s1
    rw [s1 (by decide)] at hsp
    subst hsp
    rw [if_pos (by decide)] at hst
    rw [hst (show (1 : Int) ≠ 0 by decide)] at hg
    injection hg with g1 g2
    rw [if_pos (by rw [g1]; decide), g1]
    (repeat first | refine uA ?_ | (refine uK ?_ ?_; focus first | omega | (intros; simp_all <;> omega)) | simp (disch := omega) only [go_sem, Nat.reduceBEq, Nat.reduceAdd, ww])
    exact S.done (j3.out rfl (Imp.refl rfl) rfl)
   ·rw [if_neg (by simp only [c1D, c1v] at hc5; omega)] at s2
    (repeat first | refine uA ?_ | (refine uK ?_ ?_; focus first | omega | (intros; simp_all <;> omega)) | simp (disch := omega) only [go_sem, Nat.reduceBEq, Nat.reduceAdd, ww])
    refine S.next (j + 1) ⟨by omega, by rw [hsp]; exact s2 rfl⟩ (by omega) (by (repeat first | refine uA ?_ | (refine ⟨?_, ?_⟩; focus first | rfl | simp [slot]) | rfl | simp))
  rw [a0C (by rw [List.length_zip]; omega)] at hsp
  subst hsp
  rw [if_neg (by decide)] at hst hnx
  clear hj hone
  have htl : (sarms.take i).length = i := by rw [c1z]; omega
  (repeat first | refine uA ?_ | (refine uK ?_ ?_; focus first | omega | (intros; simp_all <;> omega)) | simp (disch := omega) only [go_sem, Nat.reduceBEq, Nat.reduceAdd, ww, c1m, htl, c1q])
  refine S.loop (X := Nat) (fun j => ⟨[(2, .bp 0 0), (3, .bp 1 0), (63, E8 sarms), (64, ints sarms.length), (65, ints i), (6, ints i), (7, .bp 2 0), (147, E8 (sarms.take i)), (148, ints i), (149, ints j)], [.box 31 [ams arms, wls walls, pts parts, sls slots, gts gates, .v (.bool walk.neg), sb walk.num, sb walk.den], .box 37 [ints tick, E8 sarms, frs sparts, vts people, bls sgates], .box 90 [rts xq, rts xv, .v (.bool xp), ints xh]]⟩)
   (fun j => j <= i /\ (0 <= xh -> ((sarms.take i).take j).any (fun y => decide (y.holds = xh)) = false)) (fun j => i - j) 0 ⟨c1s _, fun _ => rfl⟩ (by (repeat first | refine uA ?_ | (refine ⟨?_, ?_⟩; focus first | rfl | simp [slot]) | rfl | simp)) ?_
  rintro j ⟨hj, hno⟩
  simp only [ams, wls, pts, sls, gts, E8, frs, vts, bls, rts, sb, ints] at hj hno ⊢
  (repeat first | refine uA ?_ | (refine uK ?_ ?_; focus first | omega | (intros; simp_all <;> omega)) | simp (disch := omega) only [go_sem, Nat.reduceBEq, Nat.reduceAdd, ww])
  (refine uJ rfl (fun hc => ?_) fun hc => ?_)
  ·have hgy := c1l (show j < (sarms.take i).length by omega)
   generalize (sarms.take i)[j]'_ = y at hgy
   have hae := b2A (f := fun y : Ast => decide (y.holds = xh)) hgy
   have hah := c1o hgy
   generalize sarms.take i = L at *
   obtain ⟨yq, yv, yp, yh⟩ := y
   simp only at hae
   (repeat first | refine uA ?_ | (refine uK ?_ ?_; focus first | omega | (intros; simp_all <;> omega)) | simp (disch := omega) only [go_sem, Nat.reduceBEq, Nat.reduceAdd, ww, hgy, c1n, c1m, Ast.enc, rts, sb, ints, c1q, htl])
   refine S.cond rfl (fun hc5 => ?_) (fun hc5 => ?_)
   ·have hx0 : 0 <= xh /\ xh = yh := by simpa using hc5
    have hc1 : c1 = true := by
     rw [hkh, List.any_eq_true]
     exact ⟨_, hah, by simp [hx0.2]⟩
    rw [if_pos (by rw [hc1]; simp [hx0.1])] at hst
    rw [hst (show (10 : Int) ≠ 0 by decide)] at hg
    injection hg with g1 g2
    rw [if_pos (by rw [g1]; decide), g1]
    (repeat first | refine uA ?_ | (refine uK ?_ ?_; focus first | omega | (intros; simp_all <;> omega)) | simp (disch := omega) only [go_sem, Nat.reduceBEq, Nat.reduceAdd, ww])
    exact S.done (j3.out rfl (Imp.refl rfl) rfl)
   ·(repeat first | refine uA ?_ | (refine uK ?_ ?_; focus first | omega | (intros; simp_all <;> omega)) | simp (disch := omega) only [go_sem, Nat.reduceBEq, Nat.reduceAdd, ww])
    refine S.next (j + 1) ⟨by omega, fun h0 => ?_⟩ (by omega) (by (repeat first | refine uA ?_ | (refine ⟨?_, ?_⟩; focus first | rfl | simp [slot]) | rfl | simp))
    rw [hae, hno h0, Bool.false_or]
    have : ¬ (0 <= xh /\ xh = yh) := by simpa using hc5
    exact decide_eq_false (fun e => this ⟨h0, e.symm⟩)
  have hj' : j = i := by omega
  subst hj'
  rw [if_neg (by
   intro hc6
   rw [c1x, c1r] at hc6
   have := hno hc6.1
   rw [c1G (by omega)] at this
   rw [hkh, this] at hc6
   exact absurd hc6.2 (by decide))] at hnx
  (repeat first | refine uA ?_ | (refine uK ?_ ?_; focus first | omega | (intros; simp_all <;> omega)) | simp (disch := omega) only [go_sem, Nat.reduceBEq, Nat.reduceAdd, ww])
  refine S.next (x := (j, h)) (j + 1, h') ⟨by simp only; omega, hkn, by simp only; rw [hg]; exact hnx rfl⟩ (by simp only; omega) (by (repeat first | refine uA ?_ | (refine ⟨?_, ?_⟩; focus first | rfl | simp [slot]) | rfl | simp))
 rw [V9 (by rw [List.length_zip]; omega)] at hg
 injection hg with g1 g2
 subst g1
 rw [if_neg (show ¬ (0 : Int) ≠ 0 by simp)]
 clear hr b1 a1 hk hi
 (repeat first | refine uA ?_ | (refine uK ?_ ?_; focus first | omega | (intros; simp_all <;> omega)) | simp (disch := omega) only [go_sem, Nat.reduceBEq, Nat.reduceAdd, ww, c1m])
 refine S.loop (X := Nat) (fun i => ⟨[(2, .bp 0 0), (3, .bp 1 0), (166, frs sparts), (167, ints sparts.length), (168, ints i)], [.box 31 [ams arms, wls walls, pts parts, sls slots, gts gates, .v (.bool walk.neg), sb walk.num, sb walk.den], .box 37 [ints tick, E8 sarms, frs sparts, vts people, bls sgates]]⟩)
  (fun i => i <= sparts.length /\ pA = (sparts.drop i).all Y6) (fun i => sparts.length - i) 0 ⟨c1s _, hg1.symm⟩ (by (repeat first | refine uA ?_ | (refine ⟨?_, ?_⟩; focus first | rfl | simp [slot]) | rfl | simp)) ?_
 rintro i' ⟨hi, hg⟩
 simp only [ams, wls, pts, sls, gts, E8, frs, vts, bls, sb, ints] at hi ⊢
 (repeat first | refine uA ?_ | (refine uK ?_ ?_; focus first | omega | (intros; simp_all <;> omega)) | simp (disch := omega) only [go_sem, Nat.reduceBEq, Nat.reduceAdd, ww])
 (refine uJ rfl (fun hc => ?_) fun hc => ?_)
 ·have hgi := c1l (show i' < sparts.length by omega)
  generalize sparts[i']'(_) = f at hgi
  obtain ⟨f1, f2, f3⟩ := b2 f (c1o hgi)
  have hs := a3L (f := Y6) hgi
  rw [b7q] at hs
  have o1 := a3p _ (Rbs.three (by decide) (f1.mono (m := 17179869184) (by decide)) (f2.mono (m := 17179869184) (by decide)) (f3.mono (m := 17179869184) (by decide)))
  have o2 := M5 f.t (f3.mono (by decide))
  generalize [f.x, f.y, f.t].all D8 = q1 at *
  generalize y7 (Nm.d9 f.t) = s1 at *
  obtain ⟨fx, fy, fh, ft⟩ := f
  simp only [rts, rcs, rc, sb, ints, c1F, c1L] at o1 o2 hs
  (repeat first | refine uA ?_ | (refine uK ?_ ?_; focus first | omega | (intros; simp_all <;> omega)) | simp (disch := omega) only [go_sem, Nat.reduceBEq, Nat.reduceAdd, ww, hgi, c1n, c1m, Fr.enc, sb, c1q] | (refine uD o2 ?_ ?_ ?_; exact tz hw; exact rfl) | (refine uE o1 ?_ ?_ ?_ ?_; exact tz hw; exact rfl; focus (repeat' first | exact l6.nil | exact Imp.refl rfl | exact Imp.frz rfl rfl rfl | (refine Imp.O8 rfl rfl ?_ ?_; (focus ((try simp only [c1p, hgi, c1n, c1m, Fr.enc, sb, c1q]); omega)); (focus first | rfl | assumption)) | refine l6.cons ?_ ?_); done))
  refine S.cond rfl (fun hc2 => ?_) (fun hc2 => ?_)
  ·rw [hc2] at hs
   rw [hg, hs, Bool.not_true, Bool.false_and, Bool.false_and, if_neg (by decide)]
   (repeat first | refine uA ?_ | (refine uK ?_ ?_; focus first | omega | (intros; simp_all <;> omega)) | simp (disch := omega) only [go_sem, Nat.reduceBEq, Nat.reduceAdd, ww])
   exact S.done (j3.out rfl (Imp.refl rfl) rfl)
  ·rw [hc2] at hs
   (repeat first | refine uA ?_ | (refine uK ?_ ?_; focus first | omega | (intros; simp_all <;> omega)) | simp (disch := omega) only [go_sem, Nat.reduceBEq, Nat.reduceAdd, ww])
   refine S.next (i' + 1) ⟨by omega, by rw [hg, hs]; rfl⟩ (by omega) (by (repeat first | refine uA ?_ | (refine ⟨?_, ?_⟩; focus first | rfl | simp [slot]) | rfl | simp))
 rw [a4H (by omega)] at hg
 subst hg
 rw [Bool.true_and]
 clear hg1 b2 hi
 (repeat first | refine uA ?_ | (refine uK ?_ ?_; focus first | omega | (intros; simp_all <;> omega)) | simp (disch := omega) only [go_sem, Nat.reduceBEq, Nat.reduceAdd, ww, c1m])
 refine S.loop (X := Nat) (fun i => ⟨[(198, vts people), (199, ints people.length), (200, ints i)], [.box 31 [ams arms, wls walls, pts parts, sls slots, gts gates, .v (.bool walk.neg), sb walk.num, sb walk.den], .box 37 [ints tick, E8 sarms, frs sparts, vts people, bls sgates]]⟩)
  (fun i => i <= people.length /\ pB = (people.drop i).all a1V) (fun i => people.length - i) 0 ⟨c1s _, hg2.symm⟩ (by (repeat first | refine uA ?_ | (refine ⟨?_, ?_⟩; focus first | rfl | simp [slot]) | rfl | simp)) ?_
 rintro i2 ⟨hi, hg⟩
 simp only [ams, wls, pts, sls, gts, E8, frs, vts, bls, sb, ints] at hi ⊢
 (repeat first | refine uA ?_ | (refine uK ?_ ?_; focus first | omega | (intros; simp_all <;> omega)) | simp (disch := omega) only [go_sem, Nat.reduceBEq, Nat.reduceAdd, ww])
 (refine uJ rfl (fun hc => ?_) fun hc => ?_)
 ·have hgi := c1l (show i2 < people.length by omega)
  generalize people[i2]'(_) = f at hgi
  obtain ⟨f1, f2⟩ := b3 f (c1o hgi)
  have hs := a3L (f := a1V) hgi
  rw [show a1V f = [f.x, f.y].all D8 by rw [a3r]; rfl] at hs
  have o1 := a3p _ (Rbs.two (by decide) (f1.mono (m := 17179869184) (by decide)) (f2.mono (m := 17179869184) (by decide)))
  generalize [f.x, f.y].all D8 = q1 at *
  obtain ⟨fx, fy⟩ := f
  simp only [rts, rcs, rc, sb, ints, c1F, c1L] at o1 hs
  (repeat first | refine uA ?_ | (refine uK ?_ ?_; focus first | omega | (intros; simp_all <;> omega)) | simp (disch := omega) only [go_sem, Nat.reduceBEq, Nat.reduceAdd, ww, hgi, c1n, c1m, Vt.enc, sb, c1q] | (refine uE o1 ?_ ?_ ?_ ?_; exact tz hw; exact rfl; focus (repeat' first | exact l6.nil | exact Imp.refl rfl | exact Imp.frz rfl rfl rfl | (refine Imp.O8 rfl rfl ?_ ?_; (focus ((try simp only [c1p, hgi, c1n, c1m, Vt.enc, sb, c1q]); omega)); (focus first | rfl | assumption)) | refine l6.cons ?_ ?_); done))
  refine S.cond rfl (fun hc2 => ?_) (fun hc2 => ?_)
  ·have h0 : q1 = false := by simpa using hc2
   rw [hg, hs, h0, Bool.false_and, if_neg (by decide)]
   (repeat first | refine uA ?_ | (refine uK ?_ ?_; focus first | omega | (intros; simp_all <;> omega)) | simp (disch := omega) only [go_sem, Nat.reduceBEq, Nat.reduceAdd, ww])
   exact S.done (j3.out rfl (Imp.refl rfl) rfl)
  ·have h0 : q1 = true := by simpa using hc2
   (repeat first | refine uA ?_ | (refine uK ?_ ?_; focus first | omega | (intros; simp_all <;> omega)) | simp (disch := omega) only [go_sem, Nat.reduceBEq, Nat.reduceAdd, ww])
   refine S.next (i2 + 1) ⟨by omega, by rw [hg, hs, h0, Bool.true_and]⟩ (by omega) (by (repeat first | refine uA ?_ | (refine ⟨?_, ?_⟩; focus first | rfl | simp [slot]) | rfl | simp))
 rw [a4H (by omega)] at hg
 subst hg
 rw [if_pos rfl]
 (repeat first | refine uA ?_ | (refine uK ?_ ?_; focus first | omega | (intros; simp_all <;> omega)) | simp (disch := omega) only [go_sem, Nat.reduceBEq, Nat.reduceAdd, ww])
 exact S.done (j3.out rfl (Imp.refl rfl) rfl)
def a1u : a0W := ⟨207, [.cell 10 true 5, .tmp 11], .seq (.reg [OA 5 (.box 31 (TT 0)), OA 6 (.box 37 (TT 1)), OA 10 (.alloc 37 [.int .i64 0, .slice none 0 0, .slice none 0 0, .slice none 0 0, .slice none 0 0]), OA 11 (.mv (II 0))]) (.seq (.seq
 (.reg [LL 25 8 5, LL 26 5 6, OA 27 (.call 39 [TT 25, TT 26]), MM 12 27]) (.seq (.reg [MM 28 12, OA 29 (.bin .neq (TT 28) (II 0))]) (.cond (TT 29) (.seq (.reg [OA 30 (.build [.int .i64 0, .slice none 0 0, .slice none 0 0, .slice
 none 0 0, .slice none 0 0] []), MM 31 12, OB (.store 5 (TT 10) (TT 30)), MM 11 31]) .ret) .skip))) (.seq (.seq (.reg [MM 32 2, OA 33 (.len false (TT 32)), FF 34 0 5, VV 35 34, OA 36 (.len false (TT 35)), OA 37 (.bin .neq (TT 33)
 (TT 36)), MM 38 37, MG 39 3 38 false, OC 40 (.len false (TT 39)) 38 false, FG 41 0 5 38 false, VG 42 41 38 false, OC 43 (.len false (TT 42)) 38 false, OC 44 (.bin .neq (TT 40) (TT 43)) 38 false, OA 45 (.pick (TT 38) (.const
 (.bool true)) (TT 44)), MM 46 45, MG 47 4 46 false, OC 48 (.len false (TT 47)) 46 false, FG 49 3 6 46 false, VG 50 49 46 false, OC 51 (.len false (TT 50)) 46 false, OC 52 (.bin .neq (TT 48) (TT 51)) 46 false, OA 53 (.pick (TT
 46) (.const (.bool true)) (TT 52))]) (.cond (TT 53) (.seq (.reg [OA 54 (.build [.int .i64 0, .slice none 0 0, .slice none 0 0, .slice none 0 0, .slice none 0 0] []), OB (.store 5 (TT 10) (TT 54)), OA 11 (.mv (II 1))]) .ret)
 .skip)) (.seq (.seq (.reg [MM 55 4, OA 56 (.len false (TT 55)), OA 57 (.mv (II 0))]) (.block 0 (.loop (.seq (.reg [OA 58 (.bin .lss (TT 57) (TT 56))]) (.seq (.cond (TT 58) .skip (.exit 0)) (.seq (.block 1 (.seq (.reg [OA 59
 (.A9 6 (TT 55) (TT 57)), LL 60 6 59, OA 14 (.alloc 51 [.bool false, .string ⟨#[]⟩, .string ⟨#[]⟩, .bool false, .string ⟨#[]⟩, .string ⟨#[]⟩]), OB (.store 6 (TT 14) (TT 60))]) (.seq (.H6 [.q, .q, .q, .q, .q, .q, .q, .q, .q,
 .q, .q, .q, .q, .q, .q, .q, .q, .q, .q, .q] [FF 61 0 14, LL 62 3 61, FF 63 3 14, LL 64 3 63, OA 65 (.bsl 29 3 2 [.bool false, .string ⟨#[]⟩, .string ⟨#[]⟩] [(0, TT 62), (1, TT 64)]), OA 66 (.call 140 [TT 65]), OA 67 (.un .not
 (TT 66)), MM 68 67, FG 69 0 14 68 false, LG 70 3 69 68 false, OC 71 (.call 75 [TT 70]) 68 false, FG 72 3 14 68 false, LG 73 3 72 68 false, OC 74 (.call 75 [TT 73]) 68 false, OC 75 (.call 74 [TT 71, TT 74]) 68 false, FG 76 5 5 68
 false, LG 77 3 76 68 false, OC 78 (.call 52 [TT 75, TT 77]) 68 false, OC 79 (.bin .gtr (TT 78) (II 0)) 68 false, OA 80 (.pick (TT 68) (.const (.bool true)) (TT 79))]) (.cond (TT 80) (.seq (.reg [OA 81 (.build [.int .i64 0,
 .slice none 0 0, .slice none 0 0, .slice none 0 0, .slice none 0 0] []), OB (.store 5 (TT 10) (TT 81)), OA 11 (.mv (II 1))]) .ret) .skip)))) (.reg [OA 82 (.bin .add (TT 57) (II 1)), MM 57 82]))))))) (.seq (.seq (.reg [FF 83 0 6,
 VV 84 83, OA 85 (.bin .eql (TT 84) (II 2000))]) (.cond (TT 85) (.seq (.reg [OA 86 (.build [.int .i64 0, .slice none 0 0, .slice none 0 0, .slice none 0 0, .slice none 0 0] []), OB (.store 5 (TT 10) (TT 86)), OA 11 (.mv (II 7))])
 .ret) .skip)) (.seq (.reg [LL 87 5 6, OA 88 (.call 162 [TT 87]), OA 15 (.alloc 37 [.int .i64 0, .slice none 0 0, .slice none 0 0, .slice none 0 0, .slice none 0 0]), OB (.store 5 (TT 15) (TT 88))]) (.seq (.reg [FF 89 0 6, VV 90
 89, OA 91 (.bin .add (TT 90) (II 1)), FF 92 0 15, OB (.store 1 (TT 92) (TT 91))]) (.seq (.seq (.reg [FF 93 0 5, VV 94 93, OA 95 (.len false (TT 94)), OA 96 (.mv (II 0))]) (.block 2 (.loop (.seq (.reg [OA 97 (.bin .lss (TT 96)
 (TT 95))]) (.seq (.cond (TT 97) .skip (.exit 2)) (.seq (.block 3 (.seq (.reg [MM 98 96, OA 99 (.A9 12 (TT 94) (TT 96)), LL 100 12 99, OA 17 (.alloc 76 [.string ⟨#[]⟩, .bool false, .string ⟨#[]⟩, .string ⟨#[]⟩, .bool false,
 .string ⟨#[]⟩, .string ⟨#[]⟩, .bool false, .bool false, .string ⟨#[]⟩, .string ⟨#[]⟩, .slice none 0 0]), MM 16 98, OB (.store 12 (TT 17) (TT 100))]) (.seq (.reg [FF 101 1 6, VV 102 101, MM 103 16, OA 104 (.A9 4 (TT 102) (TT
 103)), LL 105 4 104, OA 18 (.alloc 90 [.slice none 0 0, .slice none 0 0, .bool false, .int .i64 0]), OB (.store 4 (TT 18) (TT 105))]) (.seq (.reg [LL 106 12 17, LL 107 4 18, OA 108 (.call 163 [TT 106, TT 107]), OA 19 (.alloc 90
 [.slice none 0 0, .slice none 0 0, .bool false, .int .i64 0]), OB (.store 4 (TT 19) (TT 108))]) (.seq (.seq (.H6 [.q, .q, .q, .q, .q, .q, .q, .q, .q, .q, .q, .q, .q, .q] [MM 109 3, MM 110 16, OA 111 (.A9 1 (TT 109) (TT
 110)), VV 112 111, MM 113 112, LG 114 12 17 113 true, FG 115 0 18 113 true, VG 116 115 113 true, MG 117 2 113 true, MG 118 16 113 true, OC 119 (.A9 1 (TT 117) (TT 118)) 113 true, VG 120 119 113 true, OC 121 (.call 164 [TT
 114, TT 116, TT 120]) 113 true, OA 122 (.pick (TT 113) (TT 121) (.const (.bool false)))]) (.cond (TT 122) (.seq (.H6 [.q, .q, .q, .q, .q, .q, .q, .q, .e none true] [MM 123 2, MM 124 16, OA 125 (.A9 1 (TT 123) (TT 124)), VV
 126 125, OA 127 (.call 150 [TT 126]), FF 128 3 18, VV 129 128, OA 130 (.build [.slice none 0 0, .slice none 0 0, .bool false, .int .i64 0] [(1, (1, TT 127)), (2, (1, .const (.bool true))), (3, (1, TT 129))]), OB (.store 4 (TT
 19) (TT 130))]) (.seq (.reg [MM 131 2, MM 132 16, OA 133 (.A9 1 (TT 131) (TT 132)), VV 134 133, OA 135 (.len false (TT 134)), OA 136 (.mv (II 0))]) (.block 4 (.loop (.seq (.reg [OA 137 (.bin .lss (TT 136) (TT 135))]) (.seq
 (.cond (TT 137) .skip (.exit 4)) (.seq (.block 5 (.seq (.reg [MM 138 136, MM 20 138]) (.H6 [.q, .q, .q, .q, .q, .q, .q, .q, .q, .q, .q, .q, .q, .q, .q, .q, .e none true, .q, .e none true] [FF 139 0 19, VV 140 139, FF 141 0 18,
 VV 142 141, MM 143 20, OA 144 (.A9 3 (TT 142) (TT 143)), LL 145 3 144, MM 146 2, MM 147 16, OA 148 (.A9 1 (TT 146) (TT 147)), VV 149 148, MM 150 20, OA 151 (.A9 3 (TT 149) (TT 150)), LL 152 3 151, OA 153 (.call 16 [TT
 145, TT 152]), OA 154 (.bsl 29 3 1 [.bool false, .string ⟨#[]⟩, .string ⟨#[]⟩] [(0, TT 153)]), OA 155 (.app 29 3 40 (TT 140) (TT 154)), FF 156 0 19, OB (.store 1 (TT 156) (TT 155))]))) (.reg [OA 157 (.bin .add (TT 136) (II 1)),
 MM 136 157])))))))) .skip)) (.seq (.reg [FF 158 1 15, VV 159 158, MM 160 16, LL 161 4 19, OA 162 (.A9 4 (TT 159) (TT 160)), OB (.store 4 (TT 162) (TT 161))]) (.seq (.reg [FF 163 3 19, VV 164 163, OA 165 (.bin .geq (TT 164)
 (II 0))]) (.cond (TT 165) (.seq (.seq (.reg [LL 167 12 17, FF 168 0 19, VV 169 168, OA 170 (.call 165 [TT 167, TT 169]), MM 166 170, OA 171 (.ext (TT 166) 0), OA 172 (.ext (TT 166) 1), OA 21 (.alloc 55 [.bool false, .string
 ⟨#[]⟩, .string ⟨#[]⟩, .bool false, .string ⟨#[]⟩, .string ⟨#[]⟩, .bool false, .bool false, .string ⟨#[]⟩, .string ⟨#[]⟩]), OB (.store 10 (TT 21) (TT 171)), MM 22 172]) (.seq (.reg [MM 173 22, OA 174 (.bin .neq (TT 173) (II 0))])
 (.cond (TT 174) (.seq (.reg [OA 175 (.build [.int .i64 0, .slice none 0 0, .slice none 0 0, .slice none 0 0, .slice none 0 0] []), MM 176 22, OB (.store 5 (TT 10) (TT 175)), MM 11 176]) .ret) .skip))) (.H6 [.q, .q, .q, .q, .q,
 .q, .q, .q, .q, .e none true] [FF 177 2 15, VV 178 177, FF 179 3 19, VV 180 179, LL 181 8 5, MM 182 16, LL 183 4 19, OA 184 (.call 166 [TT 181, TT 182, TT 183]), OA 185 (.A9 10 (TT 178) (TT 180)), OB (.store 10 (TT 185) (TT
 184))])) .skip)))))))) (.reg [OA 186 (.bin .add (TT 96) (II 1)), MM 96 186]))))))) (.seq (.seq (.reg [MM 187 4, OA 188 (.len false (TT 187)), OA 189 (.mv (II 0))]) (.block 6 (.loop (.seq (.reg [OA 190 (.bin .lss (TT 189) (TT
 188))]) (.seq (.cond (TT 190) .skip (.exit 6)) (.seq (.block 7 (.seq (.reg [MM 191 189, OA 192 (.A9 6 (TT 187) (TT 189)), LL 193 6 192, OA 24 (.alloc 51 [.bool false, .string ⟨#[]⟩, .string ⟨#[]⟩, .bool false, .string ⟨#[]⟩,
 .string ⟨#[]⟩]), MM 23 191, OB (.store 6 (TT 24) (TT 193))]) (.H6 [.q, .q, .q, .q, .q, .q, .q, .q, .q, .q, .q, .e none true] [FF 194 3 15, VV 195 194, MM 196 23, FF 197 3 15, VV 198 197, MM 199 23, OA 200 (.A9 6 (TT 198)
 (TT 199)), LL 201 6 200, LL 202 6 24, OA 203 (.call 161 [TT 201, TT 202]), OA 204 (.A9 6 (TT 195) (TT 196)), OB (.store 6 (TT 204) (TT 203))]))) (.reg [OA 205 (.bin .add (TT 189) (II 1)), MM 189 205]))))))) (.seq (.reg [LL
 206 5 15, OB (.store 5 (TT 10) (TT 206)), OA 11 (.mv (II 0))]) .ret)))))))))⟩
theorem a7t : Z8 eff Tryz.prog Tryz.f57 = some a1u := by kernel_rfl
theorem a7j : Tryz.prog.funcs[57]? = some Tryz.f57 := Tryz.func57
set_option maxHeartbeats 32000000
theorem b7a (es : List (List C)) (hn : es.length <= 1073741824) : FNew Tryz.prog 68 [.sl 4 es] 90 4 es := by
 refine FNew.of (eff := eff) Tryz.func68 (by cbv) (by exact c1E rfl) fun w O => ?_
 simp only [j5]
 (repeat first | refine uA ?_ | (refine uK ?_ ?_; focus first | omega | (intros; simp_all <;> omega)) | simp (disch := omega) only [go_sem, Nat.reduceBEq, Nat.reduceAdd, ww])
 refine S.split 4 (Sx := fun y => ∃ b, y = .bool b /\ (es ≠ [] -> b = false)) rfl fun y hy => ?_
 obtain ⟨b, rfl, hb⟩ := hy
 refine S.cond rfl (fun hc => ?_) (fun hc => ?_)
 ·have he : es = [] := Classical.byContradiction fun h => by rw [hb h] at hc; cases hc
  subst he
  (repeat first | refine uA ?_ | (refine uK ?_ ?_; focus first | omega | (intros; simp_all <;> omega)) | simp (disch := omega) only [go_sem, Nat.reduceBEq, Nat.reduceAdd, ww])
  refine S.weaken (Ent.pack 2 90 4 rfl) ?_
  exact S.done (j3.new rfl rfl rfl)
 ·(repeat first | refine uA ?_ | (refine uK ?_ ?_; focus first | omega | (intros; simp_all <;> omega)) | simp (disch := omega) only [go_sem, Nat.reduceBEq, Nat.reduceAdd, ww])
  exact S.done (j3.new rfl rfl rfl)
theorem b6K {E : Ctx} (hP : E.P = Tryz.prog) (s : Stt) (hs : Stb 1073741824 s) :
  l8 E [] 162 [s.c] (.agg [ints s.tick, .rv 2, .rv 3, .rv 4, bls s.gates]) [.gone, .gone, .row 90 4 (s.arms.map Ast.enc), .row 55 10 (s.parts.map Fr.enc), .row 51 6 (s.people.map Vt.enc)] [] := by
 obtain ⟨P, eff', N, w0, own0, av0, nu0, pk0⟩ := E
 simp only at hP
 subst hP
 refine l8.of (eff := c0e) Tryz.func162 (by cbv) (by exact c1E rfl) fun w own av ν hν => ?_
 have hν0 : ν.length <= 0 := by rw [hν]; exact c1w _
 obtain ⟨⟨n1, b1⟩, ⟨n2, b2⟩, ⟨n3, b3⟩, n4⟩ := hs
 obtain ⟨tick, arms, parts, people, gates⟩ := s
 simp only at n1 n2 n3 n4 ⊢
 have c0 := b7a (arms.map Ast.enc) (by rw [c1m]; exact n1)
 have c1 := a7V (parts.map Fr.enc) (by rw [c1m]; exact n2)
 have c2 := b0H (people.map Vt.enc) (by rw [c1m]; exact n3)
 have c3 := (a9i (gates.map fun b => [.v (.bool b)]) (by rw [c1m]; exact n4)).spec
 simp only [j5]
 simp only [Stt.c, Stt.enc, E8, frs, vts, bls, ints]
 (repeat first | refine uI ?_ | (refine uK ?_ ?_; focus first | omega | (intros; simp_all <;> omega)) | simp (disch := omega) only [go_sem, Nat.reduceBEq, Nat.reduceAdd, ww])
 refine S.H6 [.box 37 [.v (.int .i64 tick), .sl 4 (arms.map Ast.enc), .sl 10 (parts.map Fr.enc), .sl 6 (people.map Vt.enc), .sl 1 (gates.map fun b => [.v (.bool b)])]] (by simp [Eng.F3, Eng.X0]) ?_
 (repeat first | refine uA ?_ | (refine uK ?_ ?_; focus first | omega | (intros; simp_all <;> omega)) | simp (disch := omega) only [go_sem, Nat.reduceBEq, Nat.reduceAdd, ww, F3, KMd, c1m] | refine l9.t (FNew.t c0 rfl) ?_ | refine l9.t (FNew.t c1 rfl) ?_ | refine l9.t (FNew.t c2 rfl) ?_ | (refine uB c3 ?_ ?_; exact rfl))
 (refine S.done ?_; simp only [p9, l7, go_sem, Nat.reduceBEq, Nat.reduceAdd, Nat.reduceLeDiff, Int.reduceToNat, Int.reducePow]; (repeat (refine ⟨?_, ?_⟩; focus first | trivial | omega | simp)); exact j3.N7 (Imp.agg (by (repeat' (first | exact l6.nil | exact Imp.refl rfl | exact Imp.frz rfl rfl rfl | exact Imp.K4 | refine l6.cons ?_ ?_)))) (by (repeat first | refine uA ?_ | (refine ⟨?_, ?_⟩; focus first | rfl | simp [slot]) | rfl | simp)) (c1t hν0 (by simp)))
theorem b6E {α : Type} {l m : List α} {i : Nat} {y : α} (hl : l.length = m.length) (hy : m[i]? = some y) : (l.take i ++ m.drop i)[i]? = some y := by
 obtain ⟨hi, rfl⟩ := c1u.1 hy
 have h1 : (l.take i).length = i := by rw [c1z]; omega
 rw [c1B (by omega), h1, Nat.sub_self, c1Y, Nat.add_zero, c1l hi]
theorem b8R (w : Wk) (s : Stt) (u : List (List Nm.Rt)) (p : List Bool) (v : List Vt) (hwb : Wb 1048576 w) (hs : Stb 1048576 s) (hu : Wsb 1048576 u) (hp : p.length <= 1048576) (hv : Vbs 1048576 v) :
    FZ 57 [w.c, s.c, wss u, bls p, vts v] (a3k w s u p v) := by
  refine kW a7j a7t (by rfl) fun w' O hw => ?_
  have hck := b6V w s (hwb.mono (by decide)) (hs.mono (by decide))
  have hcp := fun (E : Ctx) (hP : E.P = Tryz.prog) => b6K hP s (hs.mono (by decide))
  have n1 := hs.arms.1
  have n2 := hs.parts.1
  have n3 := hs.people.1
  have n4 := hs.gates
  have n5 := hwb.arms.1
  have n6 := hu.1
  have n7 := hv.1
  by_cases h0 : R7 w s = 0
  · have hok := a7r h0
    have hE : V4 w s u p v = if u.length ≠ w.arms.length \/ p.length ≠ w.arms.length \/ v.length ≠ s.people.length then 1 else if v.all (a0M w.walk) = false then 1 else if s.tick = 2000 then 7 else 0 := by
      unfold V4; rw [if_neg (by simpa using h0)]
    have hcar := fun (n : Nat) (x : Ast) (a : Am) (q : Nat) (pt : Pt) => b8Z w n x a q pt hwb
    have hone := fun (z : Am × Ast) hz => b0M (hok.one z hz)
    have hbs := hs.arms.2
    have hba := hwb.arms.2
    have hbu := hu.2
    have hbv := hv.2
    have hbp := hs.people.2
    have hkw := hwb.walk
    have hal := a7l (u := u) (p := p) hok.arms
    have hag := @a7o w s u p
    have hpl := a4U w
    have hput : ∀ P z, a4u w P z = if z.2.holds < 0 then P else match w.parts[z.2.holds.toNat]? with | some pt => P.set z.2.holds.toNat (a1j z.1 z.2.q pt.grasp) | none => P := fun _ _ => rfl
    have e1 := hok.arms
    have e2 := hok.parts
    have e3 := hok.tick
    rw [h0] at hck
    unfold a3k a3c
    generalize a2p w s u p = A at *
    generalize a4u w = pP at *
    generalize V4 w s u p v = se at *
    clear hok h0
    obtain ⟨arms, walls, parts, slots, gates, walk⟩ := w
    obtain ⟨tick, sarms, sparts, people, sgates⟩ := s
    simp only at n1 n2 n3 n4 n5 hE hbs hba hbp hkw hal hag hput e1 e2 e3 hone ⊢
    simp only [a1u, j5, TT, II, OA, OB, OC, MM, LL, VV, FF, MG, LG, VG, FG]
    simp only [Wk.c, Wk.enc, Stt.c, Stt.enc, a6v, ams, wls, pts, sls, gts, E8, frs, vts, bls, wss, rts, sb, ints] at hck hcp hcar ⊢
    (repeat first | refine uA ?_ | (refine uK ?_ ?_; focus first | omega | (intros; simp_all <;> omega)) | simp (disch := omega) only [go_sem, Nat.reduceBEq, Nat.reduceAdd, ww] | (refine uD hck ?_ ?_ ?_; exact tz hw; exact rfl))
    refine S.cond rfl (fun hc => by simp at hc) (fun hc => ?_)
    (repeat first | refine uA ?_ | (refine uK ?_ ?_; focus first | omega | (intros; simp_all <;> omega)) | simp (disch := omega) only [go_sem, Nat.reduceBEq, Nat.reduceAdd, ww, c1m])
    refine S.cond rfl (fun hc => ?_) (fun hc => ?_)
    · have hl : u.length ≠ arms.length \/ p.length ≠ arms.length \/ v.length ≠ people.length := by simp only [c1U, Bool.not_eq_true', c1v] at hc; omega
      rw [if_pos hl] at hE
      subst hE
      rw [if_neg (by decide)]
      (repeat first | refine uA ?_ | (refine uK ?_ ?_; focus first | omega | (intros; simp_all <;> omega)) | simp (disch := omega) only [go_sem, Nat.reduceBEq, Nat.reduceAdd, ww])
      (refine S.done ?_; simp only [p9, l7, go_sem, Nat.reduceBEq, Nat.reduceAdd, Nat.reduceLeDiff, Int.reduceToNat, Int.reducePow]; (repeat (refine ⟨?_, ?_⟩; focus first | trivial | omega | simp)); exact j3.out rfl (Imp.tup (by (repeat' (first | exact l6.nil | exact Imp.refl rfl | exact Imp.frz rfl rfl rfl | exact Imp.K4 | refine Imp.agg ?_ | refine l6.cons ?_ ?_)))) rfl)
    have hl : ¬ (u.length ≠ arms.length \/ p.length ≠ arms.length \/ v.length ≠ people.length) := by simp only [c1D, Bool.not_eq_false', c1r] at hc; omega
    rw [if_neg hl] at hE
    have hl1 : u.length = arms.length := by omega
    have hl2 : p.length = arms.length := by omega
    have hl3 : v.length = people.length := by omega
    clear hl
    have hal := hal hl1 hl2
    (repeat first | refine uA ?_ | (refine uK ?_ ?_; focus first | omega | (intros; simp_all <;> omega)) | simp (disch := omega) only [go_sem, Nat.reduceBEq, Nat.reduceAdd, ww, c1m])
    refine S.loop (X := Nat) (fun i => ⟨[(2, wss u), (3, bls p), (4, vts v), (5, .bp 0 0), (6, .bp 1 0), (10, .bp 2 0), (55, vts v), (56, ints v.length), (57, ints i)], [.box 31 [ams arms, wls walls, pts parts, sls slots, gts gates, .v (.bool walk.neg), sb walk.num, sb walk.den], .box 37 [ints tick, E8 sarms, frs sparts, vts people, bls sgates], .box 37 [.v (.int .i64 0), .v (.slice none 0 0), .v (.slice none 0 0), .v (.slice none 0 0), .v (.slice none 0 0)]]⟩) (fun i => i <= v.length /\ v.all (a0M walk) = (v.drop i).all (a0M walk)) (fun i => v.length - i) 0 ⟨c1s _, rfl⟩ (by (repeat first | refine uA ?_ | (refine ⟨?_, ?_⟩; focus first | rfl | simp [slot]) | rfl | simp)) ?_
    rintro i ⟨hi, hg⟩
    simp only [ams, wls, pts, sls, gts, E8, frs, vts, bls, wss, rts, sb, ints] at hi ⊢
    (repeat first | refine uA ?_ | (refine uK ?_ ?_; focus first | omega | (intros; simp_all <;> omega)) | simp (disch := omega) only [go_sem, Nat.reduceBEq, Nat.reduceAdd, ww])
    (refine uJ rfl (fun hc => ?_) fun hc => ?_)
    · have hgv := c1l (show i < v.length by omega)
      generalize v[i]'_ = y at hgv
      have hd := a5j (f := a0M walk) hgv
      obtain ⟨by1, by2⟩ := hbv y (c1o hgv)
      have bx := (by1.mono (m := 17179869184) (by decide))
      have by' := (by2.mono (m := 17179869184) (by decide))
      have o1 := a3p [y.x, y.y] (Rbs.two (by decide) bx by')
      have o3 := a3g y.x bx
      have o4 := a3g y.y by'
      have ra := a1Q (bx.fit (by decide))
      have rb := a1Q (by'.fit (by decide))
      have o5 := b9p (Nm.ofQ (E9 (Nm.d9 y.x))) (Nm.ofQ (E9 (Nm.d9 y.y))) ra rb
      have o6 := K5 (Nm.ofQ (a1a (E9 (Nm.d9 y.x)) (E9 (Nm.d9 y.y)))) walk (by unfold a1a; split; exact ra; exact rb) (hkw.mono (by decide))
      rw [Nm.F7, Nm.F7] at o5
      rw [Nm.F7] at o6
      rw [a3r] at o1
      have hv : a0M walk y = (D8 y.x && D8 y.y && !decide (0 < Nm.q9 (a1a (E9 (Nm.d9 y.x)) (E9 (Nm.d9 y.y))) (Nm.d9 walk))) := rfl
      rw [hv] at hd
      clear hv
      generalize Nm.q9 (a1a (E9 (Nm.d9 y.x)) (E9 (Nm.d9 y.y))) (Nm.d9 walk) = c0 at *
      generalize (D8 y.x && D8 y.y) = g1 at *
      unfold rq at o3 o4 o5
      generalize Nm.ofQ (a1a (E9 (Nm.d9 y.x)) (E9 (Nm.d9 y.y))) = a0 at *
      generalize Nm.ofQ (E9 (Nm.d9 y.x)) = a1 at *
      generalize Nm.ofQ (E9 (Nm.d9 y.y)) = a2 at *
      simp only [rts, rcs, rc, sb, ints, c1F, c1L] at o1 o3 o4 o5 o6
      (repeat first | refine uA ?_ | (refine uK ?_ ?_; focus first | omega | (intros; simp_all <;> omega)) | simp (disch := omega) only [go_sem, Nat.reduceBEq, Nat.reduceAdd, ww, hgv, c1n, c1m, Vt.enc, sb, c1q] | (refine uD o1 ?_ ?_ ?_; exact tz hw; exact rfl) | (refine uD o3 ?_ ?_ ?_; exact tz hw; exact rfl) | (refine uD o4 ?_ ?_ ?_; exact tz hw; exact rfl) | (refine uD o5 ?_ ?_ ?_; exact tz hw; exact rfl) | (refine uD o6 ?_ ?_ ?_; exact tz hw; exact rfl))
      refine S.cond rfl (fun hc2 => ?_) (fun hc2 => ?_)
      · have hf : v.all (a0M walk) = false := by
          rw [hg, hd]
          cases g1
          · rfl
          · rw [show decide (0 < c0) = true by simpa using hc2]; rfl
        rw [if_pos hf] at hE
        subst hE
        rw [if_neg (by decide)]
        (repeat first | refine uA ?_ | (refine uK ?_ ?_; focus first | omega | (intros; simp_all <;> omega)) | simp (disch := omega) only [go_sem, Nat.reduceBEq, Nat.reduceAdd, ww])
        (refine S.done ?_; simp only [p9, l7, go_sem, Nat.reduceBEq, Nat.reduceAdd, Nat.reduceLeDiff, Int.reduceToNat, Int.reducePow]; (repeat (refine ⟨?_, ?_⟩; focus first | trivial | omega | simp)); exact j3.out rfl (Imp.tup (by (repeat' (first | exact l6.nil | exact Imp.refl rfl | exact Imp.frz rfl rfl rfl | exact Imp.K4 | refine Imp.agg ?_ | refine l6.cons ?_ ?_)))) rfl)
      · (repeat first | refine uA ?_ | (refine uK ?_ ?_; focus first | omega | (intros; simp_all <;> omega)) | simp (disch := omega) only [go_sem, Nat.reduceBEq, Nat.reduceAdd, ww])
        refine S.next (i + 1) ⟨by omega, ?_⟩ (by omega) (by (repeat first | refine uA ?_ | (refine ⟨?_, ?_⟩; focus first | rfl | simp [slot]) | rfl | simp))
        rw [hg, hd]
        cases g1
        · simp at hc2
        · rw [show decide (0 < c0) = false by simpa using hc2]; rfl
    rw [List.drop_eq_nil_of_le (by omega), List.all_nil] at hg
    rw [hg, if_neg (by decide)] at hE
    (repeat first | refine uA ?_ | (refine uK ?_ ?_; focus first | omega | (intros; simp_all <;> omega)) | simp (disch := omega) only [go_sem, Nat.reduceBEq, Nat.reduceAdd, ww])
    refine S.cond rfl (fun hc => ?_) (fun hc => ?_)
    · rw [if_pos (by simpa using hc)] at hE
      subst hE
      rw [if_neg (by decide)]
      (repeat first | refine uA ?_ | (refine uK ?_ ?_; focus first | omega | (intros; simp_all <;> omega)) | simp (disch := omega) only [go_sem, Nat.reduceBEq, Nat.reduceAdd, ww])
      (refine S.done ?_; simp only [p9, l7, go_sem, Nat.reduceBEq, Nat.reduceAdd, Nat.reduceLeDiff, Int.reduceToNat, Int.reducePow]; (repeat (refine ⟨?_, ?_⟩; focus first | trivial | omega | simp)); exact j3.out rfl (Imp.tup (by (repeat' (first | exact l6.nil | exact Imp.refl rfl | exact Imp.frz rfl rfl rfl | exact Imp.K4 | refine Imp.agg ?_ | refine l6.cons ?_ ?_)))) rfl)
    rw [if_neg (by simpa using hc)] at hE
    subst hE
    rw [if_pos rfl]
    have htk : IntKind.i64.wrap (tick + 1) = tick + 1 := wrap_i64 (by omega)
    (repeat first | refine uA ?_ | (refine uK ?_ ?_; focus first | omega | (intros; simp_all <;> omega)) | simp (disch := omega) only [go_sem, Nat.reduceBEq, Nat.reduceAdd, ww, C.sh, C.shL, c1J, List.length_nil, c1m, htk] | refine l9.t (l8.pre (hcp _ rfl) rfl rfl rfl) ?_)
    refine S.loop (X := Nat) (fun i => ⟨[(2, wss u), (3, bls p), (4, vts v), (5, .bp 0 0), (6, .bp 1 0), (10, .bp 2 0), (15, .bp 8 0), (94, ams arms), (95, ints arms.length), (96, ints i)], [.box 31 [ams arms, wls walls, pts parts, sls slots, gts gates, .v (.bool walk.neg), sb walk.num, sb walk.den], .box 37 [ints tick, E8 sarms, frs sparts, vts people, bls sgates], .box 37 [.v (.int .i64 0), .v (.slice none 0 0), .v (.slice none 0 0), .v (.slice none 0 0), .v (.slice none 0 0)], .gone, .gone, .row 90 4 ((A.take i ++ sarms.drop i).map Ast.enc), .row 55 10 ((((arms.zip A).take i).foldl pP sparts).map Fr.enc), .row 51 6 (people.map Vt.enc), .box 37 [ints (tick + 1), .rv 5, .rv 6, .rv 7, bls sgates]]⟩) (fun i => i <= arms.length) (fun i => arms.length - i) 0 (c1s _) (by (repeat first | refine uA ?_ | (refine ⟨?_, ?_⟩; focus first | rfl | simp [slot]) | rfl | simp)) ?_
    intro i hi
    simp only [ams, wls, pts, sls, gts, E8, frs, vts, bls, wss, rts, sb, ints] at hi ⊢
    (repeat first | refine uA ?_ | (refine uK ?_ ?_; focus first | omega | (intros; simp_all <;> omega)) | simp (disch := omega) only [go_sem, Nat.reduceBEq, Nat.reduceAdd, ww])
    (refine uJ rfl (fun hc => ?_) fun hc => ?_)
    · have hga := c1l (show i < arms.length by omega)
      have hgx := c1l (show i < sarms.length by omega)
      have hgu := c1l (show i < u.length by omega)
      have hgp := c1l (show i < p.length by omega)
      generalize arms[i]'_ = a at hga
      generalize sarms[i]'_ = x at hgx
      generalize u[i]'_ = ui at hgu
      generalize p[i]'_ = b at hgp
      have hgA := hag hga hgx hgu hgp
      have hz := c1o (H7 hga hgx)
      obtain ⟨k1, k2, k3, k4⟩ := hone _ hz
      simp only at k1 k2 k3 k4
      have bx := hbs x (c1o hgx)
      have bu := hbu ui (c1o hgu)
      have ba := (hba a (c1o hga)).mono (m := 1073741824) (by decide)
      have bx' : Asb 1073741824 x := ⟨⟨c1t bx.1.1 (by decide), fun r hr => (bx.1.2 r hr).mono (by decide)⟩, c1t bx.2.1 (by decide), fun r hr => (bx.2.2 r hr).mono (by decide)⟩
      have bu' : Rbs 1073741824 ui := ⟨c1t bu.1 (by decide), fun r hr => (bu.2 r hr).mono (by decide)⟩
      have o1 := b5V a x ba bx' k2 k3
      have o2 := b1F a x.q ui ba bx'.1 bu' k2
      have c1 := (a2c (ui.map rcs) (by rw [c1m]; exact bu'.1)).spec
      have hfa := fold_at (f := pP) (H7 hga hgA) sparts
      rw [hput] at hfa
      have hh := holds_one a x ui b
      have hql := (a8D (u := ui) (p := b) ⟨k1, k2, k3, k4⟩).1
      have hqb := (b0F (u := ui) (p := b) k1 bx bu.2).1
      have hcar := fun q pt => hcar i (a0x a x ui b) a q pt hga
      have htip := b7A a (a0x a x ui b).q ba k1 hql hqb
      have hPl := hpl ((arms.zip A).take i) sparts
      have s1 := a3t Ast.enc (by omega) hgA (m := sarms)
      have m1 := a2w (l := A) (m := sarms) (i := i) (by omega) (by omega)
      have hoA : a0x a x ui b = if (b && a2s a x.q ui) = true then mvA x ui else a7k a x := rfl
      have hmg := @b4Z x ui
      have hml : a2s a x.q ui = true -> ui.length = a.links.length := fun h => by unfold a2s at h; rw [c1x] at h; exact of_decide_eq_true h.1
      have hMl : (mvQ x ui).length = min x.q.length ui.length := by unfold mvQ; rw [c1m, List.length_zip]
      have hmv : mvA x ui = ⟨mvQ x ui, ui, true, x.holds⟩ := rfl
      generalize hA1 : A.take (i + 1) ++ sarms.drop (i + 1) = A1 at *
      generalize A.take i ++ sarms.drop i = A0 at *
      generalize hP1 : ((arms.zip A).take (i + 1)).foldl pP sparts = P1 at *
      generalize ((arms.zip A).take i).foldl pP sparts = P0 at *
      obtain ⟨z0, hz0⟩ : ∃ z0, A0[i]? = some z0 := ⟨_, c1l (show i < A0.length by omega)⟩
      generalize a0x a x ui b = y at *
      generalize a2s a x.q ui = m at *
      generalize a7k a x = bk at *
      generalize mvQ x ui = M at *
      generalize a1W a.base (a.links.zip y.q) = T at *
      have hxi : (i : Int) < sarms.length := by omega
      have hui : (i : Int) < u.length := by omega
      have hpi : (i : Int) < p.length := by omega
      simp only [Am.c, Am.enc, Ast.c, Ast.enc, Fr.c, Fr.enc, lks, rts, sb, ints] at o1 o2 c1 s1 hcar htip
      (repeat first | refine uA ?_ | (refine uK ?_ ?_; focus first | omega | (intros; simp_all <;> omega)) | simp (disch := omega) only [go_sem, Nat.reduceBEq, Nat.reduceAdd, ww, hga, hgx, hgu, hgp, c1n, c1m, Am.enc, Ast.enc, lks, rts, sb, ints, c1q] | (refine uD o1 ?_ ?_ ?_; exact tz hw; exact rfl) | (refine uD o2 ?_ ?_ ?_; exact tz hw; exact rfl))
      refine S.join (Y := Ast) (fun y => ⟨[(2, wss u), (3, bls p), (4, vts v), (5, .bp 0 0), (6, .bp 1 0), (10, .bp 2 0), (15, .bp 8 0), (16, ints i), (17, .bp 9 0), (19, .bp 11 0), (94, ams arms), (95, ints arms.length), (96, ints i)], [.box 31 [ams arms, wls walls, pts parts, sls slots, gts gates, .v (.bool walk.neg), sb walk.num, sb walk.den], .box 37 [ints tick, E8 sarms, frs sparts, vts people, bls sgates], .box 37 [.v (.int .i64 0), .v (.slice none 0 0), .v (.slice none 0 0), .v (.slice none 0 0), .v (.slice none 0 0)], .gone, .gone, .row 90 4 (A0.map Ast.enc), .row 55 10 (P0.map Fr.enc), .row 51 6 (people.map Vt.enc), .box 37 [ints (tick + 1), .rv 5, .rv 6, .rv 7, bls sgates], .box 76 a.enc, .gone, .box 90 y.enc]⟩) (fun z => z = y) ?_ ?_
      · refine S.cond rfl (fun hc3 => ?_) (fun hc3 => ?_)
        · rw [hc3, if_pos rfl, hmv] at hoA
          have hm : m = true := by rw [c1x] at hc3; exact hc3.2
          have hul := hml hm
          have hun : ui.length <= 1073741824 := bu'.1
          (repeat first | refine uA ?_ | (refine uK ?_ ?_; focus first | omega | (intros; simp_all <;> omega)) | simp (disch := omega) only [go_sem, Nat.reduceBEq, Nat.reduceAdd, ww, hgu, hui, c1n, c1m, rts, c1q] | (refine uB c1 ?_ ?_; exact rfl))
          refine S.loop (X := Nat) (fun k => ⟨[(2, wss u), (3, bls p), (4, vts v), (5, .bp 0 0), (6, .bp 1 0), (10, .bp 2 0), (15, .bp 8 0), (16, ints i), (17, .bp 9 0), (18, .bp 10 0), (19, .bp 11 0), (94, ams arms), (95, ints arms.length), (96, ints i), (135, ints ui.length), (136, ints k)], [.box 31 [ams arms, wls walls, pts parts, sls slots, gts gates, .v (.bool walk.neg), sb walk.num, sb walk.den], .box 37 [ints tick, E8 sarms, frs sparts, vts people, bls sgates], .box 37 [.v (.int .i64 0), .v (.slice none 0 0), .v (.slice none 0 0), .v (.slice none 0 0), .v (.slice none 0 0)], .gone, .gone, .row 90 4 (A0.map Ast.enc), .row 55 10 (P0.map Fr.enc), .row 51 6 (people.map Vt.enc), .box 37 [ints (tick + 1), .rv 5, .rv 6, .rv 7, bls sgates], .box 76 a.enc, .box 90 x.enc, .box 90 [.rv 12, rts ui, .v (.bool true), ints x.holds], .row 29 3 ((M.take k).map rcs)]⟩) (fun k => k <= ui.length) (fun k => ui.length - k) 0 (c1s _) (Ent.trans (Ent.a1q 11 0 29 3 rfl rfl rfl) (by simp only [ams, wls, pts, sls, gts, E8, frs, vts, bls, wss, rts, sb, ints, Am.enc, Ast.enc, lks]; exact (by (repeat first | refine uA ?_ | (refine ⟨?_, ?_⟩; focus first | rfl | simp [slot]) | rfl | simp)))) ?_
          intro k hk
          simp only [ams, wls, pts, sls, gts, E8, frs, vts, bls, wss, rts, sb, ints, Am.enc, Ast.enc, lks]
          (repeat first | refine uA ?_ | (refine uK ?_ ?_; focus first | omega | (intros; simp_all <;> omega)) | simp (disch := omega) only [go_sem, Nat.reduceBEq, Nat.reduceAdd, ww])
          (refine uJ rfl (fun hc => ?_) fun hc => ?_)
          · have hgq := c1l (show k < x.q.length by omega)
            have hgw := c1l (show k < ui.length by omega)
            generalize x.q[k]'_ = qk at hgq
            generalize ui[k]'_ = uk at hgw
            have hap := take_at (hmg hgq hgw)
            have htl : (M.take k).length = k := by rw [c1z]; omega
            have t1 := a0q qk uk ((bx'.1.2 qk (c1o hgq)).mono (by decide)) ((bu'.2 uk (c1o hgw)).mono (by decide))
            unfold rq at t1
            unfold a1N at hap
            generalize Nm.ofQ (Nm.d9 qk + Nm.d9 uk) = zk at *
            have hqk : (k : Int) < x.q.length := by omega
            simp only [rc, sb] at t1
            (repeat first | refine uA ?_ | (refine uK ?_ ?_; focus first | omega | (intros; simp_all <;> omega)) | simp (disch := omega) only [go_sem, Nat.reduceBEq, Nat.reduceAdd, ww, hgq, hgw, hgu, hui, c1n, c1m, rcs, rts, sb, htl, c1q] | (refine uD t1 ?_ ?_ ?_; exact tz hw; exact rfl))
            refine S.next (k + 1) (by omega) (by omega) (by simp only [hap, c2d, c1F, c1L, rcs, sb, ams, wls, pts, sls, gts, E8, frs, vts, bls, wss, rts, sb, ints, Am.enc, Ast.enc, lks]; exact (by (repeat first | refine uA ?_ | (refine ⟨?_, ?_⟩; focus first | rfl | simp [slot]) | rfl | simp)))
          · have hk' : k = ui.length := by omega
            subst hk'
            rw [c1G (by omega)]
            (repeat first | refine uA ?_ | (refine uK ?_ ?_; focus first | omega | (intros; simp_all <;> omega)) | simp (disch := omega) only [go_sem, Nat.reduceBEq, Nat.reduceAdd, ww])
            exact S.met y rfl (by subst hoA; simp only [ams, wls, pts, sls, gts, E8, frs, vts, bls, wss, rts, sb, ints, Am.enc, Ast.enc, lks]; exact Ent.mk _ _ (by (repeat first | refine uA ?_ | (refine ⟨?_, ?_⟩; focus first | rfl | simp [slot]) | rfl | simp)) (by (repeat' (first | exact M4.nil | exact RI.gone _ | exact RI.row _ _ _ _ rfl | exact RI.map _ _ _ rfl | exact RI.box _ _ _ (l6.refl rfl) | (refine RI.box _ _ _ ?_; (repeat' (first | exact l6.nil | exact Imp.refl rfl | exact Imp.frz rfl rfl rfl | exact Imp.K4 | refine l6.cons ?_ ?_))) | refine M4.cons ?_ ?_))) (c1s _))
        · rw [hc3, if_neg (by decide)] at hoA
          subst hoA
          (repeat first | refine uA ?_ | (refine uK ?_ ?_; focus first | omega | (intros; simp_all <;> omega)) | simp (disch := omega) only [go_sem, Nat.reduceBEq, Nat.reduceAdd, ww])
          exact S.met _ rfl (by simp only [ams, wls, pts, sls, gts, E8, frs, vts, bls, wss, rts, sb, ints, Am.enc, Ast.enc, lks]; exact (by (repeat first | refine uA ?_ | (refine ⟨?_, ?_⟩; focus first | rfl | simp [slot]) | rfl | simp)))
      rintro z hz
      rw [hz]
      simp only [ams, wls, pts, sls, gts, E8, frs, vts, bls, wss, rts, sb, ints, Am.enc, Ast.enc, lks]
      (repeat first | refine uA ?_ | (refine uK ?_ ?_; focus first | omega | (intros; simp_all <;> omega)) | simp (disch := omega) only [go_sem, Nat.reduceBEq, Nat.reduceAdd, ww, hz0, m1, s1, c1n, c1m, Ast.enc, rts, ints, c1q])
      refine S.cond rfl (fun hc3 => ?_) (fun hc3 => ?_)
      · have hp0 : 0 <= y.holds := by simpa using hc3
        obtain ⟨q, hq⟩ : ∃ q : Nat, y.holds = q := ⟨y.holds.toNat, by omega⟩
        have hqp : q < parts.length := by omega
        have hgq := c1l hqp
        generalize parts[q] = pt at hgq
        have o4 := hcar q pt hgq hq k1 hql hqb
        rw [if_neg (by simp only; omega)] at hfa
        simp only [hq, c1q, hgq] at hfa
        have s2 : (P0.map Fr.enc).set q (a1j a y.q pt.grasp).enc = P1.map Fr.enc := by rw [<- List.map_set, <- hfa]
        obtain ⟨z1, hz1⟩ : ∃ z1, P0[q]? = some z1 := ⟨_, c1l (show q < P0.length by omega)⟩
        have hq2 : (q : Int) < P0.length := by omega
        generalize a1j a y.q pt.grasp = R at *
        simp only [Fr.c, Fr.enc, hq, sb] at o4 s2
        simp only [hq]
        (repeat first | refine uA ?_ | (refine uK ?_ ?_; focus first | omega | (intros; simp_all <;> omega)) | simp (disch := omega) only [go_sem, Nat.reduceBEq, Nat.reduceAdd, ww] | (refine uD htip ?_ ?_ ?_; exact tz hw; exact rfl))
        refine S.cond rfl (fun hc2 => by simp at hc2) (fun hc2 => ?_)
        (repeat first | refine uA ?_ | (refine uK ?_ ?_; focus first | omega | (intros; simp_all <;> omega)) | simp (disch := omega) only [go_sem, Nat.reduceBEq, Nat.reduceAdd, ww, hz1, s2, hPl, Fr.enc, sb, c1n, c1m, c1q] | (refine uD o4 ?_ ?_ ?_; exact tz hw; exact rfl))
        refine S.next (i + 1) (by omega) (by omega) (by simp only [hA1, hP1]; exact (by (repeat first | refine uA ?_ | (refine ⟨?_, ?_⟩; focus first | rfl | simp [slot]) | rfl | simp)))
      · have hp0 : y.holds < 0 := by simp only [c1v] at hc3; omega
        rw [if_pos (by simpa using hp0)] at hfa
        subst hfa
        (repeat first | refine uA ?_ | (refine uK ?_ ?_; focus first | omega | (intros; simp_all <;> omega)) | simp (disch := omega) only [go_sem, Nat.reduceBEq, Nat.reduceAdd, ww])
        refine S.next (i + 1) (by omega) (by omega) (by simp only [hA1, hP1]; exact (by (repeat first | refine uA ?_ | (refine ⟨?_, ?_⟩; focus first | rfl | simp [slot]) | rfl | simp)))
    have hi' : i = arms.length := by omega
    subst hi'
    rw [show (arms.zip A).take arms.length = arms.zip A from c1G (by rw [List.length_zip]; omega), show A.take arms.length ++ sarms.drop arms.length = A by rw [<- e1]; exact mid_end (by omega)]
    have hMl : ((people.zip v).map a2W).length = people.length := by rw [c1m, List.length_zip]; omega
    have hMg : ∀ (i : Nat) (a b : Vt), people[i]? = some a -> v[i]? = some b -> ((people.zip v).map a2W)[i]? = some (a2W (a, b)) := fun i a b h1 h2 => by rw [c2b, H7 h1 h2]; rfl
    generalize (arms.zip A).foldl pP sparts = PP at *
    generalize (people.zip v).map a2W = M at *
    (repeat first | refine uA ?_ | (refine uK ?_ ?_; focus first | omega | (intros; simp_all <;> omega)) | simp (disch := omega) only [go_sem, Nat.reduceBEq, Nat.reduceAdd, ww, c1m])
    refine S.loop (X := Nat) (fun i => ⟨[(10, .bp 2 0), (15, .bp 8 0), (187, vts v), (188, ints v.length), (189, ints i)], [.gone, .gone, .box 37 [.v (.int .i64 0), .v (.slice none 0 0), .v (.slice none 0 0), .v (.slice none 0 0), .v (.slice none 0 0)], .gone, .gone, .row 90 4 (A.map Ast.enc), .row 55 10 (PP.map Fr.enc), .row 51 6 ((M.take i ++ people.drop i).map Vt.enc), .box 37 [ints (tick + 1), .rv 5, .rv 6, .rv 7, bls sgates]]⟩) (fun i => i <= v.length) (fun i => v.length - i) 0 (c1s _) (by (repeat first | refine uA ?_ | (refine ⟨?_, ?_⟩; focus first | rfl | simp [slot]) | rfl | simp)) ?_
    intro i hi
    simp only [ams, wls, pts, sls, gts, E8, frs, vts, bls, wss, rts, sb, ints] at hi ⊢
    (repeat first | refine uA ?_ | (refine uK ?_ ?_; focus first | omega | (intros; simp_all <;> omega)) | simp (disch := omega) only [go_sem, Nat.reduceBEq, Nat.reduceAdd, ww])
    (refine uJ rfl (fun hc => ?_) fun hc => ?_)
    · have hgv := c1l (show i < v.length by omega)
      have hgw := c1l (show i < people.length by omega)
      generalize v[i]'_ = b at hgv
      generalize people[i]'_ = a at hgw
      have hgM := hMg i a b hgw hgv
      obtain ⟨ba1, ba2⟩ := hbp a (c1o hgw)
      obtain ⟨bb1, bb2⟩ := hbv b (c1o hgv)
      have o1 := b0Q a.x a.y b.x b.y (ba1.mono (by decide)) (ba2.mono (by decide)) (bb1.mono (by decide)) (bb2.mono (by decide))
      have s1 := a3t Vt.enc (by omega) hgM (m := people)
      have m1 := a2w (l := M) (m := people) (i := i) (by omega) (by omega)
      have hz0 := b6E (l := M) (show M.length = people.length by omega) hgw
      have hV : a2W (a, b) = ⟨Nm.ofQ (Nm.d9 a.x + Nm.d9 b.x), Nm.ofQ (Nm.d9 a.y + Nm.d9 b.y)⟩ := rfl
      rw [hV] at s1
      unfold vq at o1
      generalize Nm.ofQ (Nm.d9 a.x + Nm.d9 b.x) = r1 at *
      generalize Nm.ofQ (Nm.d9 a.y + Nm.d9 b.y) = r2 at *
      generalize hM1 : M.take (i + 1) ++ people.drop (i + 1) = M1 at *
      generalize M.take i ++ people.drop i = M0 at *
      have hwi : (i : Int) < M0.length := by omega
      simp only [vc, Vt.enc, sb] at o1 s1
      (repeat first | refine uA ?_ | (refine uK ?_ ?_; focus first | omega | (intros; simp_all <;> omega)) | simp (disch := omega) only [go_sem, Nat.reduceBEq, Nat.reduceAdd, ww, hgv, hz0, m1, s1, c1n, c1m, Vt.enc, sb, c1q] | (refine uD o1 ?_ ?_ ?_; exact tz hw; exact rfl))
      refine S.next (i + 1) (by omega) (by omega) (by simp only [hM1]; exact (by (repeat first | refine uA ?_ | (refine ⟨?_, ?_⟩; focus first | rfl | simp [slot]) | rfl | simp)))
    have hi' : i = v.length := by omega
    subst hi'
    rw [show M.take v.length ++ people.drop v.length = M by rw [hl3]; exact mid_end (by omega)]
    (repeat first | refine uA ?_ | (refine uK ?_ ?_; focus first | omega | (intros; simp_all <;> omega)) | simp (disch := omega) only [go_sem, Nat.reduceBEq, Nat.reduceAdd, ww])
    (refine S.done ?_; simp only [p9, l7, go_sem, Nat.reduceBEq, Nat.reduceAdd, Nat.reduceLeDiff, Int.reduceToNat, Int.reducePow]; (repeat (refine ⟨?_, ?_⟩; focus first | trivial | omega | simp)); exact j3.out rfl (Imp.tup (by (repeat' (first | exact l6.nil | exact Imp.refl rfl | exact Imp.frz rfl rfl rfl | exact Imp.K4 | refine Imp.agg ?_ | refine l6.cons ?_ ?_)))) rfl)
  · have hE : V4 w s u p v = R7 w s := by unfold V4; rw [if_pos h0]
    unfold a3k
    rw [hE, if_neg h0]
    generalize R7 w s = e at *
    obtain ⟨arms, walls, parts, slots, gates, walk⟩ := w
    obtain ⟨tick, sarms, sparts, people, sgates⟩ := s
    simp only [a1u, j5, TT, II, OA, OB, OC, MM, LL, VV, FF, MG, LG, VG, FG]
    simp only [Wk.c, Wk.enc, Stt.c, Stt.enc, a6v, ams, wls, pts, sls, gts, E8, frs, vts, bls, wss, rts, sb, ints] at hck ⊢
    (repeat first | refine uA ?_ | (refine uK ?_ ?_; focus first | omega | (intros; simp_all <;> omega)) | simp (disch := omega) only [go_sem, Nat.reduceBEq, Nat.reduceAdd, ww] | (refine uD hck ?_ ?_ ?_; exact tz hw; exact rfl))
    refine S.cond rfl (fun hc => ?_) (fun hc => by simp at hc; exact absurd hc h0)
    (repeat first | refine uA ?_ | (refine uK ?_ ?_; focus first | omega | (intros; simp_all <;> omega)) | simp (disch := omega) only [go_sem, Nat.reduceBEq, Nat.reduceAdd, ww])
    (refine S.done ?_; simp only [p9, l7, go_sem, Nat.reduceBEq, Nat.reduceAdd, Nat.reduceLeDiff, Int.reduceToNat, Int.reducePow]; (repeat (refine ⟨?_, ?_⟩; focus first | trivial | omega | simp)); exact j3.out rfl (Imp.tup (by (repeat' (first | exact l6.nil | exact Imp.refl rfl | exact Imp.frz rfl rfl rfl | exact Imp.K4 | refine Imp.agg ?_ | refine l6.cons ?_ ?_)))) rfl)
set_option maxHeartbeats 16000000
theorem b1P (w : Wk) (s : Stt) (u : List (List Nm.Rt)) (p : List Bool) (v : List Vt) (hwb : Wb 1048576 w) (hs : Stb 1048576 s) (hu : Wsb 1048576 u) (hp : p.length <= 1048576) (hv : Vbs 1048576 v) :
  FZ 7 [w.c, s.c, wss u, bls p, vts v] (.v (.bool true)) := by
 refine kW Tryz.func7 (by cbv) (by rfl) fun w' O hw => ?_
 have h1 := b2o
 have h2 := b5B w s u p v hwb hs hu hp hv
 have h3 := b8R w s u p v hwb hs hu hp hv
 unfold a3k at h2 h3
 by_cases h0 : V4 w s u p v = 0
 ·obtain ⟨k1, k2⟩ := b7g hwb hs hu hv h0
  have h4 := a6W _ _ k2 k2 (b2u k1) (b2u k1)
  rw [if_pos h0] at h2 h3
  rw [decide_eq_true rfl] at h4
  generalize a3c w s u p v = S at *
  obtain ⟨arms, walls, parts, slots, gates, walk⟩ := w
  obtain ⟨tick, sarms, sparts, people, sgates⟩ := s
  obtain ⟨tick2, sarms2, sparts2, people2, sgates2⟩ := S
  simp only [j5]
  simp only [Wk.c, Wk.enc, Stt.c, Stt.enc, ams, wls, pts, sls, gts, E8, frs, vts, bls, wss, rts, sb, ints] at h2 h3 h4 ⊢
  (repeat first | refine uA ?_ | (refine uK ?_ ?_; focus first | omega | (intros; simp_all <;> omega)) | simp (disch := omega) only [go_sem, Nat.reduceBEq, Nat.reduceAdd, ww] | (refine uD h1 ?_ ?_ ?_; exact tz hw; exact rfl))
  refine S.cond rfl (fun hc => by simp at hc) (fun hc => ?_)
  (repeat first | refine uA ?_ | (refine uK ?_ ?_; focus first | omega | (intros; simp_all <;> omega)) | simp (disch := omega) only [go_sem, Nat.reduceBEq, Nat.reduceAdd, ww, decide_true] | (refine uB h4 ?_ ?_; exact rfl) | (refine uD h2 ?_ ?_ ?_; exact tz hw; exact rfl) | (refine uD h3 ?_ ?_ ?_; exact tz hw; exact rfl))
  exact S.done (j3.out rfl (Imp.refl rfl) rfl)
 ·have h4 := b4G
  rw [if_neg h0] at h2 h3
  generalize V4 w s u p v = e at *
  obtain ⟨arms, walls, parts, slots, gates, walk⟩ := w
  obtain ⟨tick, sarms, sparts, people, sgates⟩ := s
  simp only [j5]
  simp only [Wk.c, Wk.enc, Stt.c, Stt.enc, a4S, a6v, ams, wls, pts, sls, gts, E8, frs, vts, bls, wss, rts, sb, ints, c1L] at h2 h3 h4 ⊢
  (repeat first | refine uA ?_ | (refine uK ?_ ?_; focus first | omega | (intros; simp_all <;> omega)) | simp (disch := omega) only [go_sem, Nat.reduceBEq, Nat.reduceAdd, ww] | (refine uD h1 ?_ ?_ ?_; exact tz hw; exact rfl))
  refine S.cond rfl (fun hc => by simp at hc) (fun hc => ?_)
  (repeat first | refine uA ?_ | (refine uK ?_ ?_; focus first | omega | (intros; simp_all <;> omega)) | simp (disch := omega) only [go_sem, Nat.reduceBEq, Nat.reduceAdd, ww, decide_true] | (refine uD h2 ?_ ?_ ?_; exact tz hw; exact rfl) | (refine uD h3 ?_ ?_ ?_; exact tz hw; exact rfl) | (refine uC h4 ?_ ?_ ?_; exact rfl; focus (repeat' first | exact l6.nil | exact Imp.refl rfl | exact Imp.K4 | exact Imp.fbx rfl rfl (l6.refl rfl) rfl rfl | refine Imp.clo ?_ | exact Imp.frz rfl rfl rfl | (refine Imp.O8 rfl rfl ?_ ?_; (focus ((try simp only [c1p, decide_true]); omega)); (focus first | rfl | assumption)) | refine Imp.agg ?_ | refine l6.cons ?_ ?_); done))
  exact S.done (j3.out rfl (Imp.refl rfl) rfl)
set_option maxRecDepth 10000
noncomputable def laidWorldU (os : Os) : World := World.laidAll Tryz.prog os Rows.moveStepsUptoRow.laid
theorem b4u (os : Os) (args : Array Value) : laidMet Tryz.prog Rows.moveStepsUptoRow.laid ((laidWorldU os).forCall (fun _ _ => 0) ⟨#[], args, []⟩).memory :=
 laidMet_laidAll args (by kernel_rfl) (by kernel_rfl)
theorem b1M {H : Type} {enc : TypeId × Value -> H} {C : Checked} {os : Os} {f : FuncId} {fn : Func} {s : OpenSpec} {conds : List PathCond} {apart : Bool} {laid : List (String × DataW Unit)} (modest : Bool) (w0 : World) (args : Array Value) (hos : w0.os = os)
  (hv : (w0.forCall (fun _ _ => 0) ⟨#[], args, []⟩).variablesZipB C.prog = true)
  (hr : ((w0.forCall (fun _ _ => 0) ⟨#[], args, []⟩).heap.toList.drop C.prog.globals.size).take ((begin C.prog (fun _ _ => 0) default).world.heap.size - C.prog.globals.size) =
   (begin C.prog (fun _ _ => 0) default).world.heap.toList.drop C.prog.globals.size)
  (hok : Input.okWideB C.prog (w0.forCall (fun _ _ => 0) ⟨#[], args, []⟩) f ⟨#[], args, []⟩ = true)
  (hrow : s.preRow enc C.prog fn conds apart laid (w0.forCall (fun _ _ => 0) ⟨#[], args, []⟩).memory args) :
  ∃ (w : World) (tape : Tape) (i : Input), w.os = os /\ (w.forCall tape i).Shaped C.prog /\ i.vars = [] /\ Input.okWide C.prog (w.forCall tape i) .any w.heap.size f i /\
   s.preRow enc C.prog fn conds apart laid (w.forCall tape i).memory i.args /\ ({ modest := modest } : Assume).holds C.prog (lone (Frame.enter C.prog f i.args .normal) [] (w.forCall tape i)) :=
 ⟨w0, fun _ _ => 0, ⟨#[], args, []⟩, hos, World.shaped_of_ZipB hv hr, (Input.okWide_of_okWideB (base := 0) hok).1, (Input.okWide_of_okWideB hok).2, hrow, by
  simp only [Assume.holds]
  exact ⟨by simp, by simp, fun _ => Modest.zero, by simp, by simp⟩⟩
section
variable {H : Type} {enc : TypeId × Value -> H} {W : World}
theorem b4U : Tryz.prog.cellsOf 88 = 1 := by kernel_rfl
theorem b9Q : Opens enc Tryz.prog W 107 (fun l => [wss l]) (fun _ => True) (lsM (lsM rtM)) :=
 (K9 Tryz.underlying107 b4U (by decide) (fun _ => rfl) b3O).imp fun l hl => ⟨l, rfl, trivial, c1w _⟩
theorem u_b {u : List (List Nm.Rt)} {k : Nat} (h : lsM (lsM rtM) u <= k) : Wsb k u := by
 obtain ⟨h1, h2⟩ := a1L (b2F rtM) h
 refine ⟨h1, fun l hl => ?_⟩
 obtain ⟨h3, h4⟩ := a1L a1k (h2 l hl)
 exact ⟨h3, fun r hr => a1t (h4 r hr)⟩
theorem b3e {α : Type} : ∀ l : List α, (l.map fun _ => 1).sum = l.length
 | [] => rfl
 | x :: l => by simp only [c1J, c1F, c2e, b3e l]; omega
theorem b9A {α : Type} {l : List α} {k : Nat} (h : lsM (fun _ => 1) l <= k) : l.length <= k := by
 unfold lsM at h; rw [b3e] at h; omega
end
theorem a9D (os : Os) (args : Array Value) : laidMet Tryz.prog Rows.moveStepsUptoRow.laid ((laidWorldU os).forCall (fun _ _ => 0) ⟨#[], args, []⟩).memory :=
 b4u os args
theorem a5S (H : Type) (enc : TypeId × Value -> H) (W : World) (base : Nat) (args : Array Value) (ds gs : List (DataW H)) (before : List MemPlace)
  (hval : ∀ (j : Nat) t v, Tryz.f7.params[j]? = some t -> args[j]? = some v -> Value.okWide Tryz.prog W .any base t v)
  (hW : DataW.Whole enc Tryz.prog Tryz.f7.params.toList Rows.moveStepsSpec.vars false W args.toList ds gs before) (hk : Rows.uptoSmall H (ds ++ gs) = true) (hL : laidMetH Tryz.prog Rows.moveStepsUptoRow.laid W) (hS : W.ShapedOpen Tryz.prog) :
  Calls Tryz.prog 7 args W fun e W' => ∃ v, e = .returned v /\ Rows.moveStepsSpec.post enc Tryz.prog Tryz.f7 false true false false W args v W' := by
 have hW' := hW
 obtain ⟨p, q, hA0, hV, rfl, hfz, hnd⟩ := hW
 have hA : DataW.TrodAll enc Tryz.prog W 0 (fun _ => true) true Tryz.f7.params.toList args.toList ds p := hA0
 rw [Tryz.params7] at hA hval
 obtain ⟨v0, vs0, d0, ds0, p0, q0, hargs, rfl, rfl, h0, r0⟩ := trodAll_cons hA
 obtain ⟨v1, vs1, d1, ds1, p1, q1, rfl, rfl, rfl, h1, r1⟩ := trodAll_cons r0
 obtain ⟨v2, vs2, d2, ds2, p2, q2, rfl, rfl, rfl, h2, r2⟩ := trodAll_cons r1
 obtain ⟨v3, vs3, d3, ds3, p3, q3, rfl, rfl, rfl, h3, r3⟩ := trodAll_cons r2
 obtain ⟨v4, vs4, d4, ds4, p4, q4, rfl, rfl, rfl, h4, r4⟩ := trodAll_cons r3
 obtain ⟨rfl, rfl, rfl⟩ := trodAll_nil r4
 obtain rfl : args = #[v0, v1, v2, v3, v4] := by cases args; simp_all
 obtain ⟨rfl, rfl⟩ := trodVars_none hV
 have hb := b7m hk
 obtain ⟨cs0, rfl, _⟩ := okWide_struct Tryz.underlying31 (hval 0 31 v0 rfl rfl)
 obtain ⟨m0, h0⟩ := h0
 obtain ⟨wk0, e0, _, k0, b0⟩ := c1j _ _ _ h0
 have b0 : wkM wk0 <= Rows.uptoBulk d0 := b0
 have e0 : FzL W noB wk0.enc cs0.toList := e0
 have g0 : Fz W noB wk0.c (.agg cs0) := by simp only [Wk.c, Fz]; exact ⟨_, e0, by simp⟩
 obtain ⟨cs1, rfl, _⟩ := okWide_struct Tryz.underlying37 (hval 1 37 v1 rfl rfl)
 obtain ⟨m1, h1⟩ := h1
 obtain ⟨st0, e1, _, k1, b1⟩ := c1f _ _ _ h1
 have b1 : stM st0 <= Rows.uptoBulk d1 := b1
 have e1 : FzL W noB st0.enc cs1.toList := e1
 have g1 : Fz W noB st0.c (.agg cs1) := by simp only [Stt.c, Fz]; exact ⟨_, e1, by simp⟩
 obtain ⟨A2, n2, c2, rfl⟩ := okWide_slice Tryz.underlying107 (hval 2 107 v2 rfl rfl)
 obtain ⟨m2, h2⟩ := h2
 obtain ⟨us0, e2, _, k2, b2⟩ := b9Q _ _ _ h2
 have b2 : lsM (lsM rtM) us0 <= Rows.uptoBulk d2 := b2
 have e2 : FzL W noB [wss us0] [.slice A2 n2 c2] := e2
 simp only [FzL] at e2
 obtain ⟨y2, ys2, f2, g2, rfl⟩ := e2
 injection f2 with f2 _
 subst f2
 obtain ⟨A3, n3, c3, rfl⟩ := okWide_slice Tryz.underlying35 (hval 3 35 v3 rfl rfl)
 obtain ⟨m3, h3⟩ := h3
 obtain ⟨ps0, e3, _, k3, b3⟩ := b7z _ _ _ h3
 have b3 : lsM (fun _ => 1) ps0 <= Rows.uptoBulk d3 := b3
 have e3 : FzL W noB [bls ps0] [.slice A3 n3 c3] := e3
 simp only [FzL] at e3
 obtain ⟨y3, ys3, f3, g3, rfl⟩ := e3
 injection f3 with f3 _
 subst f3
 obtain ⟨A4, n4, c4, rfl⟩ := okWide_slice Tryz.underlying34 (hval 4 34 v4 rfl rfl)
 obtain ⟨m4, h4⟩ := h4
 obtain ⟨vs9, e4, _, k4, b4⟩ := a7F _ _ _ h4
 have b4 : lsM vtM vs9 <= Rows.uptoBulk d4 := b4
 have e4 : FzL W noB [vts vs9] [.slice A4 n4 c4] := e4
 simp only [FzL] at e4
 obtain ⟨y4, ys4, f4, g4, rfl⟩ := e4
 injection f4 with f4 _
 subst f4
 simp only [List.append_nil, List.cons_append, List.nil_append, Rows.uptoBulkAll] at hb
 have hF : FzL W noB [wk0.c, st0.c, wss us0, bls ps0, vts vs9] [.agg cs0, .agg cs1, .slice A2 n2 c2, .slice A3 n3 c3, .slice A4 n4 c4] := by
  simp only [FzL]
  exact ⟨_, _, rfl, g0, ⟨_, _, rfl, g1, ⟨_, _, rfl, g2, ⟨_, _, rfl, g3, ⟨_, _, rfl, g4, rfl⟩⟩⟩⟩⟩
 refine (b1P wk0 st0 us0 ps0 vs9 (c0W (by omega)) (c1b (by omega)) (u_b (by omega)) (b9A (by omega)) (a7D (by omega)) noB W _ (c0L hL) (fun _ h => h.elim) hF).mono fun e W' ⟨y, he, hbl, hy⟩ => ?_
 subst he
 simp only [Fz] at hy
 subst hy
 refine ⟨_, rfl, b6m b6a (by
  intro t ht
  rw [Tryz.params7] at ht
  simp only [List.mem_cons, List.not_mem_nil, or_false] at ht
  rcases ht with rfl | rfl | rfl | rfl | rfl
  ·exact ⟨by kernel_rfl, of_decide_eq_true (by kernel_rfl)⟩
  ·exact ⟨by kernel_rfl, of_decide_eq_true (by kernel_rfl)⟩
  ·exact ⟨by kernel_rfl, of_decide_eq_true (by kernel_rfl)⟩
  ·exact ⟨by kernel_rfl, of_decide_eq_true (by kernel_rfl)⟩
  ·exact ⟨by kernel_rfl, of_decide_eq_true (by kernel_rfl)⟩) (tb := 4) rfl Tryz.underlying4 rfl rfl hW' hbl⟩
theorem a7G (os : Os) {H : Type} (enc : TypeId × Value -> H) : ∃ places, DataW.whole enc Tryz.prog ((laidWorldU os).forCall (fun _ _ => 0) ⟨#[], #[.agg #[.slice none 0 0, .slice none 0 0, .slice none 0 0, .slice none 0 0, .slice none 0 0, .bool false, .string ⟨#[]⟩, .string ⟨#[]⟩], .agg #[.int .i64 0, .slice none 0 0, .slice none 0 0, .slice none 0 0, .slice none 0 0], .slice none 0 0, .slice none 0 0, .slice none 0 0], []⟩).memory Tryz.f7.params.toList Rows.moveStepsSpec.vars false (#[.agg #[.slice none 0 0, .slice none 0 0, .slice none 0 0, .slice none 0 0, .slice none 0 0, .bool false, .string ⟨#[]⟩, .string ⟨#[]⟩], .agg #[.int .i64 0, .slice none 0 0, .slice none 0 0, .slice none 0 0, .slice none 0 0], .slice none 0 0, .slice none 0 0, .slice none 0 0] : Array Value).toList 8 = some ([.agg [.nil, .nil, .nil, .nil, .nil, .agg [.lit (.bool false), .lit (.string []), .lit (.string [])]], .agg [.lit (.int .i64 0), .nil, .nil, .nil, .nil], .nil, .nil, .nil], [], places) :=
 ⟨[], by kernel_rfl⟩
set_option maxRecDepth 100000 in
theorem a7h (os : Os) (started : os.Started) (H : Type) (enc : TypeId × Value -> H) (F : Stop.Interp) :
  ReturnsInHanded {} Tryz.checked os 7 .any ((Rows.OpenSpec.upto Rows.moveStepsSpec).preRow enc Tryz.prog Tryz.f7 Rows.moveStepsUptoRow.domain false Rows.moveStepsUptoRow.laid) (((Rows.OpenSpec.upto Rows.moveStepsSpec).at F).post enc Tryz.prog Tryz.f7 false true false false) := by
 obtain ⟨places, hx⟩ := a7G os enc
 refine returnsInHanded_of_row (C := Tryz.checked) (s := Rows.OpenSpec.upto Rows.moveStepsSpec) b5Z started (by kernel_rfl) Tryz.func7
  (b1M (enc := enc) (C := Tryz.checked) false (laidWorldU os) #[.agg #[.slice none 0 0, .slice none 0 0, .slice none 0 0, .slice none 0 0, .slice none 0 0, .bool false, .string ⟨#[]⟩, .string ⟨#[]⟩], .agg #[.int .i64 0, .slice none 0 0, .slice none 0 0, .slice none 0 0, .slice none 0 0], .slice none 0 0, .slice none 0 0, .slice none 0 0] rfl (by kernel_rfl) (by kernel_rfl) (by kernel_rfl)
   (OpenSpec.preRow_of_cond 8 hx (by kernel_rfl) (fun k hk => by cases hk; kernel_rfl) (by kernel_rfl) (a9D os _))) ?_
 intro W base args ds gs before hval hW _ hcond _ hL hS _
 exact a5S H enc W base args ds gs before hval hW (hcond _ rfl) hL hS
theorem c1e {a b : Bool} (h : a = true) (k : b = true) : (a && b) = true := by rw [h, k]; rfl
set_option maxHeartbeats 40000000 in
theorem a7u : joinedFacts Tryz.pinned.checked.prog 7 Tryz.f7 (Rows.OpenSpec.upto Rows.moveStepsSpec).bare Rows.moveStepsUptoRow = true := by
 unfold joinedFacts
 repeat' (with_reducible refine c1e ?_ ?_)
 all_goals (as_aux_lemma => kernel_rfl)
end Go.Proofs.YtogfpjohjphngaaGreatDoor
