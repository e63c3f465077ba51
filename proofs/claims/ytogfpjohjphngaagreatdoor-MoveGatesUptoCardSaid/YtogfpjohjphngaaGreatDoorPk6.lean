/- A part of the proof: lemmas only, with the conditions that each names. -/
import Derived.Test.YtogfpjohjphngaaGreatDoorRows
import Derived.Carry
import Derived.ChangeArms
import Derived.ChangeSame
import Derived.Deep.Slices
import Derived.WalkKit
import Derived.ProofKit
import Derived.OpenShut
import Derived.JoinedCond
import Derived.Test.YtogfpjohjphngaaGreatDoorCards
import Derived.Test.YtogfpjohjphngaaGreatDoorTie
import Derived.Deep.DeepHandedRow
import Derived.Deep.DeepWitnessRowRef
import Derived.Lib.LaidTab
import Derived.LaidMore
import Derived.Test.YtogfpjohjphngaaGreatDoorProg
import Derived.KernelRfl
import Derived.Lay
import Derived.Test.YtogfpjohjphngaaGreatDoorPk5
set_option linter.all false
namespace Go.Proofs.YtogfpjohjphngaaGreatDoor
open Go Go.RowKit Go.ChangeShapes Go.WideShapes Eng
theorem b6B {H : Type} {l : List (DataW H)} (hk : Rows.uptoSmall H l = true) : Rows.uptoBulkAll l <= 1048576 := of_decide_eq_true hk
theorem b7f {H : Type} (l r : List (DataW H)) : Rows.uptoBulkAll (l ++ r) = Rows.uptoBulkAll l + Rows.uptoBulkAll r := by
 induction l with
 | nil => simp [Rows.uptoBulkAll]
 | cons x l ih => simp only [List.cons_append, Rows.uptoBulkAll, ih]; omega
def noB : Nat -> Prop := fun _ => False
section
variable {H : Type} {enc : TypeId × Value -> H} {P : Program} {W : World}
def Opens (enc : TypeId × Value -> H) (P : Program) (W : World) (t : TypeId) {α : Type} (tc : α -> List C) (ok : α -> Prop) (ms : α -> Nat) : Prop :=
 ∀ (fuel : Nat) (cs : List Value) (x : DataW H × List MemPlace), DataW.trod enc P W 0 (fun _ => true) true fuel t cs = some x -> ∃ a : α, FzL W noB (tc a) cs /\ (∀ u ∈ cs, u.oneCell' = true) /\ ok a /\ ms a <= Rows.uptoBulk x.1
def I64 (n : Int) : Prop := -9223372036854775808 <= n /\ n <= 9223372036854775807
theorem b3E {t : TypeId} (ht : P.underlying t = some .bool) : Opens enc P W t (fun b : Bool => [.v (.bool b)]) (fun _ => True) fun _ => 1 := by
 intro fuel cs x h
 obtain ⟨b, rfl, rfl⟩ := DataW.trod_bool ht h
 exact ⟨b, by simp [FzL, Fz], by simp [Value.oneCell'], trivial, by simp [Rows.uptoBulk]⟩
theorem b5C {t : TypeId} (ht : P.underlying t = some (.int .i64)) : Opens enc P W t (fun n : Int => [.v (.int .i64 n)]) I64 fun _ => 1 := by
 intro fuel cs x h
 obtain ⟨n, rfl, rfl, hw⟩ := DataW.trod_int ht h
 refine ⟨n, by simp [FzL, Fz], by simp [Value.oneCell'], ?_, by simp [Rows.uptoBulk]⟩
 simpa [Lit.wf, IntKind.min, IntKind.max, IntKind.signed, IntKind.bits, I64] using hw
theorem b4Z {t : TypeId} (ht : P.underlying t = some .string) : Opens enc P W t (fun s : ByteArray => [.v (.string s)]) (fun s => s.size <= 9223372036854775807) fun s => s.size + 1 := by
 intro fuel cs x h
 obtain ⟨s, rfl, rfl, hw⟩ := DataW.trod_string ht h
 refine ⟨s, by simp [FzL, Fz], by simp [Value.oneCell'], hw, ?_⟩
 have : s.data.toList.length = s.size := by cases s; simp [ByteArray.size]
 simp only [Rows.uptoBulk, this]
 omega
theorem Opens.imp {t : TypeId} {α β : Type} {tc : α -> List C} {ok : α -> Prop} {ms : α -> Nat} {tc' : β -> List C} {ok' : β -> Prop} {ms' : β -> Nat} (h : Opens enc P W t tc ok ms)
  (f : ∀ a, ok a -> ∃ b, tc a = tc' b /\ ok' b /\ ms' b <= ms a) : Opens enc P W t tc' ok' ms' := by
 intro fuel cs x hx
 obtain ⟨a, h0, h01, h1, h2⟩ := h fuel cs x hx
 obtain ⟨b, h3, h4, h5⟩ := f a h1
 exact ⟨b, by rw [<- h3]; exact h0, h01, h4, c1v h5 h2⟩
theorem b4Y {w : World} {O : Nat -> Prop} {q : List C} {vs : List Value} {ad : Addr} {j : Nat} (hF : FzL w O q vs) (h1 : ∀ u ∈ vs, u.oneCell' = true) (hc : ∀ i v, vs[i]? = some v -> w.cell? (ad.add (j + i)) = some v) : FzA w O q ad j := FzA.of hF h1 hc
theorem M5 {t e : TypeId} {α : Type} {tc : α -> List C} {ok : α -> Prop} {ms : α -> Nat} {sz : Nat} (ht : P.underlying t = some (.slice e)) (hc : P.cellsOf e = sz) (hsz : 0 < sz) (hlen : ∀ a, (tc a).length = sz)
  (he : Opens enc P W e tc ok ms) : Opens enc P W t (fun xs : List α => [.sl sz (xs.map tc)]) (fun xs => ∀ a ∈ xs, ok a) fun xs => 1 + (xs.map ms).sum := by
 intro fuel cs x h
 rcases Deep.open_slice ht h with ⟨rfl, rfl⟩ | ⟨a, len, cap, m, n, D, Pl, rfl, _, hl, hm, hmm, rfl, hx⟩
 ·refine ⟨[], ?_, by simp [Value.oneCell'], (fun a ha => by cases ha), by simp [Rows.uptoBulk]⟩
  simp only [FzL, Fz]
  exact ⟨_, _, rfl, ⟨none, 0, rfl, c1A _, c1y _, fun h => by simp at h⟩, rfl⟩
 ·have hlm : len <= m := by rw [hmm]; split <;> omega
  have key : ∀ i, i < len -> ∃ (y : α) (vs : List Value), W.cells? 0 (a.add (i * sz)) sz = some vs /\ FzL W noB (tc y) vs /\ (∀ u ∈ vs, u.oneCell' = true) /\ ok y /\ ms y <= Rows.uptoBulk (D i) := by
   intro i hi
   obtain ⟨cs', h1, h2⟩ := hx i (by omega)
   obtain ⟨y, h31, h32, h3, h4⟩ := he _ _ _ h2
   rw [hc] at h1
   exact ⟨y, cs', h1, h31, h32, h3, h4⟩
  have build : ∀ k, k <= len -> ∃ xs : List α, xs.length = k /\ (∀ i y, xs[i]? = some y -> ∃ vs, W.cells? 0 (a.add (i * sz)) sz = some vs /\ FzL W noB (tc y) vs /\ (∀ u ∈ vs, u.oneCell' = true) /\ ok y) /\ (xs.map ms).sum <= Rows.uptoBulkAll ((List.range k).map D) := by
   intro k
   induction k with
   | zero => intro _; exact ⟨[], rfl, (fun i y h => by simp at h), by simp⟩
   | succ k ih =>
    intro hk
    obtain ⟨xs, h1, h2, h3⟩ := ih (by omega)
    obtain ⟨y, vs, h4, h41, h42, h5, h6⟩ := key k (by omega)
    refine ⟨xs ++ [y], by simp [h1], fun i z hz => ?_, ?_⟩
    ·rcases c1Q i xs.length with hlt | hge
     ·rw [c1C hlt] at hz
      exact h2 i z hz
     ·rw [c1F hge] at hz
      have : i - xs.length = 0 := by
       rcases c1P (i - xs.length) with h0 | h0
       ·exact h0
       ·obtain ⟨d, hd⟩ : ∃ d, i - xs.length = d + 1 := ⟨i - xs.length - 1, by omega⟩
        rw [hd] at hz; simp at hz
      rw [this] at hz
      simp at hz
      subst hz
      have : i = k := by omega
      subst this
      exact ⟨vs, h4, h41, h42, h5⟩
    ·rw [c2h, List.sum_append, List.range_succ, c2h, b7f]
     simp only [c1J, c1N, List.sum_cons, List.sum_nil, Rows.uptoBulkAll]
     omega
  obtain ⟨xs, h1, h2, h3⟩ := build len (c1A _)
  have hcell : ∀ (i : Nat) (y : α), xs[i]? = some y -> (tc y).length = sz /\ FzA W noB (tc y) a (i * sz) := by
   intro i y hy
   obtain ⟨vs, h4, h41, h42, _⟩ := h2 i y hy
   obtain ⟨_, h5, h6⟩ := World.cells?_some h4
   refine ⟨hlen _, b4Y h41 h42 fun j v hv => ?_⟩
   have hj : j < sz := by
    have := (c1z.1 hv).1
    rwa [h5] at this
   have h7 := h6 j hj
   rw [hv, Deep.add_add] at h7
   exact h7
  refine ⟨xs, ?_, by simp [Value.oneCell'], fun y hy => ?_, ?_⟩
  ·simp only [FzL]
   refine ⟨_, _, rfl, ?_, rfl⟩
   simp only [Fz]
   refine ⟨some a, cap, by simp [h1], by simp; omega, hm, fun h0 => ⟨a, rfl, ?_, (fun h => h), FzE.of fun k q hq => ?_⟩⟩
   ·have hi : 0 < xs.length := by simpa using h0
    obtain ⟨hq1, hq2⟩ := hcell 0 xs[0] (c1p hi)
    have h9 : 0 < (tc xs[0]).length := by omega
    match htc : tc xs[0], h9, hq2 with
    | c :: cs, _, hq2 =>
     simp only [FzA] at hq2
     obtain ⟨⟨v, hv, _⟩, _⟩ := hq2
     have h10 := block_lt_of_cell hv
     rwa [add_block] at h10
   ·rw [c2f] at hq
    obtain ⟨y, hy, rfl⟩ := Option.map_eq_some_iff.1 hq
    rw [c1V]; exact hcell k y hy
  ·obtain ⟨i, hi⟩ := List.mem_iff_getElem?.1 hy
   exact (h2 i y hi).choose_spec.2.2.2
  ·simp only [Rows.uptoBulk]
   omega
def O8 (P : Program) : List Field -> Nat -> Option Nat
 | [], n => some n
 | f :: fs, n => if f.offset = n then O8 P fs (n + P.cellsOf f.type) else none
def Parts (enc : TypeId × Value -> H) (P : Program) (W : World) (n : Nat) : List TypeId -> List (List Value) -> List (DataW H × List MemPlace) -> Prop
 | [], cs, ys => cs = [] /\ ys = []
 | f :: fs, cs, ys => ∃ c cr y yr, cs = c :: cr /\ ys = y :: yr /\ DataW.trod enc P W 0 (fun _ => true) true n f c = some y /\ Parts enc P W n fs cr yr
theorem b1B {t : TypeId} {fs : Array Field} {fuel : Nat} {cs : List Value} {x : DataW H × List MemPlace} (hu : P.underlying t = some (.struct fs)) (hc : O8 P fs.toList 0 = some (P.cellsOf t)) (h : DataW.trod enc P W 0 (fun _ => true) true fuel t cs = some x) :
    ∃ (n : Nat) (ps : List (List Value)) (ys : List (DataW H × List MemPlace)), cs = ps.flatten /\ x = (.agg (ys.map (·.1)), ys.flatMap (·.2)) /\ Parts enc P W n (fs.toList.map (·.type)) ps ys := by
  obtain ⟨xs, n, rfl, rfl, hlen, hxl, hf⟩ := DataW.trod_struct hu h
  have gen : ∀ (l : List Field) (off tot : Nat) (zs : List (DataW H × List MemPlace)), O8 P l off = some tot -> zs.length = l.length -> (∀ (i : Nat) (f : Field), l[i]? = some f -> DataW.trod enc P W 0 (fun _ => true) true n f.type ((cs.drop f.offset).take (P.cellsOf f.type)) = zs[i]?) ->
      off <= tot /\ ∃ ps, (cs.drop off).take (tot - off) = ps.flatten /\ Parts enc P W n (l.map (·.type)) ps zs := by
    intro l
    induction l with
    | nil =>
      intro off tot zs hc hl _
      simp only [O8, Option.some.injEq] at hc
      subst hc
      have : zs = [] := List.length_eq_zero_iff.1 hl
      subst this
      exact ⟨c1A _, [], by simp, rfl, rfl⟩
    | cons f l ih =>
      intro off tot zs hc hl hf
      simp only [O8] at hc
      split at hc
      · rename_i ho
        cases zs with
        | nil => simp at hl
        | cons z zs =>
          obtain ⟨h1, ps, h2, h3⟩ := ih _ tot zs hc (by simpa using hl) fun i g hg => by have := hf (i + 1) g (by simpa using hg); simpa using this
          have h0 := hf 0 f rfl
          rw [ho] at h0
          refine ⟨by omega, ((cs.drop off).take (P.cellsOf f.type)) :: ps, ?_, _, _, _, _, rfl, rfl, h0, h3⟩
          rw [List.flatten_cons, <- h2, <- List.drop_drop]
          have e : tot - off = P.cellsOf f.type + (tot - (off + P.cellsOf f.type)) := by omega
          rw [e, List.take_add]
      · cases hc
  obtain ⟨_, ps, h2, h3⟩ := gen fs.toList 0 _ xs hc (by simpa using hxl) fun i f hi => hf i f (by simpa using hi)
  refine ⟨n, ps, xs, ?_, rfl, h3⟩
  rw [<- h2, Nat.sub_zero, List.drop_zero, <- hlen, c1L]
theorem FzL.app {w : World} {O : Nat -> Prop} : ∀ {cs ds : List C} {vs us : List Value}, FzL w O cs vs -> FzL w O ds us -> FzL w O (cs ++ ds) (vs ++ us)
 | [], ds, vs, us, h, k => by simp only [FzL] at h; subst h; simpa using k
 | c :: cs, ds, vs, us, h, k => by
  simp only [FzL] at h
  obtain ⟨y, ys, rfl, h1, h2⟩ := h
  exact ⟨y, ys ++ us, rfl, h1, FzL.app h2 k⟩
def a7x (enc : TypeId × Value -> H) (P : Program) (W : World) (ts : List TypeId) {α : Type} (tc : α -> List C) (ok : α -> Prop) (ms : α -> Nat) : Prop :=
 ∀ (n : Nat) (ps : List (List Value)) (ys : List (DataW H × List MemPlace)), Parts enc P W n ts ps ys -> ∃ a : α, FzL W noB (tc a) ps.flatten /\ (∀ u ∈ ps.flatten, u.oneCell' = true) /\ ok a /\ ms a <= Rows.uptoBulkAll (ys.map (·.1))
theorem L6 : a7x enc P W [] (fun _ : Unit => []) (fun _ => True) fun _ => 0 := by
 rintro n ps ys ⟨rfl, rfl⟩
 exact ⟨(), by simp [FzL], by simp, trivial, c1y _⟩
theorem p8 {t : TypeId} {ts : List TypeId} {α β : Type} {tc : α -> List C} {ok : α -> Prop} {ms : α -> Nat} {tc' : β -> List C} {ok' : β -> Prop} {ms' : β -> Nat} (h : Opens enc P W t tc ok ms) (h' : a7x enc P W ts tc' ok' ms') :
  a7x enc P W (t :: ts) (fun p : α × β => tc p.1 ++ tc' p.2) (fun p => ok p.1 /\ ok' p.2) fun p => ms p.1 + ms' p.2 := by
 rintro n ps ys ⟨c, cr, y, yr, rfl, rfl, h1, h2⟩
 obtain ⟨a, a1, a2, a3, a4⟩ := h _ _ _ h1
 obtain ⟨b, b1, b2, b3, b4⟩ := h' _ _ _ h2
 refine ⟨(a, b), by rw [List.flatten_cons]; exact FzL.app a1 b1, fun u hu => ?_, ⟨a3, b3⟩, ?_⟩
 ·rw [List.flatten_cons] at hu
  rcases List.mem_append.1 hu with hu | hu
  ·exact a2 u hu
  ·exact b2 u hu
 ·simp only [c1J, Rows.uptoBulkAll]
  omega
theorem I6 {t : TypeId} {fs : Array Field} {ts : List TypeId} {α : Type} {tc : α -> List C} {ok : α -> Prop} {ms : α -> Nat} (hu : P.underlying t = some (.struct fs)) (hts : fs.toList.map (·.type) = ts) (hc : O8 P fs.toList 0 = some (P.cellsOf t)) (h : a7x enc P W ts tc ok ms) :
  Opens enc P W t tc ok fun a => ms a + 1 := by
 intro fuel cs x hx
 obtain ⟨n, ps, ys, rfl, rfl, hp⟩ := b1B hu hc hx
 rw [hts] at hp
 obtain ⟨a, a1, a2, a3, a4⟩ := h _ _ _ hp
 exact ⟨a, a1, a2, a3, by simp only [Rows.uptoBulk]; omega⟩
theorem b6c {f : Func} {s : ChangeSpec} {apart fresh handsOn again : Bool} {W' : World} {args : Array Value} {ds gs : List (DataW H)} {before : List MemPlace} {tb : TypeId} (hl : laidOutB P = true) (hpar : ∀ t ∈ f.params.toList, P.readableRec t = true /\ t < P.types.size)
  (hrt : f.resultTypes = #[tb]) (htb : P.underlying tb = some .bool) (hv : s.vars = []) (hfn : s.fn H (ds ++ gs) = { results := [.lit (.bool true)], args := ds }) (hW : DataW.Whole enc P f.params.toList s.vars apart W args.toList ds gs before) (hb : Below W.heap.size W W') :
  s.post enc P f apart fresh handsOn again W args (.bool true) W' := by
 have hlt : ∀ p ∈ before, p.block < W.heap.size := fun p hp => hW.lt p hp
 obtain ⟨p, q, hA, hV, hps, hz, hn⟩ := id hW
 rw [hv] at hV
 obtain ⟨rfl, rfl⟩ := trodVars_none hV
 rw [List.append_nil] at hps
 subst hps
 have all : ∀ (sp : Nat -> Bool) (ts : List TypeId) (vs : List Value) (es : List (DataW H)) (pl : List MemPlace), (∀ t ∈ ts, P.readableRec t = true /\ t < P.types.size) -> (∀ x ∈ pl, x.block < W.heap.size /\ sp x.block = true) -> DataW.TrodAll enc P W 0 (fun _ => true) true ts vs es pl -> DataW.TrodAll enc P W' 0 sp true ts vs es pl := by
  intro sp ts
  induction ts with
  | nil =>
   intro vs es pl _ _ h
   cases vs <;> cases es <;> simp only [DataW.TrodAll] at h ⊢ <;> exact h
  | cons t ts ih =>
   intro vs es pl hts hpl h
   cases vs <;> cases es <;> simp only [DataW.TrodAll] at h ⊢
   obtain ⟨p1, p2, h1, h2, rfl⟩ := h
   refine ⟨p1, p2, ?_, ih _ _ _ (fun t ht => hts t (List.mem_cons_of_mem _ ht)) (fun x hx => hpl x (List.mem_append_right _ hx)) h2, rfl⟩
   exact WideElems.Trod_stays hl (hts t (List.mem_cons_self ..)).1 (hts t (List.mem_cons_self ..)).2 h1 (fun x hx => hb.same (hpl x (List.mem_append_left _ hx)).1) fun x hx => (hpl x (List.mem_append_left _ hx)).2
 have hres : ∀ (b : Nat) (sp : Nat -> Bool) (hd : Bool), DataW.TrodAll enc P W' b sp hd f.resultTypes.toList ((Value.bool true).resultList f.resultTypes.size) (s.fn H (ds ++ [])).results [] := by
  intro b sp hd
  rw [hrt, hfn]
  exact trodAll_cons_mk (shut_bool htb true) trodAll_mk0
 have hargs : ∀ sp : Nat -> Bool, (∀ p' ∈ before, sp p'.block = true) -> DataW.TrodAll enc P W' 0 sp true f.params.toList args.toList (s.fn H (ds ++ [])).args before := fun sp hsp => by
  rw [hfn]
  exact all sp _ _ _ _ hpar (fun x hx => ⟨hlt x hx, hsp x hx⟩) hA
 have hvars : ∀ sp : Nat -> Bool, DataW.TrodVars enc P W' sp s.vars (s.fn H (ds ++ [])).vars [] := fun sp => by rw [hv, hfn]; rfl
 have hold : ∀ p' ∈ before, (fun b => decide (b < W.heap.size)) p'.block = true := fun p' hp => by simpa using hlt p' hp
 refine ⟨ds, [], before, [], before, [], hW, hres _ _ _, hargs _ hold, hvars _, World.keptBut_mono (fun p' hp => ⟨hp, ?_⟩) (hb.frame (· ∈ before)), fun _ => ⟨ok_one hrt rfl (okWide_bool_mk htb _), _, _, ([] ++ before) ++ [], ⟨[] ++ before, [], trodAll_append (hargs _ (fun _ _ => rfl)) (hres _ _ _), hvars _, rfl, ?_, ?_⟩, ?_⟩⟩
 ·exact Or.inr (by simpa using hp)
 ·intro b off hp
  have hin : MemPlace.cell b off ∈ before := by simpa using hp
  rw [hb.frozen (hlt _ hin)]
  exact hz b off hin
 ·intro ha
  have := hn ha
  simpa using this
 ·intro p' hp _
  simpa using hp
end
open Go Go.RowKit Go.ChangeShapes Go.WideShapes Go.ChangeAt Eng
set_option maxRecDepth 10000
theorem b6P : ownKnob Tryz.prog.godebug = none := by kernel_rfl
theorem b6r : laidOutB Tryz.prog = true := by kernel_rfl
theorem gDb : Tryz.prog.globalNamed "math/bits.deBruijn64tab" = some 3 := by kernel_rfl
theorem b8Z : (Tryz.prog.globals[3]?).map (·.type) = some 305 := by kernel_rfl
theorem b6g : Tryz.prog.cellsOf 305 = 64 := by kernel_rfl
theorem b7X : Tryz.prog.cellsOf 5 = 1 := by kernel_rfl
theorem b6k : Tryz.prog.underlying 305 = some (.array 64 5) := by kernel_rfl
theorem b9Y : Tryz.prog.underlying 5 = some (.int .u8) := by kernel_rfl
theorem b9f : (Rows.laid_math_bits_deBruijn64tab : DataW Unit) = Lib.tabData .u8 (Lib.deBruijn64tab.map fun n : Nat => (n : Int)) := by rfl
theorem c0A {W : World} {rest : List (String × DataW Unit)} (h : laidMet Tryz.prog (("math/bits.deBruijn64tab", Rows.laid_math_bits_deBruijn64tab) :: rest) W) : Wz W := by
 rw [b9f] at h
 have ht := Lib.tabIs_of_head gDb b8Z b6k b9Y b7X b6g h
 intro j hj
 have := ht.cell gDb j (by rw [c1q]; exact hj)
 rw [this]
 congr 2
 rw [c1G, c1G, c2f, c1p hj]
 rfl
section
variable {H : Type} {enc : TypeId × Value -> H} {W : World}
end
noncomputable def laidWorld (os : Os) : World := World.doorLaid Tryz.prog 400 os
theorem b2z {α : Type} {f : α -> Nat} : ∀ {l : List α} {x : α}, x ∈ l -> f x <= (l.map f).sum
 | y :: l, x, h => by
  rw [c1J, List.sum_cons]
  rcases List.mem_cons.1 h with rfl | h
  ·omega
  ·have := b2z (f := f) h; omega
theorem a8p {α : Type} {f : α -> Nat} (hf : ∀ x, 1 <= f x) : ∀ (l : List α), l.length <= (l.map f).sum
 | [] => c1A _
 | y :: l => by
  have h1 := hf y
  have h2 := a8p hf l
  rw [c1J, List.sum_cons, c1M]; omega
def rtM (a : Nm.Rt) : Nat := 3 + a.num.length + a.den.length
def vtM (v : Vt) : Nat := rtM v.x + rtM v.y
def frM (f : Fr) : Nat := rtM f.x + rtM f.y + rtM f.t
def lsM {α : Type} (f : α -> Nat) (l : List α) : Nat := 1 + (l.map f).sum
def lkM (l : Lk) : Nat := rtM l.length + rtM l.low + rtM l.high + rtM l.speed + rtM l.brake + lsM vtM l.shape
def amM (a : Am) : Nat := a.name.length + frM a.base + lsM lkM a.links
def ptM (p : Pt) : Nat := p.name.length + lsM vtM p.shape + frM p.grasp
def slM (s : Sl) : Nat := s.name.length + frM s.frame + rtM s.within
def gtM (g : Gt) : Nat := g.name.length + vtM g.low + vtM g.high
def wkM (w : Wk) : Nat := lsM amM w.arms + lsM (lsM vtM) w.walls + lsM ptM w.parts + lsM slM w.slots + lsM gtM w.gates + rtM w.walk
def asM (x : Ast) : Nat := lsM rtM x.q + lsM rtM x.v + 1
def stM (s : Stt) : Nat := lsM asM s.arms + lsM frM s.parts + lsM vtM s.people + lsM (fun _ => 1) s.gates + 1
theorem a1R {a : Nm.Rt} {k : Nat} (h : rtM a <= k) : Rb k a := by unfold rtM at h; exact ⟨by omega, by omega⟩
theorem b3T {a : Vt} {k : Nat} (h : vtM a <= k) : Vb k a := by unfold vtM at h; exact ⟨a1R (by omega), a1R (by omega)⟩
theorem b3e {a : Fr} {k : Nat} (h : frM a <= k) : Fb k a := by unfold frM at h; exact ⟨a1R (by omega), a1R (by omega), a1R (by omega)⟩
theorem a2O {α : Type} {f : α -> Nat} {l : List α} {k : Nat} (hf : ∀ x, 1 <= f x) (h : lsM f l <= k) : l.length <= k /\ ∀ x ∈ l, f x <= k := by
 unfold lsM at h
 have := a8p hf l
 exact ⟨by omega, fun x hx => by have := b2z (f := f) hx; omega⟩
theorem a1t (a : Nm.Rt) : 1 <= rtM a := by unfold rtM; omega
theorem a8H (a : Vt) : 1 <= vtM a := by have := a1t a.x; unfold vtM; omega
theorem a4H (a : Fr) : 1 <= frM a := by have := a1t a.x; unfold frM; omega
theorem b8J {α : Type} (f : α -> Nat) (l : List α) : 1 <= lsM f l := by unfold lsM; omega
theorem b7N (a : Lk) : 1 <= lkM a := by have := a1t a.length; unfold lkM; omega
theorem b8a (a : Am) : 1 <= amM a := by have := a4H a.base; unfold amM; omega
theorem b8L (a : Pt) : 1 <= ptM a := by have := a4H a.grasp; unfold ptM; omega
theorem b8e (a : Sl) : 1 <= slM a := by have := a4H a.frame; unfold slM; omega
theorem b8m (a : Gt) : 1 <= gtM a := by have := a8H a.low; unfold gtM; omega
theorem b2y (a : Ast) : 1 <= asM a := by unfold asM; omega
theorem a9J {l : List Vt} {k : Nat} (h : lsM vtM l <= k) : Vbs k l := by
 obtain ⟨h1, h2⟩ := a2O a8H h
 exact ⟨h1, fun x hx => b3T (h2 x hx)⟩
theorem c0T {w : Wk} {k : Nat} (h : wkM w <= k) : Wb k w := by
 unfold wkM at h
 obtain ⟨a1, a2⟩ := a2O b8a (show lsM amM w.arms <= k by omega)
 obtain ⟨b1, b2⟩ := a2O (b8J vtM) (show lsM (lsM vtM) w.walls <= k by omega)
 obtain ⟨c1, c2⟩ := a2O b8L (show lsM ptM w.parts <= k by omega)
 obtain ⟨d1, d2⟩ := a2O b8e (show lsM slM w.slots <= k by omega)
 obtain ⟨e1, e2⟩ := a2O b8m (show lsM gtM w.gates <= k by omega)
 refine ⟨⟨a1, fun x hx => ?_⟩, ⟨b1, fun x hx => a9J (b2 x hx)⟩, ⟨c1, fun x hx => ?_⟩, ⟨d1, fun x hx => ?_⟩, ⟨e1, fun x hx => ?_⟩, a1R (by omega)⟩
 ·have := a2 x hx
  unfold amM at this
  obtain ⟨f1, f2⟩ := a2O b7N (show lsM lkM x.links <= k by omega)
  refine ⟨by omega, b3e (by omega), f1, fun l hl => ?_⟩
  have := f2 l hl
  unfold lkM at this
  exact ⟨a1R (by omega), a1R (by omega), a1R (by omega), a1R (by omega), a1R (by omega), a9J (by omega)⟩
 ·have := c2 x hx
  unfold ptM at this
  exact ⟨by omega, a9J (by omega), b3e (by omega)⟩
 ·have := d2 x hx
  unfold slM at this
  exact ⟨by omega, b3e (by omega), a1R (by omega)⟩
 ·have := e2 x hx
  unfold gtM at this
  exact ⟨by omega, b3T (by omega), b3T (by omega)⟩
theorem c1c {s : Stt} {k : Nat} (h : stM s <= k) : Stb k s := by
 unfold stM at h
 obtain ⟨a1, a2⟩ := a2O b2y (show lsM asM s.arms <= k by omega)
 obtain ⟨b1, b2⟩ := a2O a4H (show lsM frM s.parts <= k by omega)
 obtain ⟨c1, _⟩ := a2O (fun _ => c1A _) (show lsM (fun _ => 1) s.gates <= k by omega)
 refine ⟨⟨a1, fun x hx => ?_⟩, ⟨b1, fun x hx => b3e (b2 x hx)⟩, a9J (by omega), c1⟩
 have := a2 x hx
 unfold asM at this
 obtain ⟨d1, d2⟩ := a2O a1t (show lsM rtM x.q <= k by omega)
 obtain ⟨e1, e2⟩ := a2O a1t (show lsM rtM x.v <= k by omega)
 exact ⟨⟨d1, fun r hr => a1R (d2 r hr)⟩, e1, fun r hr => a1R (e2 r hr)⟩
section
variable {H : Type} {enc : TypeId × Value -> H} {W : World}
theorem o_b : Opens enc Tryz.prog W 4 (fun b : Bool => [.v (.bool b)]) (fun _ => True) fun _ => 1 := b3E Tryz.underlying4
theorem o_i : Opens enc Tryz.prog W 3 (fun n : Int => [.v (.int .i64 n)]) I64 fun _ => 1 := b5C Tryz.underlying3
theorem o_s : Opens enc Tryz.prog W 9 (fun l : List UInt8 => [sb l]) (fun _ => True) fun l => l.length + 1 :=
 (b4Z Tryz.underlying9).imp fun s _ => ⟨s.data.toList, by simp only [sb, b8H], trivial, by have h : s.data.toList.length = s.size := (by cases s; simp [ByteArray.size]); omega⟩
theorem b4F : ∃ fs, Tryz.prog.underlying 29 = some (.struct fs) /\ fs.toList.map (·.type) = [4, 9, 9] /\ O8 Tryz.prog fs.toList 0 = some (Tryz.prog.cellsOf 29) := ⟨_, Tryz.underlying29, rfl, by kernel_rfl⟩
theorem b7g : Tryz.prog.cellsOf 29 = 3 := by kernel_rfl
theorem a3F : Opens enc Tryz.prog W 29 rcs (fun _ => True) rtM := by
 obtain ⟨fs, h1, h2, h3⟩ := b4F
 refine (I6 h1 h2 h3 (p8 o_b (p8 o_s (p8 o_s L6)))).imp ?_
 rintro ⟨a, b, c, _⟩ hok
 exact ⟨⟨a, b, c⟩, rfl, trivial, by simp only [rtM]; omega⟩
theorem b5g : ∃ fs, Tryz.prog.underlying 51 = some (.struct fs) /\ fs.toList.map (·.type) = [29, 29] /\ O8 Tryz.prog fs.toList 0 = some (Tryz.prog.cellsOf 51) := ⟨_, Tryz.underlying51, rfl, by kernel_rfl⟩
theorem b6i : Tryz.prog.cellsOf 51 = 6 := by kernel_rfl
theorem b1r : Opens enc Tryz.prog W 51 Vt.enc (fun _ => True) vtM := by
 obtain ⟨fs, h1, h2, h3⟩ := b5g
 refine (I6 h1 h2 h3 (p8 a3F (p8 a3F L6))).imp ?_
 rintro ⟨a, b, _⟩ hok
 exact ⟨⟨a, b⟩, rfl, trivial, by simp only [vtM]; omega⟩
theorem b4G : ∃ fs, Tryz.prog.underlying 53 = some (.struct fs) /\ fs.toList.map (·.type) = [4, 29] /\ O8 Tryz.prog fs.toList 0 = some (Tryz.prog.cellsOf 53) := ⟨_, Tryz.underlying53, rfl, by kernel_rfl⟩
theorem c0Z : Opens enc Tryz.prog W 53 (fun p : Bool × Nm.Rt => .v (.bool p.1) :: rcs p.2) (fun _ => True) fun p => rtM p.2 := by
 obtain ⟨fs, h1, h2, h3⟩ := b4G
 refine (I6 h1 h2 h3 (p8 o_b (p8 a3F L6))).imp ?_
 rintro ⟨a, b, _⟩ hok
 exact ⟨⟨a, b⟩, rfl, trivial, by simp only; omega⟩
theorem b4W : ∃ fs, Tryz.prog.underlying 55 = some (.struct fs) /\ fs.toList.map (·.type) = [51, 53] /\ O8 Tryz.prog fs.toList 0 = some (Tryz.prog.cellsOf 55) := ⟨_, Tryz.underlying55, rfl, by kernel_rfl⟩
theorem b5U : Tryz.prog.cellsOf 55 = 10 := by kernel_rfl
theorem b3Q : Opens enc Tryz.prog W 55 Fr.enc (fun _ => True) frM := by
 obtain ⟨fs, h1, h2, h3⟩ := b4W
 refine (I6 h1 h2 h3 (p8 b1r (p8 c0Z L6))).imp ?_
 rintro ⟨⟨x, y⟩, ⟨h, t⟩, _⟩ hok
 exact ⟨⟨x, y, h, t⟩, rfl, trivial, by simp only [frM, vtM]; omega⟩
theorem a9P : Opens enc Tryz.prog W 34 (fun l => [vts l]) (fun _ => True) (lsM vtM) :=
 (M5 Tryz.underlying34 b6i (by decide) (fun _ => rfl) b1r).imp fun l hl => ⟨l, rfl, trivial, c1A _⟩
theorem b4E : Tryz.prog.cellsOf 34 = 1 := by kernel_rfl
theorem b4J : ∃ fs, Tryz.prog.underlying 158 = some (.struct fs) /\ fs.toList.map (·.type) = [29, 29, 29, 29, 29, 34] /\ O8 Tryz.prog fs.toList 0 = some (Tryz.prog.cellsOf 158) := ⟨_, Tryz.underlying158, rfl, by kernel_rfl⟩
theorem b6J : Tryz.prog.cellsOf 158 = 16 := by kernel_rfl
theorem c1e : Opens enc Tryz.prog W 158 Lk.enc (fun _ => True) lkM := by
 obtain ⟨fs, h1, h2, h3⟩ := b4J
 refine (I6 h1 h2 h3 (p8 a3F (p8 a3F (p8 a3F (p8 a3F (p8 a3F (p8 a9P L6))))))).imp ?_
 rintro ⟨a, b, c, d, e, f, _⟩ hok
 exact ⟨⟨a, b, c, d, e, f⟩, rfl, trivial, by simp only [lkM]; omega⟩
theorem c0H : Opens enc Tryz.prog W 74 (fun l => [lks l]) (fun _ => True) (lsM lkM) :=
 (M5 Tryz.underlying74 b6J (by decide) (fun _ => rfl) c1e).imp fun l hl => ⟨l, rfl, trivial, c1A _⟩
theorem b5l : ∃ fs, Tryz.prog.underlying 76 = some (.struct fs) /\ fs.toList.map (·.type) = [9, 55, 74] /\ O8 Tryz.prog fs.toList 0 = some (Tryz.prog.cellsOf 76) := ⟨_, Tryz.underlying76, rfl, by kernel_rfl⟩
theorem b7b : Tryz.prog.cellsOf 76 = 12 := by kernel_rfl
theorem c0Y : Opens enc Tryz.prog W 76 Am.enc (fun _ => True) amM := by
 obtain ⟨fs, h1, h2, h3⟩ := b5l
 refine (I6 h1 h2 h3 (p8 o_s (p8 b3Q (p8 c0H L6)))).imp ?_
 rintro ⟨a, b, c, _⟩ hok
 exact ⟨⟨a, b, c⟩, rfl, trivial, by simp only [amM]; omega⟩
theorem c0p : Opens enc Tryz.prog W 23 (fun l => [ams l]) (fun _ => True) (lsM amM) :=
 (M5 Tryz.underlying23 b7b (by decide) (fun _ => rfl) c0Y).imp fun l hl => ⟨l, rfl, trivial, c1A _⟩
theorem c0C : Opens enc Tryz.prog W 24 (fun l => [wls l]) (fun _ => True) (lsM (lsM vtM)) :=
 (M5 Tryz.underlying24 b4E (by decide) (fun _ => rfl) a9P).imp fun l hl => ⟨l, rfl, trivial, c1A _⟩
theorem b5y : ∃ fs, Tryz.prog.underlying 80 = some (.struct fs) /\ fs.toList.map (·.type) = [9, 34, 55] /\ O8 Tryz.prog fs.toList 0 = some (Tryz.prog.cellsOf 80) := ⟨_, Tryz.underlying80, rfl, by kernel_rfl⟩
theorem b6V : Tryz.prog.cellsOf 80 = 12 := by kernel_rfl
theorem c0W : Opens enc Tryz.prog W 80 Pt.enc (fun _ => True) ptM := by
 obtain ⟨fs, h1, h2, h3⟩ := b5y
 refine (I6 h1 h2 h3 (p8 o_s (p8 a9P (p8 b3Q L6)))).imp ?_
 rintro ⟨a, b, c, _⟩ hok
 exact ⟨⟨a, b, c⟩, rfl, trivial, by simp only [ptM]; omega⟩
theorem c0B : Opens enc Tryz.prog W 25 (fun l => [pts l]) (fun _ => True) (lsM ptM) :=
 (M5 Tryz.underlying25 b6V (by decide) (fun _ => rfl) c0W).imp fun l hl => ⟨l, rfl, trivial, c1A _⟩
theorem b5j : ∃ fs, Tryz.prog.underlying 57 = some (.struct fs) /\ fs.toList.map (·.type) = [9, 55, 29] /\ O8 Tryz.prog fs.toList 0 = some (Tryz.prog.cellsOf 57) := ⟨_, Tryz.underlying57, rfl, by kernel_rfl⟩
theorem b6t : Tryz.prog.cellsOf 57 = 14 := by kernel_rfl
theorem c1i : Opens enc Tryz.prog W 57 Sl.enc (fun _ => True) slM := by
 obtain ⟨fs, h1, h2, h3⟩ := b5j
 refine (I6 h1 h2 h3 (p8 o_s (p8 b3Q (p8 a3F L6)))).imp ?_
 rintro ⟨a, b, c, _⟩ hok
 exact ⟨⟨a, b, c⟩, rfl, trivial, by simp only [slM]; omega⟩
theorem c0u : Opens enc Tryz.prog W 26 (fun l => [sls l]) (fun _ => True) (lsM slM) :=
 (M5 Tryz.underlying26 b6t (by decide) (fun _ => rfl) c1i).imp fun l hl => ⟨l, rfl, trivial, c1A _⟩
theorem b5I : ∃ fs, Tryz.prog.underlying 114 = some (.struct fs) /\ fs.toList.map (·.type) = [51, 51] /\ O8 Tryz.prog fs.toList 0 = some (Tryz.prog.cellsOf 114) := ⟨_, Tryz.underlying114, rfl, by kernel_rfl⟩
theorem c0Q : Opens enc Tryz.prog W 114 (fun p : Vt × Vt => p.1.enc ++ p.2.enc) (fun _ => True) fun p => vtM p.1 + vtM p.2 := by
 obtain ⟨fs, h1, h2, h3⟩ := b5I
 refine (I6 h1 h2 h3 (p8 b1r (p8 b1r L6))).imp ?_
 rintro ⟨a, b, _⟩ hok
 exact ⟨⟨a, b⟩, rfl, trivial, by simp only; omega⟩
theorem b5F : ∃ fs, Tryz.prog.underlying 116 = some (.struct fs) /\ fs.toList.map (·.type) = [9, 114] /\ O8 Tryz.prog fs.toList 0 = some (Tryz.prog.cellsOf 116) := ⟨_, Tryz.underlying116, rfl, by kernel_rfl⟩
theorem b6n : Tryz.prog.cellsOf 116 = 13 := by kernel_rfl
theorem c0U : Opens enc Tryz.prog W 116 Gt.enc (fun _ => True) gtM := by
 obtain ⟨fs, h1, h2, h3⟩ := b5F
 refine (I6 h1 h2 h3 (p8 o_s (p8 c0Q L6))).imp ?_
 rintro ⟨a, ⟨b, c⟩, _⟩ hok
 exact ⟨⟨a, b, c⟩, rfl, trivial, by simp only [gtM]; omega⟩
theorem c0s : Opens enc Tryz.prog W 27 (fun l => [gts l]) (fun _ => True) (lsM gtM) :=
 (M5 Tryz.underlying27 b6n (by decide) (fun _ => rfl) c0U).imp fun l hl => ⟨l, rfl, trivial, c1A _⟩
theorem b5i : ∃ fs, Tryz.prog.underlying 31 = some (.struct fs) /\ fs.toList.map (·.type) = [23, 24, 25, 26, 27, 29] /\ O8 Tryz.prog fs.toList 0 = some (Tryz.prog.cellsOf 31) := ⟨_, Tryz.underlying31, rfl, by kernel_rfl⟩
theorem c1j : Opens enc Tryz.prog W 31 Wk.enc (fun _ => True) wkM := by
 obtain ⟨fs, h1, h2, h3⟩ := b5i
 refine (I6 h1 h2 h3 (p8 c0p (p8 c0C (p8 c0B (p8 c0u (p8 c0s (p8 a3F L6))))))).imp ?_
 rintro ⟨a, b, c, d, e, f, _⟩ hok
 exact ⟨⟨a, b, c, d, e, f⟩, rfl, trivial, by simp only [wkM]; omega⟩
theorem b7u : Opens enc Tryz.prog W 88 (fun l => [rts l]) (fun _ => True) (lsM rtM) :=
 (M5 Tryz.underlying88 b7g (by decide) (fun _ => rfl) a3F).imp fun l hl => ⟨l, rfl, trivial, c1A _⟩
theorem b5P : ∃ fs, Tryz.prog.underlying 90 = some (.struct fs) /\ fs.toList.map (·.type) = [88, 88, 4, 3] /\ O8 Tryz.prog fs.toList 0 = some (Tryz.prog.cellsOf 90) := ⟨_, Tryz.underlying90, rfl, by kernel_rfl⟩
theorem b6m : Tryz.prog.cellsOf 90 = 4 := by kernel_rfl
theorem c0P : Opens enc Tryz.prog W 90 Ast.enc (Aok) asM := by
 obtain ⟨fs, h1, h2, h3⟩ := b5P
 refine (I6 h1 h2 h3 (p8 b7u (p8 b7u (p8 o_b (p8 o_i L6))))).imp ?_
 rintro ⟨a, b, c, d, _⟩ hok
 exact ⟨⟨a, b, c, d⟩, rfl, hok.2.2.2.1, by simp only [asM]; omega⟩
theorem b9B : Opens enc Tryz.prog W 32 (fun l => [F5 l]) (fun l => ∀ x ∈ l, Aok x) (lsM asM) :=
 (M5 Tryz.underlying32 b6m (by decide) (fun _ => rfl) c0P).imp fun l hl => ⟨l, rfl, hl, c1A _⟩
theorem c0K : Opens enc Tryz.prog W 33 (fun l => [frs l]) (fun _ => True) (lsM frM) :=
 (M5 Tryz.underlying33 b5U (by decide) (fun _ => rfl) b3Q).imp fun l hl => ⟨l, rfl, trivial, c1A _⟩
theorem b8q : Tryz.prog.cellsOf 4 = 1 := by kernel_rfl
theorem c0q : Opens enc Tryz.prog W 35 (fun l => [bls l]) (fun _ => True) (lsM fun _ => 1) :=
 (M5 Tryz.underlying35 b8q (by decide) (fun _ => rfl) o_b).imp fun l hl => ⟨l, rfl, trivial, c1A _⟩
theorem b5f : ∃ fs, Tryz.prog.underlying 37 = some (.struct fs) /\ fs.toList.map (·.type) = [3, 32, 33, 34, 35] /\ O8 Tryz.prog fs.toList 0 = some (Tryz.prog.cellsOf 37) := ⟨_, Tryz.underlying37, rfl, by kernel_rfl⟩
theorem c1b : Opens enc Tryz.prog W 37 Stt.enc (Sok) stM := by
 obtain ⟨fs, h1, h2, h3⟩ := b5f
 refine (I6 h1 h2 h3 (p8 o_i (p8 b9B (p8 c0K (p8 a9P (p8 c0q L6)))))).imp ?_
 rintro ⟨a, b, c, d, e, _⟩ hok
 exact ⟨⟨a, b, c, d, e⟩, rfl, ⟨hok.1, hok.2.1⟩, by simp only [stM]; omega⟩
end
theorem b2L (u : Nat) : (V7 u).length <= u + 1 := by
 induction u using V7.induct with
 | case1 u h => rw [a8o h]; simp
 | case2 u h ih => rw [a6m h, c1M]; omega
theorem a3N (b : Bool) : (a2t b).length = 1 := by cases b <;> rfl
theorem b2B (n : Int) : (a6j n).length <= 10 := b6N n
theorem b1u (l : List UInt8) : (a4O l).length <= 2 * l.length + 1 := by
 have := b2L l.length
 unfold a4O; rw [c1s]; omega
theorem a2e (a : Nm.Rt) : (U8 a).length <= 10 * rtM a := by
 have h1 := b1u a.num
 have h2 := b1u a.den
 have h3 := a3N a.neg
 unfold U8 rtM; simp only [c1s]; omega
theorem a2m {α : Type} {f : α -> List UInt8} {m : α -> Nat} {c : Nat} (hm : ∀ x, 1 <= m x) (h : ∀ x, (f x).length <= c * m x) (l : List α) : (J4 f l).length <= (c + 1) * lsM m l := by
 have h1 : ∀ l : List α, (l.flatMap f).length <= c * (l.map m).sum := fun l => by
  induction l with
  | nil => simp
  | cons x l ih =>
   have := h x
   rw [List.flatMap_cons, c1s, c1J, List.sum_cons, Nat.mul_add]; omega
 have h2 := b2L l.length
 have h3 := a8p hm l
 have h4 := h1 l
 unfold J4 lsM
 rw [c1s, Nat.add_mul, Nat.mul_add, Nat.mul_add]
 omega
theorem b8g (s : Stt) : (a2S s).length <= 40 * stM s := by
 have h1 := b2B s.tick
 have h2 : ∀ x : Ast, (a5r x).length <= 22 * asM x := fun x => by
  have a1 := a2m a1t a2e x.q
  have a2 := a2m a1t a2e x.v
  have a3 := a3N x.power
  have a4 := b2B (IntKind.i64.wrap (x.holds + 1))
  unfold a5r asM; simp only [c1s]; omega
 have h3 : ∀ f : Fr, (frB f).length <= 11 * frM f := fun f => by
  have a1 := a2e f.x
  have a2 := a2e f.y
  have a3 := a3N f.half
  have a4 := a2e f.t
  have := a1t f.x
  unfold frB frM; simp only [c1s]; omega
 have h4 : ∀ v : Vt, (a4p v).length <= 10 * vtM v := fun f => by
  have a1 := a2e f.x
  have a2 := a2e f.y
  unfold a4p vtM; simp only [c1s]; omega
 have b2 := a2m b2y h2 s.arms
 have b3 := a2m a4H h3 s.parts
 have b4 := a2m a8H h4 s.people
 have b5 := a2m (f := a2t) (m := fun _ => 1) (c := 1) (fun _ => c1A _) (fun b => by rw [a3N]; omega) s.gates
 unfold a2S stM; simp only [c1s]; omega
open Go Go.RowKit Eng
theorem a4y {α : Type} {f : α -> Nat} {n b : Nat} : ∀ {l : List α}, l.length <= n -> (∀ x ∈ l, f x <= b) -> lsM f l <= 1 + n * b := by
 intro l hn hb
 have h1 : ∀ l : List α, (∀ x ∈ l, f x <= b) -> (l.map f).sum <= l.length * b := fun l => by
  induction l with
  | nil => intro _; simp
  | cons x l ih =>
   intro h
   have h2 := h x (by simp)
   have h3 := ih fun y hy => h y (by simp [hy])
   rw [c1J, List.sum_cons, c1M, Nat.add_mul]; omega
 have h2 := h1 l hb
 have h3 := c1X b hn
 unfold lsM; omega
structure Stc (k : Nat) (s : Stt) : Prop where
 arms : s.arms.length <= 4 /\ ∀ x ∈ s.arms, (x.q.length <= 3 /\ ∀ r ∈ x.q, Rb k r) /\ (x.v.length <= 3 /\ ∀ r ∈ x.v, Rb k r)
 parts : s.parts.length <= 6 /\ ∀ f ∈ s.parts, Fb k f
 people : s.people.length <= 4 /\ ∀ v ∈ s.people, Vb k v
 gates : s.gates.length <= 4
theorem b9S {s : Stt} {k : Nat} (h : Stc k s) : stM s <= 100 * (2 * k + 3) + 100 := by
 obtain ⟨⟨a1, a2⟩, ⟨b1, b2⟩, ⟨c1, c2⟩, d1⟩ := h
 have hr : ∀ r : Nm.Rt, Rb k r -> rtM r <= 2 * k + 3 := fun r hr => by have := hr.1; have := hr.2; unfold rtM; omega
 generalize 2 * k + 3 = m at *
 have e1 := a4y (f := asM) (b := 6 * m + 3) a1 fun x hx => by
  obtain ⟨⟨q1, q2⟩, v1, v2⟩ := a2 x hx
  have f1 := a4y q1 fun r h => hr r (q2 r h)
  have f2 := a4y v1 fun r h => hr r (v2 r h)
  unfold asM; omega
 have e2 := a4y (f := frM) (b := 3 * m) b1 fun f hf => by
  obtain ⟨f1, f2, f3⟩ := b2 f hf
  have := hr _ f1; have := hr _ f2; have := hr _ f3
  unfold frM; omega
 have e3 := a4y (f := vtM) (b := 2 * m) c1 fun v hv => by
  obtain ⟨f1, f2⟩ := c2 v hv
  have := hr _ f1; have := hr _ f2
  unfold vtM; omega
 have e4 := a4y (f := fun _ : Bool => 1) (b := 1) d1 fun _ _ => c1A _
 unfold stM; omega
open Go Eng
set_option maxRecDepth 100000
set_option maxHeartbeats 16000000
theorem b8V (w : Wk) (s : Stt) (u : List (List Nm.Rt)) (p : List Bool) (hwb : Wb 1048576 w) (hs : Stb 1048576 s) (hu : Wsb 1048576 u) (hp : p.length <= 1048576) :
  FZ 56 [w.c, s.c, wss u, bls p, .v (.slice none 0 0)] (a7y w s u p []) := by
 have h := b9Q w s u p [] hwb hs hu hp ⟨c1y _, fun x hx => by cases hx⟩
 intro O w' vs hw hO hA
 refine h O w' vs hw hO ?_
 simp only [FzL] at hA ⊢
 obtain ⟨y1, r1, rfl, f1, y2, r2, rfl, f2, y3, r3, rfl, f3, y4, r4, rfl, f4, y5, r5, rfl, f5, rfl⟩ := hA
 simp only [Fz] at f5
 subst f5
 exact ⟨_, _, rfl, f1, _, _, rfl, f2, _, _, rfl, f3, _, _, rfl, f4, _, _, rfl, b5d, rfl⟩
theorem b3k : a5W I5 (K4 I5) [[Q 1 8]] [true] = [⟨[Q 1 8], [Q 1 8], true, -1⟩] := by decide +kernel
theorem b5z : I5.arms.length = 1 /\ (K4 I5).people.length = 0 /\ (K4 I5).tick = 0 := by decide +kernel
theorem b3h : a3e I5 (K4 I5) [[Q 1 8]] [true] [] = 0 := by
 obtain ⟨ha, hs⟩ := b4B
 have h0 := b7d a3Y ha hs
 obtain ⟨h1, h2, h3⟩ := b5z
 unfold a3e
 rw [if_neg (by simpa using h0), if_neg (by simp only [c1M, List.length_nil]; omega), if_neg (by simp), if_neg (by omega)]
theorem c0y : Rb 1048576 (Q 1 8) := ⟨by decide +kernel, by decide +kernel⟩
theorem b1F : FZ 55 [] (.v (.bool true)) := by
 refine kW Tryz.func55 (by cbv) (by rfl) fun w' O hw => ?_
 obtain ⟨ha, hs⟩ := b4B
 have hb := a9X
 have h1 := b8u
 have h2 := a2u 1 8 (by decide) (by decide)
 have h3 := b8V I5 (K4 I5) [[Q 1 8]] [true] hb (b6e (by decide) hb ha hs) ⟨by decide, fun l hl => by rw [List.mem_singleton] at hl; subst hl; exact ⟨by decide, fun r hr => by rw [List.mem_singleton] at hr; subst hr; exact c0y⟩⟩ (by decide)
 have h4 := b8f [Q 1 8] [Q 1 8] (by decide) (by decide)
 unfold a7y at h3
 rw [if_pos b3h] at h3
 have hA : (a9N I5 (K4 I5) [[Q 1 8]] [true] []).arms = [⟨[Q 1 8], [Q 1 8], true, -1⟩] := b3k
 rw [decide_eq_true rfl] at h4
 generalize a9N I5 (K4 I5) [[Q 1 8]] [true] [] = S at *
 generalize K4 I5 = s at *
 generalize I5 = w at *
 generalize Q 1 8 = q at *
 obtain ⟨arms, walls, parts, slots, gates, walk⟩ := w
 obtain ⟨tick, sarms, sparts, people, sgates⟩ := s
 obtain ⟨tick2, sarms2, sparts2, people2, sgates2⟩ := S
 simp only at hA
 subst hA
 simp only [j6]
 simp only [Wk.c, Wk.enc, Stt.c, Stt.enc, Ast.enc, ams, wls, pts, sls, gts, F5, frs, vts, bls, wss, rts, rcs, rc, sb, ints, c1J, c1N] at h1 h2 h3 h4 ⊢
 (repeat first | refine uA ?_ | (refine uK ?_ ?_; focus first | omega | (intros; simp_all <;> omega)) | simp (disch := omega) only [go_sem, Nat.reduceBEq, Nat.reduceAdd, ww, decide_true, c1r] | (refine uB h2 ?_ ?_; exact rfl) | (refine uB h4 ?_ ?_; exact rfl) | (refine uD h1 ?_ ?_ ?_; exact tz hw; exact rfl) | (refine uD h3 ?_ ?_ ?_; exact tz hw; exact rfl))
 exact S.done (j3.out rfl (Imp.refl rfl) rfl)
theorem b4j : u7 Tryz.prog 41 [a2E.c, a2E.c] (.v (.bool true)) := by
 have h := a6Z a2E a2E b2D.w b2D.w (by decide +kernel) (by decide +kernel)
 rwa [decide_eq_true rfl] at h
theorem b4P {w : Wk} {s : Stt} (hs : Stb 1048576 s) (h : H8 w s = 0) : Stc 1048576 s := by
 have hok := a7s h
 have hb := hok.big
 have h1 := hok.arms
 have h2 := hok.parts
 have h3 := hok.gates
 refine ⟨⟨by omega, fun x hx => ?_⟩, ⟨by omega, hs.parts.2⟩, ⟨hok.people, hs.people.2⟩, by omega⟩
 obtain ⟨i, hi⟩ := List.getElem?_of_mem hx
 have hl := (c1z.1 hi).1
 have ga := c1p (show i < w.arms.length by omega)
 have ho := b5w (hok.one _ (c1t (M4 ga hi)))
 simp only at ho
 have h4 := (a3d ho.arm).2
 have h5 := ho.q
 have h6 := ho.v
 exact ⟨⟨by omega, (hs.arms.2 x hx).1.2⟩, by omega, (hs.arms.2 x hx).2.2⟩
theorem b7F {s : Stt} (h : Stc 1048576 s) : (a2S s).length <= 140737488355328 := by
 have h1 := b9S h
 have h2 := b8g s
 omega
theorem b7K {s : Stt} (h : Stc 1048576 s) : Stw s := by
 obtain ⟨⟨a1, a2⟩, ⟨b1, _⟩, ⟨c1, _⟩, d1⟩ := h
 refine ⟨⟨by omega, fun x hx => ?_⟩, by omega, by omega, by omega⟩
 obtain ⟨⟨q1, q2⟩, v1, v2⟩ := a2 x hx
 exact ⟨⟨by omega, fun r hr => (q2 r hr).mono (by decide)⟩, by omega, fun r hr => (v2 r hr).mono (by decide)⟩
theorem b2E {s : Stt} (h : Stc 1048576 s) : u7 Tryz.prog 41 [s.c, s.c] (.v (.bool true)) := by
 have h := a6Z s s (b7K h) (b7K h) (b7F h) (b7F h)
 rwa [decide_eq_true rfl] at h
theorem b9G (a b c d e v : Int) : (if D8 id [a, b, c, d, e] ≠ 0 then D8 id [a, b, c, d, e] else v) = if a ≠ 0 then a else if b ≠ 0 then b else if c ≠ 0 then c else if d ≠ 0 then d else if e ≠ 0 then e else v := by
 simp only [D8, id]
 by_cases ha : a = 0 <;> by_cases hb : b = 0 <;> by_cases hc : c = 0 <;> by_cases hd : d = 0 <;> by_cases he : e = 0 <;> simp [ha, hb, hc, hd, he]
theorem b2p {k : Nat} {a : Nm.Rt} (h : 1 <= k) (h1 : Rb k a) : Rbs k [a] := ⟨h, fun x hx => by simp at hx; subst hx; exact h1⟩
theorem b5V {k : Nat} {a b c d : Nm.Rt} (h : 4 <= k) (h1 : Rb k a) (h2 : Rb k b) (h3 : Rb k c) (h4 : Rb k d) : Rbs k [a, b, c, d] := ⟨h, fun x hx => by simp at hx; rcases hx with rfl | rfl | rfl | rfl <;> assumption⟩
theorem walk_eq (a : Nm.Rt) : a9Q a = if ([a].all j4 = false \/ y8 (Nm.d9 a) = -1) then 1 else 0 := by
 have h1 : (decide a.A8 && j4 a) = [a].all j4 := by rw [<- V8]; simp
 have h2 := b4D (Nm.d9 a)
 unfold a9Q
 rw [h1]
 generalize [a].all j4 = q
 have := b0f (Nm.d9 a)
 cases q
 ·simp
 ·by_cases h : 0 <= y8 (Nm.d9 a)
  ·rw [if_pos (by simpa using h), if_neg (by simp; omega)]
  ·rw [if_neg (by simpa using h), if_pos (by right; omega)]
theorem b8n (s : Sl) : (okF s.frame && decide s.within.A8 && j4 s.within && decide (0 < y8 (Nm.d9 s.within))) = !(!okF s.frame || !([s.within].all j4) || decide (y8 (Nm.d9 s.within) < 1)) := by
 have h1 : (okF s.frame && decide s.within.A8 && j4 s.within) = (okF s.frame && [s.within].all j4) := by
  rw [Bool.and_assoc, <- V8]; simp
 rw [h1, sign_one]
 cases okF s.frame <;> cases [s.within].all j4 <;> cases decide (0 < y8 (Nm.d9 s.within)) <;> rfl
theorem b8b (g : Gt) : (okV g.low && okV g.high && decide (Nm.q8 (Nm.d9 g.low.x) (Nm.d9 g.high.x) <= 0) && decide (Nm.q8 (Nm.d9 g.low.y) (Nm.d9 g.high.y) <= 0)) = !(!([g.low.x, g.low.y, g.high.x, g.high.y].all j4) || decide (Nm.q8 (Nm.d9 g.low.x) (Nm.d9 g.high.x) = 1) || decide (Nm.q8 (Nm.d9 g.low.y) (Nm.d9 g.high.y) = 1)) := by
 have h1 : (okV g.low && okV g.high) = [g.low.x, g.low.y, g.high.x, g.high.y].all j4 := by
  rw [b0H, b0H]; simp [Bool.and_assoc]
 rw [h1, b2x, b2x]
 cases [g.low.x, g.low.y, g.high.x, g.high.y].all j4 <;> cases decide (Nm.q8 (Nm.d9 g.low.x) (Nm.d9 g.high.x) <= 0) <;> cases decide (Nm.q8 (Nm.d9 g.low.y) (Nm.d9 g.high.y) <= 0) <;> rfl
theorem b8I (n : Nms) (a : Am) : a0j n a = if J8 a ≠ 0 then (J8 a, n) else J5 n a.name := rfl
theorem b7h (n : Nms) (p : Pt) : a0a n p = if (J5 n p.name).1 ≠ 0 then J5 n p.name else if K8 p.shape ≠ 0 then (K8 p.shape, (J5 n p.name).2) else (if okF p.grasp then 0 else 1, (J5 n p.name).2) := rfl
theorem b6F (n : Nms) (s : Sl) : Z5 n s = if (J5 n s.name).1 ≠ 0 then J5 n s.name else (if okF s.frame && decide s.within.A8 && j4 s.within && decide (0 < y8 (Nm.d9 s.within)) then 0 else 1, (J5 n s.name).2) := rfl
theorem b5Z (n : Nms) (g : Gt) : Z6 n g = if (J5 n g.name).1 ≠ 0 then J5 n g.name else (if okV g.low && okV g.high && decide (Nm.q8 (Nm.d9 g.low.x) (Nm.d9 g.high.x) <= 0) && decide (Nm.q8 (Nm.d9 g.low.y) (Nm.d9 g.high.y) <= 0) then 0 else 1, (J5 n g.name).2) := rfl
theorem b6b (w : Wk) (hb : Wb 1073741824 w) : FZ 24 [w.c] (ints (X3 w)) := by
 refine kW Tryz.func24 (by cbv) (by rfl) fun w' O hw => ?_
 have hcal : callable Tryz.prog 98 = true := by kernel_rfl
 obtain ⟨⟨n1, b1⟩, ⟨n2, b2⟩, ⟨n3, b3⟩, ⟨n4, b4⟩, ⟨n5, b5⟩, b6⟩ := hb
 have hnm := fun (E : Ctx) (hP : E.P = Tryz.prog) (n : Nms) (s : List UInt8) (hs : s.length <= 1099511627776) (hn : n.length <= 1000000) => b8M hP w n s hs hn
 have h6 := a3w _ (b2p (by decide) (b6.mono (m := 17179869184) (by decide)))
 have h7 := O3 w.walk (b6.mono (by decide))
 unfold X3 a4E
 generalize hr1 : C9 a0j [] w.arms = r1
 obtain ⟨e1, m1⟩ := r1
 simp only
 generalize hr3 : C9 a0a m1 w.parts = r3
 obtain ⟨e3, m3⟩ := r3
 simp only
 generalize hr4 : C9 Z5 m3 w.slots = r4
 obtain ⟨e4, m4⟩ := r4
 simp only
 generalize hr5 : C9 Z6 m4 w.gates = r5
 obtain ⟨e5, m5⟩ := r5
 simp only
 generalize hr2 : D8 K8 w.walls = e2
 rw [b9G, walk_eq]
 generalize [w.walk].all j4 = q6 at *
 generalize y8 (Nm.d9 w.walk) = s7 at *
 obtain ⟨arms, walls, parts, slots, gates, walk⟩ := w
 simp only at n1 n2 n3 n4 n5 b1 b2 b3 b4 b5 hr1 hr2 hr3 hr4 hr5 ⊢
 simp only [j6]
 simp only [Wk.c, Wk.enc, rsR, ams, wls, pts, sls, gts, rts, rcs, rc, sb, ints, c1J, c1N] at hnm h6 h7 ⊢
 (repeat first | refine uA ?_ | (refine uK ?_ ?_; focus first | omega | (intros; simp_all <;> omega)) | simp (disch := omega) only [go_sem, Nat.reduceBEq, Nat.reduceAdd, ww, c1q])
 refine S.cond rfl (fun hc => ?_) (fun hc => ?_)
 ·rw [if_pos (by simp only [c1Z, c1w] at hc; omega)]
  (repeat first | refine uA ?_ | (refine uK ?_ ?_; focus first | omega | (intros; simp_all <;> omega)) | simp (disch := omega) only [go_sem, Nat.reduceBEq, Nat.reduceAdd, ww])
  exact S.done (j3.out rfl (Imp.refl rfl) rfl)
 rw [if_neg (by simp only [c1H, c1x] at hc; omega)]
 simp only [c1H, c1x] at hc
 (repeat first | refine uA ?_ | (refine uK ?_ ?_; focus first | omega | (intros; simp_all <;> omega)) | simp (disch := omega) only [go_sem, Nat.reduceBEq, Nat.reduceAdd, ww, c1q])
 refine S.cond rfl (fun hc => ?_) (fun hc => ?_)
 ·rw [if_pos (by simp only [c1w] at hc; omega)]
  (repeat first | refine uA ?_ | (refine uK ?_ ?_; focus first | omega | (intros; simp_all <;> omega)) | simp (disch := omega) only [go_sem, Nat.reduceBEq, Nat.reduceAdd, ww])
  exact S.done (j3.out rfl (Imp.refl rfl) rfl)
 rw [if_neg (by simp only [c1x] at hc; omega)]
 (repeat first | refine uA ?_ | (refine uK ?_ ?_; focus first | omega | (intros; simp_all <;> omega)) | simp (disch := omega) only [go_sem, Nat.reduceBEq, Nat.reduceAdd, ww, c1q])
 refine S.loop (X := Nat × Nms) (fun x => ⟨[(1, .bp 0 0), (4, .clo 98 [.bp 1 0]), (58, ams arms), (59, ints arms.length), (60, ints x.1)], [.box 31 [ams arms, wls walls, pts parts, sls slots, gts gates, .v (.bool walk.neg), sb walk.num, sb walk.den], .box 153 [.rv 2], .row 9 1 (nmR x.2)]⟩)
  (fun x => x.1 <= arms.length /\ x.2.length <= x.1 /\ (e1, m1) = C9 a0j x.2 (arms.drop x.1)) (fun x => arms.length - x.1) (0, []) ⟨c1y _, c1A _, hr1.symm⟩ (Ent.trans (Ent.a2x 1 0 9 1 rfl rfl rfl) (by (repeat first | refine uA ?_ | (refine ⟨?_, ?_⟩; focus first | rfl | simp [slot]) | rfl | simp))) ?_
 rintro ⟨i, m⟩ ⟨hi, hml, hg⟩
 simp only [ams, wls, pts, sls, gts, sb, ints] at hi hml hg ⊢
 (repeat first | refine uA ?_ | (refine uK ?_ ?_; focus first | omega | (intros; simp_all <;> omega)) | simp (disch := omega) only [go_sem, Nat.reduceBEq, Nat.reduceAdd, ww])
 (refine uJ rfl (fun hc => ?_) fun hc => ?_)
 ·have hgi := c1p (show i < arms.length by omega)
  generalize arms[i]'(_) = x at hgi
  have hx := b1 x (c1t hgi)
  have hst := R6 (f := a0j) (s := m) hgi
  have hnx := R7 (f := a0j) (s := m) hgi
  have o1 := a7O x hx
  have o2 := fun (E : Ctx) (hP : E.P = Tryz.prog) => hnm E hP m x.name (by have := hx.1; omega) (by omega)
  have hal := a5u m x.name
  rw [b8I] at hst hnx
  generalize J8 x = a1 at *
  generalize J5 m x.name = r at *
  obtain ⟨a2, m'⟩ := r
  simp only [Am.c, Am.enc, lks, sb] at o1 o2 hal hst hnx
  (repeat first | refine uG o1 ?_ | refine uA ?_ | (refine uK ?_ ?_; focus first | omega | (intros; simp_all <;> omega)) | simp (disch := omega) only [go_sem, Nat.reduceBEq, Nat.reduceAdd, ww, hgi, c1r, c1q, Am.enc, lks, sb, c1u] | (refine uD o1 ?_ ?_ ?_; exact tz hw; exact rfl))
  refine S.cond rfl (fun hc2 => ?_) (fun hc2 => ?_)
  ·have h0 : a1 ≠ 0 := by simpa using hc2
   rw [if_pos h0] at hst
   rw [hst h0] at hg
   injection hg with g1 g2
   rw [if_pos (by rw [g1]; exact h0), g1]
   (repeat first | refine uA ?_ | (refine uK ?_ ?_; focus first | omega | (intros; simp_all <;> omega)) | simp (disch := omega) only [go_sem, Nat.reduceBEq, Nat.reduceAdd, ww])
   exact S.done (j3.out rfl (Imp.refl rfl) rfl)
  have h0 : ¬ a1 ≠ 0 := by simpa using hc2
  rw [if_neg h0] at hst hnx
  simp only at hst hnx
  (repeat first | refine uA ?_ | (refine uK ?_ ?_; focus first | omega | (intros; simp_all <;> omega)) | simp (disch := omega) only [go_sem, Nat.reduceBEq, Nat.reduceAdd, ww, hcal, c1J, c1N] | refine l9.t (l8.b3F _ (o2 _ rfl) rfl rfl rfl) ?_)
  refine S.cond rfl (fun hc3 => ?_) (fun hc3 => ?_)
  ·have h1 : a2 ≠ 0 := by simpa using hc3
   rw [hst h1] at hg
   injection hg with g1 g2
   rw [if_pos (by rw [g1]; exact h1), g1]
   (repeat first | refine uA ?_ | (refine uK ?_ ?_; focus first | omega | (intros; simp_all <;> omega)) | simp (disch := omega) only [go_sem, Nat.reduceBEq, Nat.reduceAdd, ww])
   exact S.done (j3.out rfl (Imp.refl rfl) rfl)
  ·have h1 : a2 = 0 := by simpa using hc3
   (repeat first | refine uA ?_ | (refine uK ?_ ?_; focus first | omega | (intros; simp_all <;> omega)) | simp (disch := omega) only [go_sem, Nat.reduceBEq, Nat.reduceAdd, ww])
   refine S.next (x := (i, m)) (i + 1, m') ⟨by simp only; omega, by simp only; omega, by simp only; rw [hg]; exact hnx h1⟩ (by simp only; omega) (by (repeat first | refine uA ?_ | (refine ⟨?_, ?_⟩; focus first | rfl | simp [slot]) | rfl | simp))
 rw [W9 (by omega)] at hg
 injection hg with g1 g2
 subst g1 g2
 rw [if_neg (show ¬ (0 : Int) ≠ 0 by simp)]
 have hm1 : m1.length <= 4 := by omega
 clear hr1 b1 hml hi
 (repeat first | refine uA ?_ | (refine uK ?_ ?_; focus first | omega | (intros; simp_all <;> omega)) | simp (disch := omega) only [go_sem, Nat.reduceBEq, Nat.reduceAdd, ww, c1q])
 refine S.loop (X := Nat) (fun i => ⟨[(1, .bp 0 0), (4, .clo 98 [.bp 1 0]), (78, wls walls), (79, ints walls.length), (80, ints i)], [.box 31 [ams arms, wls walls, pts parts, sls slots, gts gates, .v (.bool walk.neg), sb walk.num, sb walk.den], .box 153 [.rv 2], .row 9 1 (nmR m1)]⟩)
  (fun i => i <= walls.length /\ e2 = D8 K8 (walls.drop i)) (fun i => walls.length - i) 0 ⟨c1y _, hr2.symm⟩ (by (repeat first | refine uA ?_ | (refine ⟨?_, ?_⟩; focus first | rfl | simp [slot]) | rfl | simp)) ?_
 rintro j ⟨hj, hg⟩
 simp only [ams, wls, pts, sls, gts, sb, ints] at hj hg ⊢
 (repeat first | refine uA ?_ | (refine uK ?_ ?_; focus first | omega | (intros; simp_all <;> omega)) | simp (disch := omega) only [go_sem, Nat.reduceBEq, Nat.reduceAdd, ww])
 (refine uJ rfl (fun hc => ?_) fun hc => ?_)
 ·have hgi := c1p (show j < walls.length by omega)
  generalize walls[j]'(_) = x at hgi
  have hx := b2 x (c1t hgi)
  have hst := a0h (f := K8) hgi
  have hnx := a0c (f := K8) hgi
  have o1 := b0y x hx
  generalize K8 x = a1 at *
  simp only [vts] at o1
  (repeat first | refine uG o1 ?_ | refine uA ?_ | (refine uK ?_ ?_; focus first | omega | (intros; simp_all <;> omega)) | simp (disch := omega) only [go_sem, Nat.reduceBEq, Nat.reduceAdd, ww, hgi, c1r, c1q, vts, c1u] | (refine uD o1 ?_ ?_ ?_; exact tz hw; exact rfl))
  refine S.cond rfl (fun hc2 => ?_) (fun hc2 => ?_)
  ·have h0 : a1 ≠ 0 := by simpa using hc2
   rw [hst h0] at hg
   rw [if_pos (by rw [hg]; exact h0), hg]
   (repeat first | refine uA ?_ | (refine uK ?_ ?_; focus first | omega | (intros; simp_all <;> omega)) | simp (disch := omega) only [go_sem, Nat.reduceBEq, Nat.reduceAdd, ww])
   exact S.done (j3.out rfl (Imp.refl rfl) rfl)
  ·have h0 : a1 = 0 := by simpa using hc2
   (repeat first | refine uA ?_ | (refine uK ?_ ?_; focus first | omega | (intros; simp_all <;> omega)) | simp (disch := omega) only [go_sem, Nat.reduceBEq, Nat.reduceAdd, ww])
   refine S.next (j + 1) ⟨by omega, by rw [hg]; exact hnx h0⟩ (by omega) (by (repeat first | refine uA ?_ | (refine ⟨?_, ?_⟩; focus first | rfl | simp [slot]) | rfl | simp))
 rw [a0w (by omega)] at hg
 subst hg
 rw [if_neg (show ¬ (0 : Int) ≠ 0 by simp)]
 clear hr2 b2 hj
 (repeat first | refine uA ?_ | (refine uK ?_ ?_; focus first | omega | (intros; simp_all <;> omega)) | simp (disch := omega) only [go_sem, Nat.reduceBEq, Nat.reduceAdd, ww, c1q])
 refine S.loop (X := Nat × Nms) (fun x => ⟨[(1, .bp 0 0), (4, .clo 98 [.bp 1 0]), (91, pts parts), (92, ints parts.length), (93, ints x.1)], [.box 31 [ams arms, wls walls, pts parts, sls slots, gts gates, .v (.bool walk.neg), sb walk.num, sb walk.den], .box 153 [.rv 2], .row 9 1 (nmR x.2)]⟩)
  (fun x => x.1 <= parts.length /\ x.2.length <= 4 + x.1 /\ (e3, m3) = C9 a0a x.2 (parts.drop x.1)) (fun x => parts.length - x.1) (0, m1) ⟨c1y _, hm1, hr3.symm⟩ (by (repeat first | refine uA ?_ | (refine ⟨?_, ?_⟩; focus first | rfl | simp [slot]) | rfl | simp)) ?_
 rintro ⟨k, m⟩ ⟨hk, hml, hg⟩
 simp only [ams, wls, pts, sls, gts, sb, ints] at hk hml hg ⊢
 (repeat first | refine uA ?_ | (refine uK ?_ ?_; focus first | omega | (intros; simp_all <;> omega)) | simp (disch := omega) only [go_sem, Nat.reduceBEq, Nat.reduceAdd, ww])
 (refine uJ rfl (fun hc => ?_) fun hc => ?_)
 ·have hgi := c1p (show k < parts.length by omega)
  generalize parts[k]'(_) = x at hgi
  have hx := b3 x (c1t hgi)
  have hst := R6 (f := a0a) (s := m) hgi
  have hnx := R7 (f := a0a) (s := m) hgi
  have o1 := b0y x.shape hx.2.1
  have o3 := a9W x.grasp ⟨hx.2.2.1.mono (by decide), hx.2.2.2.1.mono (by decide), hx.2.2.2.2.mono (by decide)⟩
  have o2 := fun (E : Ctx) (hP : E.P = Tryz.prog) => hnm E hP m x.name (by have := hx.1; omega) (by omega)
  have hal := a5u m x.name
  rw [b7h] at hst hnx
  generalize K8 x.shape = a1 at *
  generalize okF x.grasp = q at *
  generalize J5 m x.name = r at *
  obtain ⟨a2, m'⟩ := r
  obtain ⟨xn, xs, ⟨gx, gy, gh, gt⟩⟩ := x
  simp only [Fr.c, Fr.enc, vts, sb] at o1 o2 o3 hal hst hnx
  (repeat first | refine uA ?_ | (refine uK ?_ ?_; focus first | omega | (intros; simp_all <;> omega)) | simp (disch := omega) only [go_sem, Nat.reduceBEq, Nat.reduceAdd, ww, hgi, c1r, c1q, Pt.enc, vts, sb, c1u, hcal, c1J, c1N] | refine l9.t (l8.b3F _ (o2 _ rfl) rfl rfl rfl) ?_)
  refine S.cond rfl (fun hc2 => ?_) (fun hc2 => ?_)
  ·have h0 : a2 ≠ 0 := by simpa using hc2
   rw [if_pos h0] at hst
   rw [hst h0] at hg
   injection hg with g1 g2
   rw [if_pos (by rw [g1]; exact h0), g1]
   (repeat first | refine uA ?_ | (refine uK ?_ ?_; focus first | omega | (intros; simp_all <;> omega)) | simp (disch := omega) only [go_sem, Nat.reduceBEq, Nat.reduceAdd, ww])
   exact S.done (j3.out rfl (Imp.refl rfl) rfl)
  have h0 : ¬ a2 ≠ 0 := by simpa using hc2
  rw [if_neg h0] at hst hnx
  (repeat first | refine uG o1 ?_ | refine uA ?_ | (refine uK ?_ ?_; focus first | omega | (intros; simp_all <;> omega)) | simp (disch := omega) only [go_sem, Nat.reduceBEq, Nat.reduceAdd, ww] | (refine uD o1 ?_ ?_ ?_; exact tz hw; exact rfl))
  refine S.cond rfl (fun hc3 => ?_) (fun hc3 => ?_)
  ·have h1 : a1 ≠ 0 := by simpa using hc3
   rw [if_pos h1] at hst
   rw [hst h1] at hg
   injection hg with g1 g2
   rw [if_pos (by rw [g1]; exact h1), g1]
   (repeat first | refine uA ?_ | (refine uK ?_ ?_; focus first | omega | (intros; simp_all <;> omega)) | simp (disch := omega) only [go_sem, Nat.reduceBEq, Nat.reduceAdd, ww])
   exact S.done (j3.out rfl (Imp.refl rfl) rfl)
  have h1 : ¬ a1 ≠ 0 := by simpa using hc3
  rw [if_neg h1] at hst hnx
  (repeat first | refine uG o3 ?_ | refine uA ?_ | (refine uK ?_ ?_; focus first | omega | (intros; simp_all <;> omega)) | simp (disch := omega) only [go_sem, Nat.reduceBEq, Nat.reduceAdd, ww] | (refine uD o3 ?_ ?_ ?_; exact tz hw; exact rfl))
  refine S.cond rfl (fun hc4 => ?_) (fun hc4 => ?_)
  ·have h2 : ¬ q = true := by simpa using hc4
   rw [if_neg h2] at hst
   rw [hst (show (1 : Int) ≠ 0 by decide)] at hg
   injection hg with g1 g2
   rw [if_pos (by rw [g1]; decide), g1]
   (repeat first | refine uA ?_ | (refine uK ?_ ?_; focus first | omega | (intros; simp_all <;> omega)) | simp (disch := omega) only [go_sem, Nat.reduceBEq, Nat.reduceAdd, ww])
   exact S.done (j3.out rfl (Imp.refl rfl) rfl)
  ·have h2 : q = true := by simpa using hc4
   rw [if_pos h2] at hnx
   (repeat first | refine uA ?_ | (refine uK ?_ ?_; focus first | omega | (intros; simp_all <;> omega)) | simp (disch := omega) only [go_sem, Nat.reduceBEq, Nat.reduceAdd, ww])
   refine S.next (x := (k, m)) (k + 1, m') ⟨by simp only; omega, by simp only; omega, by simp only; rw [hg]; exact hnx rfl⟩ (by simp only; omega) (by (repeat first | refine uA ?_ | (refine ⟨?_, ?_⟩; focus first | rfl | simp [slot]) | rfl | simp))
 rw [W9 (by omega)] at hg
 injection hg with g1 g2
 subst g1 g2
 rw [if_neg (show ¬ (0 : Int) ≠ 0 by simp)]
 have hm3 : m3.length <= 10 := by omega
 clear hr3 b3 hml hk hm1
 (repeat first | refine uA ?_ | (refine uK ?_ ?_; focus first | omega | (intros; simp_all <;> omega)) | simp (disch := omega) only [go_sem, Nat.reduceBEq, Nat.reduceAdd, ww, c1q])
 refine S.loop (X := Nat × Nms) (fun x => ⟨[(1, .bp 0 0), (4, .clo 98 [.bp 1 0]), (116, sls slots), (117, ints slots.length), (118, ints x.1)], [.box 31 [ams arms, wls walls, pts parts, sls slots, gts gates, .v (.bool walk.neg), sb walk.num, sb walk.den], .box 153 [.rv 2], .row 9 1 (nmR x.2)]⟩)
  (fun x => x.1 <= slots.length /\ x.2.length <= 10 + x.1 /\ (e4, m4) = C9 Z5 x.2 (slots.drop x.1)) (fun x => slots.length - x.1) (0, m3) ⟨c1y _, hm3, hr4.symm⟩ (by (repeat first | refine uA ?_ | (refine ⟨?_, ?_⟩; focus first | rfl | simp [slot]) | rfl | simp)) ?_
 rintro ⟨k, m⟩ ⟨hk, hml, hg⟩
 simp only [ams, wls, pts, sls, gts, sb, ints] at hk hml hg ⊢
 (repeat first | refine uA ?_ | (refine uK ?_ ?_; focus first | omega | (intros; simp_all <;> omega)) | simp (disch := omega) only [go_sem, Nat.reduceBEq, Nat.reduceAdd, ww])
 (refine uJ rfl (fun hc => ?_) fun hc => ?_)
 ·have hgi := c1p (show k < slots.length by omega)
  generalize slots[k]'(_) = x at hgi
  have hx := b4 x (c1t hgi)
  have hst := R6 (f := Z5) (s := m) hgi
  have hnx := R7 (f := Z5) (s := m) hgi
  have o1 := a9W x.frame ⟨hx.2.1.1.mono (by decide), hx.2.1.2.1.mono (by decide), hx.2.1.2.2.mono (by decide)⟩
  have o3 := a3w _ (b2p (by decide) (hx.2.2.mono (m := 17179869184) (by decide)))
  have o4 := O3 x.within (hx.2.2.mono (by decide))
  have o2 := fun (E : Ctx) (hP : E.P = Tryz.prog) => hnm E hP m x.name (by have := hx.1; omega) (by omega)
  have hal := a5u m x.name
  rw [b6F] at hst hnx
  rw [b8n] at hst hnx
  generalize okF x.frame = q1 at *
  generalize [x.within].all j4 = q2 at *
  generalize y8 (Nm.d9 x.within) = s3 at *
  generalize J5 m x.name = r at *
  obtain ⟨a2, m'⟩ := r
  obtain ⟨xn, ⟨gx, gy, gh, gt⟩, wi⟩ := x
  simp only [Fr.c, Fr.enc, rts, rcs, rc, sb, ints, c1J, c1N] at o1 o2 o3 o4 hal hst hnx
  (repeat first | refine uA ?_ | (refine uK ?_ ?_; focus first | omega | (intros; simp_all <;> omega)) | simp (disch := omega) only [go_sem, Nat.reduceBEq, Nat.reduceAdd, ww, hgi, c1r, c1q, Sl.enc, sb, c1u, hcal, c1J, c1N] | refine l9.t (l8.b3F _ (o2 _ rfl) rfl rfl rfl) ?_)
  refine S.cond rfl (fun hc2 => ?_) (fun hc2 => ?_)
  ·have h0 : a2 ≠ 0 := by simpa using hc2
   rw [if_pos h0] at hst
   rw [hst h0] at hg
   injection hg with g1 g2
   rw [if_pos (by rw [g1]; exact h0), g1]
   (repeat first | refine uA ?_ | (refine uK ?_ ?_; focus first | omega | (intros; simp_all <;> omega)) | simp (disch := omega) only [go_sem, Nat.reduceBEq, Nat.reduceAdd, ww])
   exact S.done (j3.out rfl (Imp.refl rfl) rfl)
  have h0 : ¬ a2 ≠ 0 := by simpa using hc2
  rw [if_neg h0] at hst hnx
  cases q1
  ·(repeat first | refine uG o1 ?_ | refine uG o4 ?_ | refine uG o3 ?_ | refine uA ?_ | (refine uK ?_ ?_; focus first | omega | (intros; simp_all <;> omega)) | simp (disch := omega) only [go_sem, Nat.reduceBEq, Nat.reduceAdd, ww] | (refine uD o1 ?_ ?_ ?_; exact tz hw; exact rfl) | (refine uD o4 ?_ ?_ ?_; exact tz hw; exact rfl) | (refine uE o3 ?_ ?_ ?_ ?_; exact tz hw; exact rfl; focus (repeat' first | exact j5.nil | exact Imp.refl rfl | exact Imp.frz rfl rfl rfl | (refine Imp.J9 rfl rfl ?_ ?_; (focus ((try simp only [c1s]); omega)); (focus first | rfl | assumption)) | refine j5.cons ?_ ?_); done))
   refine S.cond rfl (fun hc3 => ?_) (fun hc3 => by simp at hc3)
   rw [if_neg (by simp)] at hst
   rw [hst (show (1 : Int) ≠ 0 by decide)] at hg
   injection hg with g1 g2
   rw [if_pos (by rw [g1]; decide), g1]
   (repeat first | refine uA ?_ | (refine uK ?_ ?_; focus first | omega | (intros; simp_all <;> omega)) | simp (disch := omega) only [go_sem, Nat.reduceBEq, Nat.reduceAdd, ww])
   exact S.done (j3.out rfl (Imp.refl rfl) rfl)
  (repeat first | refine uG o1 ?_ | refine uG o4 ?_ | refine uG o3 ?_ | refine uA ?_ | (refine uK ?_ ?_; focus first | omega | (intros; simp_all <;> omega)) | simp (disch := omega) only [go_sem, Nat.reduceBEq, Nat.reduceAdd, ww] | (refine uD o1 ?_ ?_ ?_; exact tz hw; exact rfl) | (refine uD o4 ?_ ?_ ?_; exact tz hw; exact rfl) | (refine uE o3 ?_ ?_ ?_ ?_; exact tz hw; exact rfl; focus (repeat' first | exact j5.nil | exact Imp.refl rfl | exact Imp.frz rfl rfl rfl | (refine Imp.J9 rfl rfl ?_ ?_; (focus ((try simp only [c1s]); omega)); (focus first | rfl | assumption)) | refine j5.cons ?_ ?_); done))
  refine S.cond rfl (fun hc3 => ?_) (fun hc3 => ?_)
  ·rw [if_neg (by simp; simp at hc3; rcases hc3 with h | h <;> simp [h])] at hst
   rw [hst (show (1 : Int) ≠ 0 by decide)] at hg
   injection hg with g1 g2
   rw [if_pos (by rw [g1]; decide), g1]
   (repeat first | refine uA ?_ | (refine uK ?_ ?_; focus first | omega | (intros; simp_all <;> omega)) | simp (disch := omega) only [go_sem, Nat.reduceBEq, Nat.reduceAdd, ww])
   exact S.done (j3.out rfl (Imp.refl rfl) rfl)
  ·rw [if_pos (by simpa using hc3)] at hnx
   (repeat first | refine uA ?_ | (refine uK ?_ ?_; focus first | omega | (intros; simp_all <;> omega)) | simp (disch := omega) only [go_sem, Nat.reduceBEq, Nat.reduceAdd, ww])
   refine S.next (x := (k, m)) (k + 1, m') ⟨by simp only; omega, by simp only; omega, by simp only; rw [hg]; exact hnx rfl⟩ (by simp only; omega) (by (repeat first | refine uA ?_ | (refine ⟨?_, ?_⟩; focus first | rfl | simp [slot]) | rfl | simp))
 rw [W9 (by omega)] at hg
 injection hg with g1 g2
 subst g1 g2
 rw [if_neg (show ¬ (0 : Int) ≠ 0 by simp)]
 have hm4 : m4.length <= 18 := by omega
 clear hr4 b4 hml hk hm3
 (repeat first | refine uA ?_ | (refine uK ?_ ?_; focus first | omega | (intros; simp_all <;> omega)) | simp (disch := omega) only [go_sem, Nat.reduceBEq, Nat.reduceAdd, ww, c1q])
 refine S.loop (X := Nat × Nms) (fun x => ⟨[(1, .bp 0 0), (4, .clo 98 [.bp 1 0]), (148, gts gates), (149, ints gates.length), (150, ints x.1)], [.box 31 [ams arms, wls walls, pts parts, sls slots, gts gates, .v (.bool walk.neg), sb walk.num, sb walk.den], .box 153 [.rv 2], .row 9 1 (nmR x.2)]⟩)
  (fun x => x.1 <= gates.length /\ x.2.length <= 18 + x.1 /\ (e5, m5) = C9 Z6 x.2 (gates.drop x.1)) (fun x => gates.length - x.1) (0, m4) ⟨c1y _, hm4, hr5.symm⟩ (by (repeat first | refine uA ?_ | (refine ⟨?_, ?_⟩; focus first | rfl | simp [slot]) | rfl | simp)) ?_
 rintro ⟨k, m⟩ ⟨hk, hml, hg⟩
 simp only [ams, wls, pts, sls, gts, sb, ints] at hk hml hg ⊢
 (repeat first | refine uA ?_ | (refine uK ?_ ?_; focus first | omega | (intros; simp_all <;> omega)) | simp (disch := omega) only [go_sem, Nat.reduceBEq, Nat.reduceAdd, ww])
 (refine uJ rfl (fun hc => ?_) fun hc => ?_)
 ·have hgi := c1p (show k < gates.length by omega)
  generalize gates[k]'(_) = x at hgi
  obtain ⟨hx0, ⟨hx1, hx2⟩, hx3, hx4⟩ := b5 x (c1t hgi)
  have hst := R6 (f := Z6) (s := m) hgi
  have hnx := R7 (f := Z6) (s := m) hgi
  have o3 := a3w _ (b5V (by decide) (hx1.mono (m := 17179869184) (by decide)) (hx2.mono (m := 17179869184) (by decide)) (hx3.mono (m := 17179869184) (by decide)) (hx4.mono (m := 17179869184) (by decide)))
  have o4 := K7 x.low.x x.high.x (hx1.mono (by decide)) (hx3.mono (by decide))
  have o5 := K7 x.low.y x.high.y (hx2.mono (by decide)) (hx4.mono (by decide))
  have o2 := fun (E : Ctx) (hP : E.P = Tryz.prog) => hnm E hP m x.name (by omega) (by omega)
  have hal := a5u m x.name
  rw [b5Z] at hst hnx
  rw [b8b] at hst hnx
  generalize [x.low.x, x.low.y, x.high.x, x.high.y].all j4 = q2 at *
  generalize Nm.q8 (Nm.d9 x.low.x) (Nm.d9 x.high.x) = s3 at *
  generalize Nm.q8 (Nm.d9 x.low.y) (Nm.d9 x.high.y) = s4 at *
  generalize J5 m x.name = r at *
  obtain ⟨a2, m'⟩ := r
  obtain ⟨xn, ⟨lx, ly⟩, ⟨ux, uy⟩⟩ := x
  simp only [rts, rcs, rc, sb, ints, c1J, c1N] at o2 o3 o4 o5 hal hst hnx
  (repeat first | refine uA ?_ | (refine uK ?_ ?_; focus first | omega | (intros; simp_all <;> omega)) | simp (disch := omega) only [go_sem, Nat.reduceBEq, Nat.reduceAdd, ww, hgi, c1r, c1q, Gt.enc, sb, c1u, hcal, c1J, c1N] | refine l9.t (l8.b3F _ (o2 _ rfl) rfl rfl rfl) ?_)
  refine S.cond rfl (fun hc2 => ?_) (fun hc2 => ?_)
  ·have h0 : a2 ≠ 0 := by simpa using hc2
   rw [if_pos h0] at hst
   rw [hst h0] at hg
   injection hg with g1 g2
   rw [if_pos (by rw [g1]; exact h0), g1]
   (repeat first | refine uA ?_ | (refine uK ?_ ?_; focus first | omega | (intros; simp_all <;> omega)) | simp (disch := omega) only [go_sem, Nat.reduceBEq, Nat.reduceAdd, ww])
   exact S.done (j3.out rfl (Imp.refl rfl) rfl)
  have h0 : ¬ a2 ≠ 0 := by simpa using hc2
  rw [if_neg h0] at hst hnx
  (repeat first | refine uI ?_ | (refine uK ?_ ?_; focus first | omega | (intros; simp_all <;> omega)) | simp (disch := omega) only [go_sem, Nat.reduceBEq, Nat.reduceAdd, ww])
  refine S.K3 [.gone, .gone, .gone, .box 116 [.v (.string (bs xn)), .v (.bool lx.neg), .v (.string (bs lx.num)), .v (.string (bs lx.den)), .v (.bool ly.neg), .v (.string (bs ly.num)), .v (.string (bs ly.den)), .v (.bool ux.neg), .v (.string (bs ux.num)), .v (.string (bs ux.den)), .v (.bool uy.neg), .v (.string (bs uy.num)), .v (.string (bs uy.den))]] (by simp [Eng.E5, Eng.P9]) ?_
  (repeat first | refine uG o4 ?_ | refine uG o5 ?_ | refine uG o3 ?_ | refine uA ?_ | (refine uK ?_ ?_; focus first | omega | (intros; simp_all <;> omega)) | simp (disch := omega) only [go_sem, Nat.reduceBEq, Nat.reduceAdd, ww, E5] | (refine uD o4 ?_ ?_ ?_; exact tz hw; exact rfl) | (refine uD o5 ?_ ?_ ?_; exact tz hw; exact rfl) | (refine uE o3 ?_ ?_ ?_ ?_; exact tz hw; exact rfl; focus (repeat' first | exact j5.nil | exact Imp.refl rfl | exact Imp.frz rfl rfl rfl | (refine Imp.J9 rfl rfl ?_ ?_; (focus ((try simp only [c1s, E5]); omega)); (focus first | rfl | assumption)) | refine j5.cons ?_ ?_); done))
  refine S.cond rfl (fun hc3 => ?_) (fun hc3 => ?_)
  ·rw [if_neg (by rw [hc3]; decide)] at hst
   rw [hst (show (1 : Int) ≠ 0 by decide)] at hg
   injection hg with g1 g2
   rw [if_pos (by rw [g1]; decide), g1]
   (repeat first | refine uA ?_ | (refine uK ?_ ?_; focus first | omega | (intros; simp_all <;> omega)) | simp (disch := omega) only [go_sem, Nat.reduceBEq, Nat.reduceAdd, ww])
   exact S.done (j3.out rfl (Imp.refl rfl) rfl)
  ·rw [if_pos (by rw [hc3]; rfl)] at hnx
   (repeat first | refine uA ?_ | (refine uK ?_ ?_; focus first | omega | (intros; simp_all <;> omega)) | simp (disch := omega) only [go_sem, Nat.reduceBEq, Nat.reduceAdd, ww])
   refine S.next (x := (k, m)) (k + 1, m') ⟨by simp only; omega, by simp only; omega, by simp only; rw [hg]; exact hnx rfl⟩ (by simp only; omega) (by (repeat first | refine uA ?_ | (refine ⟨?_, ?_⟩; focus first | rfl | simp [slot]) | rfl | simp))
 rw [W9 (by omega)] at hg
 injection hg with g1 g2
 subst g1
 rw [if_neg (show ¬ (0 : Int) ≠ 0 by simp)]
 (repeat first | refine uG h7 ?_ | refine uG h6 ?_ | refine uA ?_ | (refine uK ?_ ?_; focus first | omega | (intros; simp_all <;> omega)) | simp (disch := omega) only [go_sem, Nat.reduceBEq, Nat.reduceAdd, ww] | (refine uD h7 ?_ ?_ ?_; exact tz hw; exact rfl) | (refine uE h6 ?_ ?_ ?_ ?_; exact tz hw; exact rfl; focus (repeat' first | exact j5.nil | exact Imp.refl rfl | exact Imp.frz rfl rfl rfl | (refine Imp.J9 rfl rfl ?_ ?_; (focus ((try simp only [c1s]); omega)); (focus first | rfl | assumption)) | refine j5.cons ?_ ?_); done))
 refine S.cond rfl (fun hc => ?_) (fun hc => ?_)
 ·rw [if_pos (by simpa using hc)]
  (repeat first | refine uA ?_ | (refine uK ?_ ?_; focus first | omega | (intros; simp_all <;> omega)) | simp (disch := omega) only [go_sem, Nat.reduceBEq, Nat.reduceAdd, ww])
  exact S.done (j3.out rfl (Imp.refl rfl) rfl)
 ·rw [if_neg (by simpa using hc)]
  (repeat first | refine uA ?_ | (refine uK ?_ ?_; focus first | omega | (intros; simp_all <;> omega)) | simp (disch := omega) only [go_sem, Nat.reduceBEq, Nat.reduceAdd, ww])
  exact S.done (j3.out rfl (Imp.refl rfl) rfl)
theorem b5t (v s : Rat) : 0 < Nm.q8 (J2 v) s <-> (0 < Nm.q8 v s \/ 0 < Nm.q8 (-v) s) := by
 rw [U1, U1, U1]
 have hn : v.num < 0 <-> v < 0 := by
  have := @Rat.num_nonneg v
  rw [<- Rat.not_le, <- this]; omega
 unfold J2
 by_cases h : v < 0
 ·rw [if_pos (hn.2 h)]
  constructor
  ·exact .inr
  ·rintro (h1 | h1)
   ·grind
   ·exact h1
 ·rw [if_neg (fun h2 => h (hn.1 h2))]
  constructor
  ·exact .inl
  ·rintro (h1 | h1)
   ·exact h1
   ·grind
theorem b5c (h : List Int) (n k : Int) : (a1I h n).contains k = (h.contains k || decide (n = k)) := by
 rw [Bool.eq_iff_iff]
 unfold a1I
 split
 ·rename_i h1
  simp only [List.contains_iff_mem, c1Z, c1w] at h1 ⊢
  exact ⟨.inl, fun h2 => h2.elim id fun h3 => h3 ▸ h1⟩
 ·simp only [List.contains_iff_mem, List.mem_append, List.mem_singleton, c1Z, c1w]
  exact ⟨fun h2 => h2.imp id Eq.symm, fun h2 => h2.imp id Eq.symm⟩
theorem b2P {α : Type} {f : α -> Bool} {l : List α} {i : Nat} {x : α} (h : l[i]? = some x) : (l.take (i + 1)).any f = ((l.take i).any f || f x) := by
 rw [List.take_succ, h]; simp
theorem b6I (f : Fr) : Y6 f = !(!([f.x, f.y, f.t].all C8) || (f.half && !decide (y8 (Nm.d9 f.t) = 0))) := by
 rw [a3Q]
 unfold Y6 a1Q
 cases C8 f.x <;> cases C8 f.y <;> cases C8 f.t <;> cases f.half <;> cases decide (y8 (Nm.d9 f.t) = 0) <;> rfl
theorem b6Z (w : Wk) (s : Stt) (hb : Wb 1073741824 w) (hs : Stb 1073741824 s) : FZ 39 [w.c, s.c] (ints (H8 w s)) := by
 refine kW Tryz.func39 (by cbv) (by rfl) fun w' O hw => ?_
 have hwk := b6b w hb
 obtain ⟨⟨n1, b1⟩, ⟨n2, b2⟩, ⟨n3, b3⟩, n4⟩ := hs
 obtain ⟨m1, a1⟩ := hb.arms
 have m2 := hb.parts.1
 have m3 := hb.gates.1
 unfold H8
 generalize X3 w = e0 at *
 generalize hr : C9 (V6 w.parts.length) [] (w.arms.zip s.arms) = r
 obtain ⟨e1, hfin⟩ := r
 generalize hg1 : s.parts.all Y6 = pA
 generalize hg2 : s.people.all a1B = pB
 obtain ⟨arms, walls, parts, slots, gates, walk⟩ := w
 obtain ⟨tick, sarms, sparts, people, sgates⟩ := s
 simp only at *
 simp only [j6]
 simp only [Wk.c, Wk.enc, Stt.c, Stt.enc, ams, wls, pts, sls, gts, F5, frs, vts, bls, sb, ints] at hwk ⊢
 (repeat first | refine uA ?_ | (refine uK ?_ ?_; focus first | omega | (intros; simp_all <;> omega)) | simp (disch := omega) only [go_sem, Nat.reduceBEq, Nat.reduceAdd, ww] | (refine uD hwk ?_ ?_ ?_; exact tz hw; exact rfl))
 refine S.cond rfl (fun hc => ?_) (fun hc => ?_)
 ·rw [if_pos (by simpa using hc)]
  (repeat first | refine uA ?_ | (refine uK ?_ ?_; focus first | omega | (intros; simp_all <;> omega)) | simp (disch := omega) only [go_sem, Nat.reduceBEq, Nat.reduceAdd, ww])
  exact S.done (j3.out rfl (Imp.refl rfl) rfl)
 rw [if_neg (by simpa using hc)]
 (repeat first | refine uA ?_ | (refine uK ?_ ?_; focus first | omega | (intros; simp_all <;> omega)) | simp (disch := omega) only [go_sem, Nat.reduceBEq, Nat.reduceAdd, ww, c1q])
 refine S.cond rfl (fun hc => ?_) (fun hc => ?_)
 ·rw [if_pos (by simp only [c1w] at hc; omega)]
  (repeat first | refine uA ?_ | (refine uK ?_ ?_; focus first | omega | (intros; simp_all <;> omega)) | simp (disch := omega) only [go_sem, Nat.reduceBEq, Nat.reduceAdd, ww])
  exact S.done (j3.out rfl (Imp.refl rfl) rfl)
 rw [if_neg (by simp only [c1x] at hc; omega)]
 (repeat first | refine uA ?_ | (refine uK ?_ ?_; focus first | omega | (intros; simp_all <;> omega)) | simp (disch := omega) only [go_sem, Nat.reduceBEq, Nat.reduceAdd, ww, c1q])
 refine S.cond rfl (fun hc => ?_) (fun hc => ?_)
 ·rw [if_pos (by simp only [c1Z, Bool.not_eq_true', c1w, c1x] at hc; omega)]
  (repeat first | refine uA ?_ | (refine uK ?_ ?_; focus first | omega | (intros; simp_all <;> omega)) | simp (disch := omega) only [go_sem, Nat.reduceBEq, Nat.reduceAdd, ww])
  exact S.done (j3.out rfl (Imp.refl rfl) rfl)
 have hls : sarms.length = arms.length := by simp only [c1H, Bool.not_eq_false', c1w, c1x] at hc; omega
 rw [if_neg (by simp only [c1H, Bool.not_eq_false', c1w, c1x] at hc; omega)]
 clear hc
 (repeat first | refine uA ?_ | (refine uK ?_ ?_; focus first | omega | (intros; simp_all <;> omega)) | simp (disch := omega) only [go_sem, Nat.reduceBEq, Nat.reduceAdd, ww, c1q])
 refine S.loop (X := Nat × List Int) (fun x => ⟨[(2, .bp 0 0), (3, .bp 1 0), (63, F5 sarms), (64, ints sarms.length), (65, ints x.1)], [.box 31 [ams arms, wls walls, pts parts, sls slots, gts gates, .v (.bool walk.neg), sb walk.num, sb walk.den], .box 37 [ints tick, F5 sarms, frs sparts, vts people, bls sgates]]⟩)
  (fun x => x.1 <= sarms.length /\ (∀ k, x.2.contains k = (sarms.take x.1).any fun y => decide (y.holds = k)) /\ (e1, hfin) = C9 (V6 parts.length) x.2 ((arms.zip sarms).drop x.1)) (fun x => sarms.length - x.1) (0, []) ⟨c1y _, fun k => rfl, hr.symm⟩ (by (repeat first | refine uA ?_ | (refine ⟨?_, ?_⟩; focus first | rfl | simp [slot]) | rfl | simp)) ?_
 rintro ⟨i, h⟩ ⟨hi, hk, hg⟩
 simp only [ams, wls, pts, sls, gts, F5, frs, vts, bls, sb, ints] at hi hk hg ⊢
 (repeat first | refine uA ?_ | (refine uK ?_ ?_; focus first | omega | (intros; simp_all <;> omega)) | simp (disch := omega) only [go_sem, Nat.reduceBEq, Nat.reduceAdd, ww])
 (refine uJ rfl (fun hc => ?_) fun hc => ?_)
 ·have hgx := c1p (show i < sarms.length by omega)
  have hga := c1p (show i < arms.length by omega)
  generalize sarms[i]'_ = x at hgx
  generalize arms[i]'_ = a at hga
  have hz := M4 hga hgx
  have hst := R6 (f := V6 parts.length) (s := h) hz
  have hnx := R7 (f := V6 parts.length) (s := h) hz
  have hv : V6 parts.length h (a, x) = if a0W a x parts.length ≠ 0 then (a0W a x parts.length, h) else if (decide (0 <= x.holds) && h.contains x.holds) = true then (10, h) else (0, a1I h x.holds) := rfl
  rw [hv] at hst hnx
  clear hv
  have hxb := b1 x (c1t hgx)
  have hab := a1 a (c1t hga)
  have o1 := a6E x.q ⟨by have := hxb.1.1; omega, fun r hr => (hxb.1.2 r hr).mono (by decide)⟩
  have o2 := a6E x.v ⟨by have := hxb.2.1; omega, fun r hr => (hxb.2.2 r hr).mono (by decide)⟩
  have o3 := b4q a x.q hab hxb.1
  have hone : a0W a x parts.length = if (x.q.all C8 && x.v.all C8) = false then 3 else if a1c a x.q ≠ 0 then a1c a x.q else if x.v.length ≠ a.links.length \/ x.holds < -1 \/ (parts.length : Int) <= x.holds then 1 else D8 U9 (a.links.zip x.v) := rfl
  have hkh := hk x.holds
  have hkn : ∀ k, (a1I h x.holds).contains k = (sarms.take (i + 1)).any fun y => decide (y.holds = k) := fun k => by rw [b5c, hk, b2P hgx]
  generalize h.contains x.holds = c1 at *
  generalize a1I h x.holds = h' at *
  generalize a0W a x parts.length = o at *
  generalize hq1 : x.q.all C8 = q1 at *
  generalize hq2 : x.v.all C8 = q2 at *
  generalize a1c a x.q = fe at *
  obtain ⟨hvn, hvb⟩ := hxb.2
  obtain ⟨_, _, hln, hlb⟩ := hab
  obtain ⟨an, ⟨bx, by', bh, bt⟩, links⟩ := a
  obtain ⟨xq, xv, xp, xh⟩ := x
  have hai : (i : Int) < arms.length := by omega
  simp only [Am.c, Am.enc, lks, rts, sb, ints] at o1 o2 o3 hone hkh hkn hvn hvb hln hlb hst hnx
  clear hq1 hq2 hk
  (repeat first | refine uA ?_ | (refine uK ?_ ?_; focus first | omega | (intros; simp_all <;> omega)) | simp (disch := omega) only [go_sem, Nat.reduceBEq, Nat.reduceAdd, ww, hga, hgx, c1r, c1q, Am.enc, Ast.enc, lks, rts, sb, ints, c1u] | (refine uD o1 ?_ ?_ ?_; exact tz hw; exact rfl) | (refine uD o2 ?_ ?_ ?_; exact tz hw; exact rfl))
  refine S.cond rfl (fun hc2 => ?_) (fun hc2 => ?_)
  ·rw [if_pos (by cases q1 <;> cases q2 <;> simp_all)] at hone
   subst hone
   rw [if_pos (by decide)] at hst
   rw [hst (show (3 : Int) ≠ 0 by decide)] at hg
   injection hg with g1 g2
   rw [if_pos (by rw [g1]; decide), g1]
   (repeat first | refine uA ?_ | (refine uK ?_ ?_; focus first | omega | (intros; simp_all <;> omega)) | simp (disch := omega) only [go_sem, Nat.reduceBEq, Nat.reduceAdd, ww])
   exact S.done (j3.out rfl (Imp.refl rfl) rfl)
  rw [if_neg (by cases q1 <;> cases q2 <;> simp_all)] at hone
  (repeat first | refine uA ?_ | (refine uK ?_ ?_; focus first | omega | (intros; simp_all <;> omega)) | simp (disch := omega) only [go_sem, Nat.reduceBEq, Nat.reduceAdd, ww, hga, c1r, c1q, Am.enc, lks, sb, c1u] | (refine uD o3 ?_ ?_ ?_; exact tz hw; exact rfl))
  refine S.cond rfl (fun hc3 => ?_) (fun hc3 => ?_)
  ·have h0 : fe ≠ 0 := by simpa using hc3
   rw [if_pos h0] at hone
   subst hone
   rw [if_pos h0] at hst
   rw [hst h0] at hg
   injection hg with g1 g2
   rw [if_pos (by rw [g1]; exact h0), g1]
   (repeat first | refine uA ?_ | (refine uK ?_ ?_; focus first | omega | (intros; simp_all <;> omega)) | simp (disch := omega) only [go_sem, Nat.reduceBEq, Nat.reduceAdd, ww])
   exact S.done (j3.out rfl (Imp.refl rfl) rfl)
  rw [if_neg (by simpa using hc3)] at hone
  (repeat first | refine uA ?_ | (refine uK ?_ ?_; focus first | omega | (intros; simp_all <;> omega)) | simp (disch := omega) only [go_sem, Nat.reduceBEq, Nat.reduceAdd, ww, c1q])
  refine S.cond rfl (fun hc4 => ?_) (fun hc4 => ?_)
  ·rw [if_pos (by simp only [c1Z, Bool.not_eq_true', c1w, c1x] at hc4; omega)] at hone
   subst hone
   rw [if_pos (by decide)] at hst
   rw [hst (show (1 : Int) ≠ 0 by decide)] at hg
   injection hg with g1 g2
   rw [if_pos (by rw [g1]; decide), g1]
   (repeat first | refine uA ?_ | (refine uK ?_ ?_; focus first | omega | (intros; simp_all <;> omega)) | simp (disch := omega) only [go_sem, Nat.reduceBEq, Nat.reduceAdd, ww])
   exact S.done (j3.out rfl (Imp.refl rfl) rfl)
  rw [if_neg (by simp only [c1H, Bool.not_eq_false', c1w, c1x] at hc4; omega)] at hone
  have hvl : xv.length = links.length := by simp only [c1H, Bool.not_eq_false', c1w, c1x] at hc4; omega
  clear hc3 hc4 hc2 o1 o2 o3
  (repeat first | refine uA ?_ | (refine uK ?_ ?_; focus first | omega | (intros; simp_all <;> omega)) | simp (disch := omega) only [go_sem, Nat.reduceBEq, Nat.reduceAdd, ww, c1q])
  refine S.loop (X := Nat) (fun j => ⟨[(2, .bp 0 0), (3, .bp 1 0), (63, F5 sarms), (64, ints sarms.length), (65, ints i), (6, ints i), (7, .bp 2 0), (8, lks links), (117, rts xv), (118, ints xv.length), (119, ints j)], [.box 31 [ams arms, wls walls, pts parts, sls slots, gts gates, .v (.bool walk.neg), sb walk.num, sb walk.den], .box 37 [ints tick, F5 sarms, frs sparts, vts people, bls sgates], .box 90 [rts xq, rts xv, .v (.bool xp), ints xh]]⟩)
   (fun j => j <= xv.length /\ o = D8 U9 ((links.zip xv).drop j)) (fun j => xv.length - j) 0 ⟨c1y _, hone⟩ (by (repeat first | refine uA ?_ | (refine ⟨?_, ?_⟩; focus first | rfl | simp [slot]) | rfl | simp)) ?_
  rintro j ⟨hj, hsp⟩
  simp only [ams, wls, pts, sls, gts, F5, frs, vts, bls, lks, rts, sb, ints] at hj hsp ⊢
  (repeat first | refine uA ?_ | (refine uK ?_ ?_; focus first | omega | (intros; simp_all <;> omega)) | simp (disch := omega) only [go_sem, Nat.reduceBEq, Nat.reduceAdd, ww])
  (refine uJ rfl (fun hc => ?_) fun hc => ?_)
  ·have hgv := c1p (show j < xv.length by omega)
   have hgl := c1p (show j < links.length by omega)
   generalize xv[j]'_ = v at hgv
   generalize links[j]'_ = l at hgl
   have hz2 := M4 hgl hgv
   have s1 := a0h (f := U9) hz2
   have s2 := a0c (f := U9) hz2
   have vb := hvb v (c1t hgv)
   have lb := (hlb l (c1t hgl)).2.2.2.1
   have p1 := K7 v l.speed (vb.mono (by decide)) (lb.mono (by decide))
   have p2 := b0d v (vb.mono (by decide))
   have p3 := K7 (Nm.ofQ (- Nm.d9 v)) l.speed ((b5x vb (by decide)).mono (by decide)) (lb.mono (by decide))
   rw [Nm.G9] at p3
   have hsv : U9 (l, v) = if (0 < Nm.q8 (Nm.d9 v) (Nm.d9 l.speed) \/ 0 < Nm.q8 (- Nm.d9 v) (Nm.d9 l.speed)) then 1 else 0 := by
    unfold U9
    simp only [b5t]
   rw [hsv] at s1 s2
   unfold rq at p2
   generalize Nm.q8 (Nm.d9 v) (Nm.d9 l.speed) = c2 at *
   generalize Nm.q8 (- Nm.d9 v) (Nm.d9 l.speed) = c3 at *
   generalize Nm.ofQ (- Nm.d9 v) = nv at *
   have hjl : (j : Int) < links.length := by omega
   simp only [rc, sb, ints] at p1 p2 p3
   (repeat first | refine uA ?_ | (refine uK ?_ ?_; focus first | omega | (intros; simp_all <;> omega)) | simp (disch := omega) only [go_sem, Nat.reduceBEq, Nat.reduceAdd, ww, hgv, hgl, c1r, c1q, rcs, Lk.enc, vts, sb, c1u] | (refine uD p1 ?_ ?_ ?_; exact tz hw; exact rfl) | (refine uD p2 ?_ ?_ ?_; exact tz hw; exact rfl) | (refine uD p3 ?_ ?_ ?_; exact tz hw; exact rfl))
   refine S.cond rfl (fun hc5 => ?_) (fun hc5 => ?_)
   ·rw [if_pos (by simp only [c1Z, c1w] at hc5; omega)] at s1
    rw [s1 (by decide)] at hsp
    subst hsp
    rw [if_pos (by decide)] at hst
    rw [hst (show (1 : Int) ≠ 0 by decide)] at hg
    injection hg with g1 g2
    rw [if_pos (by rw [g1]; decide), g1]
    (repeat first | refine uA ?_ | (refine uK ?_ ?_; focus first | omega | (intros; simp_all <;> omega)) | simp (disch := omega) only [go_sem, Nat.reduceBEq, Nat.reduceAdd, ww])
    exact S.done (j3.out rfl (Imp.refl rfl) rfl)
   ·rw [if_neg (by simp only [c1H, c1x] at hc5; omega)] at s2
    (repeat first | refine uA ?_ | (refine uK ?_ ?_; focus first | omega | (intros; simp_all <;> omega)) | simp (disch := omega) only [go_sem, Nat.reduceBEq, Nat.reduceAdd, ww])
    refine S.next (j + 1) ⟨by omega, by rw [hsp]; exact s2 rfl⟩ (by omega) (by (repeat first | refine uA ?_ | (refine ⟨?_, ?_⟩; focus first | rfl | simp [slot]) | rfl | simp))
  rw [a0w (by rw [List.length_zip]; omega)] at hsp
  subst hsp
  rw [if_neg (by decide)] at hst hnx
  clear hj hone
  have htl : (sarms.take i).length = i := by rw [c1D]; omega
  (repeat first | refine uA ?_ | (refine uK ?_ ?_; focus first | omega | (intros; simp_all <;> omega)) | simp (disch := omega) only [go_sem, Nat.reduceBEq, Nat.reduceAdd, ww, c1q, htl, c1u])
  refine S.loop (X := Nat) (fun j => ⟨[(2, .bp 0 0), (3, .bp 1 0), (63, F5 sarms), (64, ints sarms.length), (65, ints i), (6, ints i), (7, .bp 2 0), (147, F5 (sarms.take i)), (148, ints i), (149, ints j)], [.box 31 [ams arms, wls walls, pts parts, sls slots, gts gates, .v (.bool walk.neg), sb walk.num, sb walk.den], .box 37 [ints tick, F5 sarms, frs sparts, vts people, bls sgates], .box 90 [rts xq, rts xv, .v (.bool xp), ints xh]]⟩)
   (fun j => j <= i /\ (0 <= xh -> ((sarms.take i).take j).any (fun y => decide (y.holds = xh)) = false)) (fun j => i - j) 0 ⟨c1y _, fun _ => rfl⟩ (by (repeat first | refine uA ?_ | (refine ⟨?_, ?_⟩; focus first | rfl | simp [slot]) | rfl | simp)) ?_
  rintro j ⟨hj, hno⟩
  simp only [ams, wls, pts, sls, gts, F5, frs, vts, bls, rts, sb, ints] at hj hno ⊢
  (repeat first | refine uA ?_ | (refine uK ?_ ?_; focus first | omega | (intros; simp_all <;> omega)) | simp (disch := omega) only [go_sem, Nat.reduceBEq, Nat.reduceAdd, ww])
  (refine uJ rfl (fun hc => ?_) fun hc => ?_)
  ·have hgy := c1p (show j < (sarms.take i).length by omega)
   generalize (sarms.take i)[j]'_ = y at hgy
   have hae := b2P (f := fun y : Ast => decide (y.holds = xh)) hgy
   have hah := c1t hgy
   generalize sarms.take i = L at *
   obtain ⟨yq, yv, yp, yh⟩ := y
   simp only at hae
   (repeat first | refine uA ?_ | (refine uK ?_ ?_; focus first | omega | (intros; simp_all <;> omega)) | simp (disch := omega) only [go_sem, Nat.reduceBEq, Nat.reduceAdd, ww, hgy, c1r, c1q, Ast.enc, rts, sb, ints, c1u, htl])
   refine S.cond rfl (fun hc5 => ?_) (fun hc5 => ?_)
   ·have hx0 : 0 <= xh /\ xh = yh := by simpa using hc5
    have hc1 : c1 = true := by
     rw [hkh, List.any_eq_true]
     exact ⟨_, hah, by simp [hx0.2]⟩
    rw [if_pos (by rw [hc1]; simp [hx0.1])] at hst
    rw [hst (show (10 : Int) ≠ 0 by decide)] at hg
    injection hg with g1 g2
    rw [if_pos (by rw [g1]; decide), g1]
    (repeat first | refine uA ?_ | (refine uK ?_ ?_; focus first | omega | (intros; simp_all <;> omega)) | simp (disch := omega) only [go_sem, Nat.reduceBEq, Nat.reduceAdd, ww])
    exact S.done (j3.out rfl (Imp.refl rfl) rfl)
   ·(repeat first | refine uA ?_ | (refine uK ?_ ?_; focus first | omega | (intros; simp_all <;> omega)) | simp (disch := omega) only [go_sem, Nat.reduceBEq, Nat.reduceAdd, ww])
    refine S.next (j + 1) ⟨by omega, fun h0 => ?_⟩ (by omega) (by (repeat first | refine uA ?_ | (refine ⟨?_, ?_⟩; focus first | rfl | simp [slot]) | rfl | simp))
    rw [hae, hno h0, Bool.false_or]
    have : ¬ (0 <= xh /\ xh = yh) := by simpa using hc5
    exact decide_eq_false (fun e => this ⟨h0, e.symm⟩)
  have hj' : j = i := by omega
  subst hj'
  rw [if_neg (by
   intro hc6
   rw [c1B, c1w] at hc6
   have := hno hc6.1
   rw [c1O (by omega)] at this
   rw [hkh, this] at hc6
   exact absurd hc6.2 (by decide))] at hnx
  (repeat first | refine uA ?_ | (refine uK ?_ ?_; focus first | omega | (intros; simp_all <;> omega)) | simp (disch := omega) only [go_sem, Nat.reduceBEq, Nat.reduceAdd, ww])
  refine S.next (x := (j, h)) (j + 1, h') ⟨by simp only; omega, hkn, by simp only; rw [hg]; exact hnx rfl⟩ (by simp only; omega) (by (repeat first | refine uA ?_ | (refine ⟨?_, ?_⟩; focus first | rfl | simp [slot]) | rfl | simp))
 rw [W9 (by rw [List.length_zip]; omega)] at hg
 injection hg with g1 g2
 subst g1
 rw [if_neg (show ¬ (0 : Int) ≠ 0 by simp)]
 clear hr b1 a1 hk hi
 (repeat first | refine uA ?_ | (refine uK ?_ ?_; focus first | omega | (intros; simp_all <;> omega)) | simp (disch := omega) only [go_sem, Nat.reduceBEq, Nat.reduceAdd, ww, c1q])
 refine S.loop (X := Nat) (fun i => ⟨[(2, .bp 0 0), (3, .bp 1 0), (166, frs sparts), (167, ints sparts.length), (168, ints i)], [.box 31 [ams arms, wls walls, pts parts, sls slots, gts gates, .v (.bool walk.neg), sb walk.num, sb walk.den], .box 37 [ints tick, F5 sarms, frs sparts, vts people, bls sgates]]⟩)
  (fun i => i <= sparts.length /\ pA = (sparts.drop i).all Y6) (fun i => sparts.length - i) 0 ⟨c1y _, hg1.symm⟩ (by (repeat first | refine uA ?_ | (refine ⟨?_, ?_⟩; focus first | rfl | simp [slot]) | rfl | simp)) ?_
 rintro i' ⟨hi, hg⟩
 simp only [ams, wls, pts, sls, gts, F5, frs, vts, bls, sb, ints] at hi ⊢
 (repeat first | refine uA ?_ | (refine uK ?_ ?_; focus first | omega | (intros; simp_all <;> omega)) | simp (disch := omega) only [go_sem, Nat.reduceBEq, Nat.reduceAdd, ww])
 (refine uJ rfl (fun hc => ?_) fun hc => ?_)
 ·have hgi := c1p (show i' < sparts.length by omega)
  generalize sparts[i']'(_) = f at hgi
  obtain ⟨f1, f2, f3⟩ := b2 f (c1t hgi)
  have hs := a3z (f := Y6) hgi
  rw [b6I] at hs
  have o1 := a6E _ (Rbs.three (by decide) (f1.mono (m := 17179869184) (by decide)) (f2.mono (m := 17179869184) (by decide)) (f3.mono (m := 17179869184) (by decide)))
  have o2 := O3 f.t (f3.mono (by decide))
  generalize [f.x, f.y, f.t].all C8 = q1 at *
  generalize y8 (Nm.d9 f.t) = s1 at *
  obtain ⟨fx, fy, fh, ft⟩ := f
  simp only [rts, rcs, rc, sb, ints, c1J, c1N] at o1 o2 hs
  (repeat first | refine uA ?_ | (refine uK ?_ ?_; focus first | omega | (intros; simp_all <;> omega)) | simp (disch := omega) only [go_sem, Nat.reduceBEq, Nat.reduceAdd, ww, hgi, c1r, c1q, Fr.enc, sb, c1u] | (refine uD o2 ?_ ?_ ?_; exact tz hw; exact rfl) | (refine uE o1 ?_ ?_ ?_ ?_; exact tz hw; exact rfl; focus (repeat' first | exact j5.nil | exact Imp.refl rfl | exact Imp.frz rfl rfl rfl | (refine Imp.J9 rfl rfl ?_ ?_; (focus ((try simp only [c1s, hgi, c1r, c1q, Fr.enc, sb, c1u]); omega)); (focus first | rfl | assumption)) | refine j5.cons ?_ ?_); done))
  refine S.cond rfl (fun hc2 => ?_) (fun hc2 => ?_)
  ·rw [hc2] at hs
   rw [hg, hs, Bool.not_true, Bool.false_and, Bool.false_and, if_neg (by decide)]
   (repeat first | refine uA ?_ | (refine uK ?_ ?_; focus first | omega | (intros; simp_all <;> omega)) | simp (disch := omega) only [go_sem, Nat.reduceBEq, Nat.reduceAdd, ww])
   exact S.done (j3.out rfl (Imp.refl rfl) rfl)
  ·rw [hc2] at hs
   (repeat first | refine uA ?_ | (refine uK ?_ ?_; focus first | omega | (intros; simp_all <;> omega)) | simp (disch := omega) only [go_sem, Nat.reduceBEq, Nat.reduceAdd, ww])
   refine S.next (i' + 1) ⟨by omega, by rw [hg, hs]; rfl⟩ (by omega) (by (repeat first | refine uA ?_ | (refine ⟨?_, ?_⟩; focus first | rfl | simp [slot]) | rfl | simp))
 rw [a4F (by omega)] at hg
 subst hg
 rw [Bool.true_and]
 clear hg1 b2 hi
 (repeat first | refine uA ?_ | (refine uK ?_ ?_; focus first | omega | (intros; simp_all <;> omega)) | simp (disch := omega) only [go_sem, Nat.reduceBEq, Nat.reduceAdd, ww, c1q])
 refine S.loop (X := Nat) (fun i => ⟨[(198, vts people), (199, ints people.length), (200, ints i)], [.box 31 [ams arms, wls walls, pts parts, sls slots, gts gates, .v (.bool walk.neg), sb walk.num, sb walk.den], .box 37 [ints tick, F5 sarms, frs sparts, vts people, bls sgates]]⟩)
  (fun i => i <= people.length /\ pB = (people.drop i).all a1B) (fun i => people.length - i) 0 ⟨c1y _, hg2.symm⟩ (by (repeat first | refine uA ?_ | (refine ⟨?_, ?_⟩; focus first | rfl | simp [slot]) | rfl | simp)) ?_
 rintro i2 ⟨hi, hg⟩
 simp only [ams, wls, pts, sls, gts, F5, frs, vts, bls, sb, ints] at hi ⊢
 (repeat first | refine uA ?_ | (refine uK ?_ ?_; focus first | omega | (intros; simp_all <;> omega)) | simp (disch := omega) only [go_sem, Nat.reduceBEq, Nat.reduceAdd, ww])
 (refine uJ rfl (fun hc => ?_) fun hc => ?_)
 ·have hgi := c1p (show i2 < people.length by omega)
  generalize people[i2]'(_) = f at hgi
  obtain ⟨f1, f2⟩ := b3 f (c1t hgi)
  have hs := a3z (f := a1B) hgi
  rw [show a1B f = [f.x, f.y].all C8 by rw [a4C]; rfl] at hs
  have o1 := a6E _ (Rbs.two (by decide) (f1.mono (m := 17179869184) (by decide)) (f2.mono (m := 17179869184) (by decide)))
  generalize [f.x, f.y].all C8 = q1 at *
  obtain ⟨fx, fy⟩ := f
  simp only [rts, rcs, rc, sb, ints, c1J, c1N] at o1 hs
  (repeat first | refine uA ?_ | (refine uK ?_ ?_; focus first | omega | (intros; simp_all <;> omega)) | simp (disch := omega) only [go_sem, Nat.reduceBEq, Nat.reduceAdd, ww, hgi, c1r, c1q, Vt.enc, sb, c1u] | (refine uE o1 ?_ ?_ ?_ ?_; exact tz hw; exact rfl; focus (repeat' first | exact j5.nil | exact Imp.refl rfl | exact Imp.frz rfl rfl rfl | (refine Imp.J9 rfl rfl ?_ ?_; (focus ((try simp only [c1s, hgi, c1r, c1q, Vt.enc, sb, c1u]); omega)); (focus first | rfl | assumption)) | refine j5.cons ?_ ?_); done))
  refine S.cond rfl (fun hc2 => ?_) (fun hc2 => ?_)
  ·have h0 : q1 = false := by simpa using hc2
   rw [hg, hs, h0, Bool.false_and, if_neg (by decide)]
   (repeat first | refine uA ?_ | (refine uK ?_ ?_; focus first | omega | (intros; simp_all <;> omega)) | simp (disch := omega) only [go_sem, Nat.reduceBEq, Nat.reduceAdd, ww])
   exact S.done (j3.out rfl (Imp.refl rfl) rfl)
  ·have h0 : q1 = true := by simpa using hc2
   (repeat first | refine uA ?_ | (refine uK ?_ ?_; focus first | omega | (intros; simp_all <;> omega)) | simp (disch := omega) only [go_sem, Nat.reduceBEq, Nat.reduceAdd, ww])
   refine S.next (i2 + 1) ⟨by omega, by rw [hg, hs, h0, Bool.true_and]⟩ (by omega) (by (repeat first | refine uA ?_ | (refine ⟨?_, ?_⟩; focus first | rfl | simp [slot]) | rfl | simp))
 rw [a4F (by omega)] at hg
 subst hg
 rw [if_pos rfl]
 (repeat first | refine uA ?_ | (refine uK ?_ ?_; focus first | omega | (intros; simp_all <;> omega)) | simp (disch := omega) only [go_sem, Nat.reduceBEq, Nat.reduceAdd, ww])
 exact S.done (j3.out rfl (Imp.refl rfl) rfl)
def c0D : List Nat := [60, 63]
def c1m (f : Nat) : Bool := c0D.contains f
set_option maxHeartbeats 32000000
theorem b7x (a b c : Nm.Rt) (ha : Rb 17179869184 a) (hb : Rb 17179869184 b) (hc : Rb 17179869184 c) : FZ 61 [rc a, rc b, rc c] (.v (.bool (decide (Nm.q8 (Nm.d9 b) (Nm.d9 a) <= 0) && decide (Nm.q8 (Nm.d9 a) (Nm.d9 c) <= 0)))) := by
 refine kW Tryz.func61 (by cbv) (by rfl) fun w O hw => ?_
 have h1 := K7 b a hb ha
 have h2 := K7 a c ha hc
 generalize Nm.q8 (Nm.d9 b) (Nm.d9 a) = n1 at *
 generalize Nm.q8 (Nm.d9 a) (Nm.d9 c) = n2 at *
 simp only [j6]
 simp only [rc, sb, ints] at *
 by_cases h : n1 <= 0
 ·(repeat first | refine uA ?_ | (refine uK ?_ ?_; focus first | omega | (intros; simp_all <;> omega)) | simp (disch := omega) only [go_sem, Nat.reduceBEq, Nat.reduceAdd, ww] | (refine uD h1 ?_ ?_ ?_; exact tz hw; exact rfl) | (refine uD h2 ?_ ?_ ?_; exact tz hw; exact rfl))
  exact S.done (j3.out rfl (Imp.refl rfl) rfl)
 ·(repeat first | refine uA ?_ | (refine uK ?_ ?_; focus first | omega | (intros; simp_all <;> omega)) | simp (disch := omega) only [go_sem, Nat.reduceBEq, Nat.reduceAdd, ww] | (refine uD h1 ?_ ?_ ?_; exact tz hw; exact rfl) | (refine uD h2 ?_ ?_ ?_; exact tz hw; exact rfl))
  exact S.done (j3.out rfl (Imp.refl rfl) rfl)
theorem b2f (w : Wk) (s : Stt) (g : Int) (is : Bool) (v : Vt) (hwb : Wb 1048576 w) (hs : Stb 1048576 s) (hv : Vb 1048576 v) :
  FZ 8 [w.c, s.c, ints g, .v (.bool is), v.c] (.v (.bool true)) := by
 refine V4.of (eff := c1m) Tryz.func8 (by cbv) (by exact c1I rfl) fun w' O hw => ?_
 have c1 : callable Tryz.prog 61 = true := by kernel_rfl
 have h1 := b1F
 have h2 := b8o w s g is (hwb.mono (by decide)) (hs.mono (by decide))
 have h3 := b6K w s g v (hwb.mono (by decide)) (hs.mono (by decide)) ⟨hv.1.mono (by decide), hv.2.mono (by decide)⟩
 have h4 := b6Z w s (hwb.mono (by decide)) (hs.mono (by decide))
 have h5 := b4j
 have n1 := hwb.gates.1
 by_cases hg : Z0 w s g = 0
 ·obtain ⟨h0, n, rfl, hn⟩ := a8F hg
  have hok := a7s h0
  have e1 := hok.gates
  have e2 := hok.people
  have hst := b4P hs h0
  rw [if_pos hg, c1u] at h2
  rw [h0] at h4
  have h6 := b2E (s := a7B s n is) ⟨hst.arms, hst.parts, hst.people, by simp only [a7B, c2c]; exact hst.gates⟩
  have h7 : s.people.length ≠ 4 -> u7 Tryz.prog 41 [(a3x s v).c, (a3x s v).c] (.v (.bool true)) := fun h => b2E (s := a3x s v) ⟨hst.arms, hst.parts, ⟨by simp only [a3x, c1s, c1M, List.length_nil]; omega, fun y hy => by
   simp only [a3x, List.mem_append, List.mem_singleton] at hy
   rcases hy with hy | rfl
   ·exact hst.people.2 y hy
   ·exact hv⟩, hst.gates⟩
  have cb := a6c (s.gates.map fun b => [.v (.bool b)]) (by rw [c1q]; exact c1v hs.gates (by decide))
  have cv := a7r (s.people.map Vt.enc) (by rw [c1q]; exact c1v hs.people.1 (by decide))
  have hz := c1p hn
  have ho := c1p (show n < s.gates.length by omega)
  have hbz := hwb.gates.2 _ (c1t hz)
  generalize w.gates[n] = z at hz hbz
  generalize s.gates[n]'_ = o at ho
  obtain ⟨_, ⟨zb1, zb2⟩, ⟨zb3, zb4⟩⟩ := hbz
  have hE : a0C w s n v = if (C8 v.x && C8 v.y) = false then 1 else if o = false then 7 else if a2c v z then 17 else if s.people.length = 4 then 6 else 0 := by
   unfold a0C
   rw [if_neg (by simpa using hg), c1u, hz, ho]
  generalize a0C w s n v = E at *
  have o1 := P5 v.x (hv.1.mono (by decide))
  have o2 := P5 v.y (hv.2.mono (by decide))
  have o3 := b7x v.x z.low.x z.high.x (hv.1.mono (by decide)) (zb1.mono (by decide)) (zb3.mono (by decide))
  have o4 := b7x v.y z.low.y z.high.y (hv.2.mono (by decide)) (zb2.mono (by decide)) (zb4.mono (by decide))
  have hout : a2c v z <-> ((decide (Nm.q8 (Nm.d9 z.low.x) (Nm.d9 v.x) <= 0) && decide (Nm.q8 (Nm.d9 v.x) (Nm.d9 z.high.x) <= 0)) && (decide (Nm.q8 (Nm.d9 z.low.y) (Nm.d9 v.y) <= 0) && decide (Nm.q8 (Nm.d9 v.y) (Nm.d9 z.high.y) <= 0))) = false := by
   unfold a2c
   rw [a7t (Nm.d9 v.x), a7t (Nm.d9 v.y)]
   simp only [Bool.and_eq_false_iff, c1x]
   omega
  have hg1 : ∀ a, C8 a = decide a.A8 := fun _ => rfl
  rw [hg1, hg1] at hE
  have hset : (s.gates.map fun b => [C.v (Value.bool b)]).set n [C.v (Value.bool is)] = (s.gates.set n is).map fun b => [C.v (Value.bool b)] := by rw [List.map_set]
  generalize decide v.x.A8 = g1 at *
  generalize decide v.y.A8 = g2 at *
  generalize (decide (Nm.q8 (Nm.d9 z.low.x) (Nm.d9 v.x) <= 0) && decide (Nm.q8 (Nm.d9 v.x) (Nm.d9 z.high.x) <= 0)) = b3 at *
  generalize (decide (Nm.q8 (Nm.d9 z.low.y) (Nm.d9 v.y) <= 0) && decide (Nm.q8 (Nm.d9 v.y) (Nm.d9 z.high.y) <= 0)) = b4 at *
  have m1 := hs.people.1
  obtain ⟨arms, walls, parts, slots, gates, walk⟩ := w
  obtain ⟨tick, sarms, sparts, people, sgates⟩ := s
  simp only at hn n1 e1 e2 hz ho hE h7 cb cv hset m1
  have hgi : (n : Int) < sgates.length := by omega
  have hgj : (n : Int) < gates.length := by omega
  have hn0 : decide ((n : Int) < 0) = false := decide_eq_false (by omega)
  have hn1 : decide ((gates.length : Int) <= (n : Int)) = false := decide_eq_false (by omega)
  by_cases hE0 : E = 0
  ·rw [if_pos hE0] at h3
   rw [hE0] at hE
   have g0 : (g1 && g2) = true := by
    cases h : (g1 && g2)
    ·rw [h, if_pos rfl] at hE; cases hE
    ·rfl
   rw [if_neg (by rw [g0]; decide)] at hE
   have o0 : o = true := by
    cases o
    ·rw [if_pos rfl] at hE; cases hE
    ·rfl
   rw [if_neg (by rw [o0]; decide)] at hE
   have u0 : ¬ a2c v z := fun h => by rw [if_pos h] at hE; cases hE
   rw [if_neg u0] at hE
   have p0 : people.length ≠ 4 := fun h => by rw [if_pos h] at hE; cases hE
   have h7 := h7 p0
   rw [hout] at u0
   have u0 : (b3 && b4) = true := by cases h : (b3 && b4); exact absurd h u0; rfl
   rw [c1B] at g0 u0
   obtain ⟨rfl, rfl⟩ := g0
   obtain ⟨rfl, rfl⟩ := u0
   subst o0 hE0
   simp only [j6]
   simp only [Wk.c, Wk.enc, Stt.c, Stt.enc, Vt.c, Vt.enc, a7B, a3x, a2E, a0L, ams, wls, pts, sls, gts, F5, frs, vts, bls, rc, sb, ints, c1N] at h2 h3 h4 h5 h6 h7 o1 o2 o3 o4 ⊢
   (repeat first | refine uA ?_ | (refine uK ?_ ?_; focus first | omega | (intros; simp_all <;> omega)) | simp (disch := omega) only [go_sem, Nat.reduceBEq, Nat.reduceAdd, ww] | (refine uD h1 ?_ ?_ ?_; exact tz hw; exact rfl))
   refine S.cond rfl (fun hc => by simp at hc) (fun hc => ?_)
   (repeat first | refine uA ?_ | (refine uK ?_ ?_; focus first | omega | (intros; simp_all <;> omega)) | simp (disch := omega) only [go_sem, Nat.reduceBEq, Nat.reduceAdd, ww, c1q, hn0, hn1, decide_true] | (refine uD h2 ?_ ?_ ?_; exact tz hw; exact rfl) | (refine uD h3 ?_ ?_ ?_; exact tz hw; exact rfl) | (refine uD h4 ?_ ?_ ?_; exact tz hw; exact rfl))
   refine S.cond rfl (fun hc => by simp at hc <;> omega) (fun hc => ?_)
   (repeat first | refine uA ?_ | (refine uK ?_ ?_; focus first | omega | (intros; simp_all <;> omega)) | simp (disch := omega) only [go_sem, Nat.reduceBEq, Nat.reduceAdd, ww])
   refine S.cond rfl (fun hc => by simp at hc) (fun hc => ?_)
   (repeat first | refine uA ?_ | (refine uK ?_ ?_; focus first | omega | (intros; simp_all <;> omega)) | simp (disch := omega) only [go_sem, Nat.reduceBEq, Nat.reduceAdd, ww, decide_true, hset, ho, c1q, c1r, c1u] | refine l9.t (FNew.t cb rfl) ?_ | (refine uC h6 ?_ ?_ ?_; exact rfl; focus (repeat' first | exact j5.nil | exact Imp.refl rfl | exact Imp.F7 | exact Imp.fbx rfl rfl (j5.refl rfl) rfl rfl | refine Imp.clo ?_ | exact Imp.frz rfl rfl rfl | (refine Imp.J9 rfl rfl ?_ ?_; (focus ((try simp only [c1s, decide_true, hset, ho, c1q, c1r, c1u]); omega)); (focus first | rfl | assumption)) | refine Imp.agg ?_ | refine j5.cons ?_ ?_); done))
   refine S.cond rfl (fun hc => by simp at hc) (fun hc => ?_)
   (repeat first | refine uA ?_ | (refine uK ?_ ?_; focus first | omega | (intros; simp_all <;> omega)) | simp (disch := omega) only [go_sem, Nat.reduceBEq, Nat.reduceAdd, ww, hz, c1q, c1r, Gt.enc, sb, c1u] | (refine uD o1 ?_ ?_ ?_; exact tz hw; exact rfl) | (refine uD o2 ?_ ?_ ?_; exact tz hw; exact rfl))
   refine S.cond rfl (fun hc => by simp at hc) (fun hc => ?_)
   (repeat first | refine uA ?_ | (refine uK ?_ ?_; focus first | omega | (intros; simp_all <;> omega)) | simp (disch := omega) only [go_sem, Nat.reduceBEq, Nat.reduceAdd, ww, ho, c1q, c1r, c1u])
   refine S.cond rfl (fun hc => by simp at hc) (fun hc => ?_)
   (repeat first | refine uA ?_ | (refine uK ?_ ?_; focus first | omega | (intros; simp_all <;> omega)) | simp (disch := omega) only [go_sem, Nat.reduceBEq, Nat.reduceAdd, ww, c1] | (refine uD o3 ?_ ?_ ?_; exact tz hw; exact rfl) | (refine uD o4 ?_ ?_ ?_; exact tz hw; exact rfl))
   refine S.cond rfl (fun hc => by simp at hc) (fun hc => ?_)
   (repeat first | refine uA ?_ | (refine uK ?_ ?_; focus first | omega | (intros; simp_all <;> omega)) | simp (disch := omega) only [go_sem, Nat.reduceBEq, Nat.reduceAdd, ww, c1q])
   refine S.cond rfl (fun hc => by simp at hc <;> omega) (fun hc => ?_)
   (repeat first | refine uA ?_ | (refine uK ?_ ?_; focus first | omega | (intros; simp_all <;> omega)) | simp (disch := omega) only [go_sem, Nat.reduceBEq, Nat.reduceAdd, ww])
   refine S.cond rfl (fun hc => by simp at hc) (fun hc => ?_)
   (repeat first | refine uI ?_ | (refine uK ?_ ?_; focus first | omega | (intros; simp_all <;> omega)) | simp (disch := omega) only [go_sem, Nat.reduceBEq, Nat.reduceAdd, ww])
   refine S.K3 [.gone, .box 37 [.v (.int .i64 tick), .sl 4 (sarms.map Ast.enc), .sl 10 (sparts.map Fr.enc), .sl 6 (people.map Vt.enc), .sl 1 (sgates.map fun b => [.v (.bool b)])], .box 51 [.v (.bool v.x.neg), .v (.string (bs v.x.num)), .v (.string (bs v.x.den)), .v (.bool v.y.neg), .v (.string (bs v.y.num)), .v (.string (bs v.y.den))]] (by simp [Eng.E5, Eng.P9]) ?_
   have hpv : people.map Vt.enc ++ [[.v (.bool v.x.neg), .v (.string (bs v.x.num)), .v (.string (bs v.x.den)), .v (.bool v.y.neg), .v (.string (bs v.y.num)), .v (.string (bs v.y.den))]] = (people ++ [v]).map Vt.enc := by simp only [c2h, c1J, c1N, Vt.enc, sb]
   (repeat first | refine uA ?_ | (refine uK ?_ ?_; focus first | omega | (intros; simp_all <;> omega)) | simp (disch := omega) only [go_sem, Nat.reduceBEq, Nat.reduceAdd, ww, E5, KMd, c1q, hpv, decide_true, Eng.P9, true_and, or_true, c1A] | refine l9.t (FNew.t cv rfl) ?_ | (refine uC h7 ?_ ?_ ?_; exact rfl; focus (repeat' first | exact j5.nil | exact Imp.refl rfl | exact Imp.F7 | exact Imp.fbx rfl rfl (j5.refl rfl) rfl rfl | refine Imp.clo ?_ | exact Imp.frz rfl rfl rfl | (refine Imp.J9 rfl rfl ?_ ?_; (focus ((try simp only [c1s, E5, KMd, c1q, hpv, decide_true, Eng.P9, true_and, or_true, c1A]); omega)); (focus first | rfl | assumption)) | refine Imp.agg ?_ | refine j5.cons ?_ ?_); done))
   exact S.done (j3.out rfl (Imp.refl rfl) rfl)
  ·rw [if_neg hE0] at h3
   simp only [j6]
   simp only [Wk.c, Wk.enc, Stt.c, Stt.enc, Vt.c, Vt.enc, a7B, a2E, a0L, ams, wls, pts, sls, gts, F5, frs, vts, bls, rc, sb, ints, c1N] at h2 h3 h4 h5 h6 o1 o2 o3 o4 ⊢
   (repeat first | refine uA ?_ | (refine uK ?_ ?_; focus first | omega | (intros; simp_all <;> omega)) | simp (disch := omega) only [go_sem, Nat.reduceBEq, Nat.reduceAdd, ww] | (refine uD h1 ?_ ?_ ?_; exact tz hw; exact rfl))
   refine S.cond rfl (fun hc => by simp at hc) (fun hc => ?_)
   (repeat first | refine uA ?_ | (refine uK ?_ ?_; focus first | omega | (intros; simp_all <;> omega)) | simp (disch := omega) only [go_sem, Nat.reduceBEq, Nat.reduceAdd, ww, c1q, hn0, hn1, decide_true] | (refine uD h2 ?_ ?_ ?_; exact tz hw; exact rfl) | (refine uD h3 ?_ ?_ ?_; exact tz hw; exact rfl) | (refine uD h4 ?_ ?_ ?_; exact tz hw; exact rfl))
   refine S.cond rfl (fun hc => by simp at hc <;> omega) (fun hc => ?_)
   (repeat first | refine uA ?_ | (refine uK ?_ ?_; focus first | omega | (intros; simp_all <;> omega)) | simp (disch := omega) only [go_sem, Nat.reduceBEq, Nat.reduceAdd, ww])
   refine S.cond rfl (fun hc => by simp at hc) (fun hc => ?_)
   (repeat first | refine uA ?_ | (refine uK ?_ ?_; focus first | omega | (intros; simp_all <;> omega)) | simp (disch := omega) only [go_sem, Nat.reduceBEq, Nat.reduceAdd, ww, decide_true, hset, ho, c1q, c1r, c1u] | refine l9.t (FNew.t cb rfl) ?_ | (refine uC h6 ?_ ?_ ?_; exact rfl; focus (repeat' first | exact j5.nil | exact Imp.refl rfl | exact Imp.F7 | exact Imp.fbx rfl rfl (j5.refl rfl) rfl rfl | refine Imp.clo ?_ | exact Imp.frz rfl rfl rfl | (refine Imp.J9 rfl rfl ?_ ?_; (focus ((try simp only [c1s, decide_true, hset, ho, c1q, c1r, c1u]); omega)); (focus first | rfl | assumption)) | refine Imp.agg ?_ | refine j5.cons ?_ ?_); done))
   refine S.cond rfl (fun hc => by simp at hc) (fun hc => ?_)
   clear hset
   (repeat first | refine uA ?_ | (refine uK ?_ ?_; focus first | omega | (intros; simp_all <;> omega)) | simp (disch := omega) only [go_sem, Nat.reduceBEq, Nat.reduceAdd, ww, hz, c1q, c1r, Gt.enc, sb, c1u] | (refine uD o1 ?_ ?_ ?_; exact tz hw; exact rfl) | (refine uD o2 ?_ ?_ ?_; exact tz hw; exact rfl))
   by_cases g0 : (g1 && g2) = false
   ·rw [if_pos g0] at hE
    subst hE
    refine S.cond rfl (fun hc => ?_) (fun hc => absurd hc (by revert g0; cases g1 <;> cases g2 <;> decide))
    (repeat first | refine uA ?_ | (refine uK ?_ ?_; focus first | omega | (intros; simp_all <;> omega)) | simp (disch := omega) only [go_sem, Nat.reduceBEq, Nat.reduceAdd, ww])
    refine S.cond rfl (fun hc => ?_) (fun hc => by simp at hc)
    (repeat first | refine uA ?_ | (refine uK ?_ ?_; focus first | omega | (intros; simp_all <;> omega)) | simp (disch := omega) only [go_sem, Nat.reduceBEq, Nat.reduceAdd, ww, decide_true] | (refine uC h5 ?_ ?_ ?_; exact rfl; focus (repeat' first | exact j5.nil | exact Imp.refl rfl | exact Imp.F7 | exact Imp.fbx rfl rfl (j5.refl rfl) rfl rfl | refine Imp.clo ?_ | exact Imp.frz rfl rfl rfl | (refine Imp.J9 rfl rfl ?_ ?_; (focus ((try simp only [c1s, decide_true]); omega)); (focus first | rfl | assumption)) | refine Imp.agg ?_ | refine j5.cons ?_ ?_); done))
    exact S.done (j3.out rfl (Imp.refl rfl) rfl)
   rw [if_neg g0] at hE
   refine S.cond rfl (fun hc => absurd hc (by revert g0; cases g1 <;> cases g2 <;> decide)) (fun hc => ?_)
   (repeat first | refine uA ?_ | (refine uK ?_ ?_; focus first | omega | (intros; simp_all <;> omega)) | simp (disch := omega) only [go_sem, Nat.reduceBEq, Nat.reduceAdd, ww, ho, c1q, c1r, c1u])
   by_cases o0 : o = false
   ·rw [if_pos o0] at hE
    subst hE o0
    refine S.cond rfl (fun hc => ?_) (fun hc => by simp at hc)
    (repeat first | refine uA ?_ | (refine uK ?_ ?_; focus first | omega | (intros; simp_all <;> omega)) | simp (disch := omega) only [go_sem, Nat.reduceBEq, Nat.reduceAdd, ww])
    refine S.cond rfl (fun hc => ?_) (fun hc => by simp at hc)
    (repeat first | refine uA ?_ | (refine uK ?_ ?_; focus first | omega | (intros; simp_all <;> omega)) | simp (disch := omega) only [go_sem, Nat.reduceBEq, Nat.reduceAdd, ww, decide_true] | (refine uC h5 ?_ ?_ ?_; exact rfl; focus (repeat' first | exact j5.nil | exact Imp.refl rfl | exact Imp.F7 | exact Imp.fbx rfl rfl (j5.refl rfl) rfl rfl | refine Imp.clo ?_ | exact Imp.frz rfl rfl rfl | (refine Imp.J9 rfl rfl ?_ ?_; (focus ((try simp only [c1s, decide_true]); omega)); (focus first | rfl | assumption)) | refine Imp.agg ?_ | refine j5.cons ?_ ?_); done))
    exact S.done (j3.out rfl (Imp.refl rfl) rfl)
   rw [if_neg o0] at hE
   refine S.cond rfl (fun hc => by simp at hc; exact absurd hc o0) (fun hc => ?_)
   (repeat first | refine uA ?_ | (refine uK ?_ ?_; focus first | omega | (intros; simp_all <;> omega)) | simp (disch := omega) only [go_sem, Nat.reduceBEq, Nat.reduceAdd, ww, c1] | (refine uD o3 ?_ ?_ ?_; exact tz hw; exact rfl) | (refine uD o4 ?_ ?_ ?_; exact tz hw; exact rfl))
   by_cases u0 : a2c v z
   ·rw [if_pos u0] at hE
    rw [hout] at u0
    subst hE
    refine S.cond rfl (fun hc => ?_) (fun hc => absurd hc (by revert u0; cases b3 <;> cases b4 <;> decide))
    (repeat first | refine uA ?_ | (refine uK ?_ ?_; focus first | omega | (intros; simp_all <;> omega)) | simp (disch := omega) only [go_sem, Nat.reduceBEq, Nat.reduceAdd, ww])
    refine S.cond rfl (fun hc => ?_) (fun hc => by simp at hc)
    (repeat first | refine uA ?_ | (refine uK ?_ ?_; focus first | omega | (intros; simp_all <;> omega)) | simp (disch := omega) only [go_sem, Nat.reduceBEq, Nat.reduceAdd, ww, decide_true] | (refine uC h5 ?_ ?_ ?_; exact rfl; focus (repeat' first | exact j5.nil | exact Imp.refl rfl | exact Imp.F7 | exact Imp.fbx rfl rfl (j5.refl rfl) rfl rfl | refine Imp.clo ?_ | exact Imp.frz rfl rfl rfl | (refine Imp.J9 rfl rfl ?_ ?_; (focus ((try simp only [c1s, decide_true]); omega)); (focus first | rfl | assumption)) | refine Imp.agg ?_ | refine j5.cons ?_ ?_); done))
    exact S.done (j3.out rfl (Imp.refl rfl) rfl)
   rw [if_neg u0] at hE
   rw [hout] at u0
   refine S.cond rfl (fun hc => absurd hc (by revert u0; cases b3 <;> cases b4 <;> decide)) (fun hc => ?_)
   (repeat first | refine uA ?_ | (refine uK ?_ ?_; focus first | omega | (intros; simp_all <;> omega)) | simp (disch := omega) only [go_sem, Nat.reduceBEq, Nat.reduceAdd, ww, c1q])
   have p0 : people.length = 4 := Classical.byContradiction fun h => by rw [if_neg h] at hE; exact hE0 hE
   rw [if_pos p0] at hE
   subst hE
   refine S.cond rfl (fun hc => ?_) (fun hc => by simp at hc <;> omega)
   (repeat first | refine uA ?_ | (refine uK ?_ ?_; focus first | omega | (intros; simp_all <;> omega)) | simp (disch := omega) only [go_sem, Nat.reduceBEq, Nat.reduceAdd, ww])
   refine S.cond rfl (fun hc => ?_) (fun hc => by simp at hc)
   (repeat first | refine uA ?_ | (refine uK ?_ ?_; focus first | omega | (intros; simp_all <;> omega)) | simp (disch := omega) only [go_sem, Nat.reduceBEq, Nat.reduceAdd, ww, decide_true] | (refine uC h5 ?_ ?_ ?_; exact rfl; focus (repeat' first | exact j5.nil | exact Imp.refl rfl | exact Imp.F7 | exact Imp.fbx rfl rfl (j5.refl rfl) rfl rfl | refine Imp.clo ?_ | exact Imp.frz rfl rfl rfl | (refine Imp.J9 rfl rfl ?_ ?_; (focus ((try simp only [c1s, decide_true]); omega)); (focus first | rfl | assumption)) | refine Imp.agg ?_ | refine j5.cons ?_ ?_); done))
   exact S.done (j3.out rfl (Imp.refl rfl) rfl)
 ·have hE : a0C w s g v = Z0 w s g := by unfold a0C; rw [if_pos hg]
  rw [hE] at h3
  rw [if_neg hg] at h2 h3
  have hgv : Z0 w s g = if H8 w s ≠ 0 then H8 w s else if g < 0 \/ (w.gates.length : Int) <= g then 1 else 0 := rfl
  generalize Z0 w s g = E at *
  generalize H8 w s = e at *
  obtain ⟨arms, walls, parts, slots, gates, walk⟩ := w
  obtain ⟨tick, sarms, sparts, people, sgates⟩ := s
  simp only at n1 hgv
  simp only [j6]
  simp only [Wk.c, Wk.enc, Stt.c, Stt.enc, Vt.c, Vt.enc, a2E, a0L, ams, wls, pts, sls, gts, F5, frs, vts, bls, sb, ints, c1N] at h2 h3 h4 h5 ⊢
  (repeat first | refine uA ?_ | (refine uK ?_ ?_; focus first | omega | (intros; simp_all <;> omega)) | simp (disch := omega) only [go_sem, Nat.reduceBEq, Nat.reduceAdd, ww] | (refine uD h1 ?_ ?_ ?_; exact tz hw; exact rfl))
  refine S.cond rfl (fun hc => by simp at hc) (fun hc => ?_)
  (repeat first | refine uA ?_ | (refine uK ?_ ?_; focus first | omega | (intros; simp_all <;> omega)) | simp (disch := omega) only [go_sem, Nat.reduceBEq, Nat.reduceAdd, ww, c1q] | (refine uD h2 ?_ ?_ ?_; exact tz hw; exact rfl) | (refine uD h3 ?_ ?_ ?_; exact tz hw; exact rfl) | (refine uD h4 ?_ ?_ ?_; exact tz hw; exact rfl))
  by_cases h0 : e = 0
  ·subst h0
   rw [if_neg (by decide)] at hgv
   have hgg : g < 0 \/ (gates.length : Int) <= g := Classical.byContradiction fun h => by rw [if_neg h] at hgv; exact hg hgv
   rw [if_pos hgg] at hgv
   subst hgv
   refine S.cond rfl (fun hc => ?_) (fun hc => by simp at hc <;> omega)
   (repeat first | refine uA ?_ | (refine uK ?_ ?_; focus first | omega | (intros; simp_all <;> omega)) | simp (disch := omega) only [go_sem, Nat.reduceBEq, Nat.reduceAdd, ww])
   refine S.cond rfl (fun hc => ?_) (fun hc => by simp at hc)
   (repeat first | refine uA ?_ | (refine uK ?_ ?_; focus first | omega | (intros; simp_all <;> omega)) | simp (disch := omega) only [go_sem, Nat.reduceBEq, Nat.reduceAdd, ww, decide_true] | (refine uC h5 ?_ ?_ ?_; exact rfl; focus (repeat' first | exact j5.nil | exact Imp.refl rfl | exact Imp.F7 | exact Imp.fbx rfl rfl (j5.refl rfl) rfl rfl | refine Imp.clo ?_ | exact Imp.frz rfl rfl rfl | (refine Imp.J9 rfl rfl ?_ ?_; (focus ((try simp only [c1s, decide_true]); omega)); (focus first | rfl | assumption)) | refine Imp.agg ?_ | refine j5.cons ?_ ?_); done))
   exact S.done (j3.out rfl (Imp.refl rfl) rfl)
  ·rw [if_pos h0] at hgv
   subst hgv
   refine S.cond rfl (fun hc => by simp at hc; exact absurd hc.1 h0) (fun hc => ?_)
   (repeat first | refine uA ?_ | (refine uK ?_ ?_; focus first | omega | (intros; simp_all <;> omega)) | simp (disch := omega) only [go_sem, Nat.reduceBEq, Nat.reduceAdd, ww])
   refine S.cond rfl (fun hc => ?_) (fun hc => by simp at hc; exact absurd hc h0)
   (repeat first | refine uA ?_ | (refine uK ?_ ?_; focus first | omega | (intros; simp_all <;> omega)) | simp (disch := omega) only [go_sem, Nat.reduceBEq, Nat.reduceAdd, ww, decide_true] | (refine uC h5 ?_ ?_ ?_; exact rfl; focus (repeat' first | exact j5.nil | exact Imp.refl rfl | exact Imp.F7 | exact Imp.fbx rfl rfl (j5.refl rfl) rfl rfl | refine Imp.clo ?_ | exact Imp.frz rfl rfl rfl | (refine Imp.J9 rfl rfl ?_ ?_; (focus ((try simp only [c1s, decide_true]); omega)); (focus first | rfl | assumption)) | refine Imp.agg ?_ | refine j5.cons ?_ ?_); done))
   exact S.done (j3.out rfl (Imp.refl rfl) rfl)
set_option maxRecDepth 10000
noncomputable def laidWorldU (os : Os) : World := World.laidAll Tryz.prog os Rows.moveGatesUptoRow.laid
theorem b5q (os : Os) (args : Array Value) : laidMet Tryz.prog Rows.moveGatesUptoRow.laid ((laidWorldU os).forCall (fun _ _ => 0) ⟨#[], args, []⟩).memory :=
 laidMet_laidAll args (by kernel_rfl) (by kernel_rfl)
theorem b2k {H : Type} {enc : TypeId × Value -> H} {C : Checked} {os : Os} {f : FuncId} {fn : Func} {s : OpenSpec} {conds : List PathCond} {apart : Bool} {laid : List (String × DataW Unit)} (modest : Bool) (w0 : World) (args : Array Value) (hos : w0.os = os)
  (hv : (w0.forCall (fun _ _ => 0) ⟨#[], args, []⟩).variablesZipB C.prog = true)
  (hr : ((w0.forCall (fun _ _ => 0) ⟨#[], args, []⟩).heap.toList.drop C.prog.globals.size).take ((begin C.prog (fun _ _ => 0) default).world.heap.size - C.prog.globals.size) =
   (begin C.prog (fun _ _ => 0) default).world.heap.toList.drop C.prog.globals.size)
  (hok : Input.okWideB C.prog (w0.forCall (fun _ _ => 0) ⟨#[], args, []⟩) f ⟨#[], args, []⟩ = true)
  (hrow : s.preRow enc C.prog fn conds apart laid (w0.forCall (fun _ _ => 0) ⟨#[], args, []⟩).memory args) :
  ∃ (w : World) (tape : Tape) (i : Input), w.os = os /\ (w.forCall tape i).Shaped C.prog /\ i.vars = [] /\ Input.okWide C.prog (w.forCall tape i) .any w.heap.size f i /\
   s.preRow enc C.prog fn conds apart laid (w.forCall tape i).memory i.args /\ ({ modest := modest } : Assume).holds C.prog (lone (Frame.enter C.prog f i.args .normal) [] (w.forCall tape i)) :=
 ⟨w0, fun _ _ => 0, ⟨#[], args, []⟩, hos, World.shaped_of_ZipB hv hr, (Input.okWide_of_okWideB (base := 0) hok).1, (Input.okWide_of_okWideB hok).2, hrow, by
  simp only [Assume.holds]
  exact ⟨by simp, by simp, fun _ => Modest.zero, by simp, by simp⟩⟩
theorem a9I (os : Os) (args : Array Value) : laidMet Tryz.prog Rows.moveGatesUptoRow.laid ((laidWorldU os).forCall (fun _ _ => 0) ⟨#[], args, []⟩).memory :=
 b5q os args
theorem a6e (H : Type) (enc : TypeId × Value -> H) (W : World) (base : Nat) (args : Array Value) (ds gs : List (DataW H)) (before : List MemPlace)
  (hval : ∀ (j : Nat) t v, Tryz.f8.params[j]? = some t -> args[j]? = some v -> Value.okWide Tryz.prog W .any base t v)
  (hW : DataW.Whole enc Tryz.prog Tryz.f8.params.toList Rows.moveGatesSpec.vars false W args.toList ds gs before) (hk : Rows.uptoSmall H (ds ++ gs) = true) (hL : laidMetH Tryz.prog Rows.moveGatesUptoRow.laid W) (hS : W.ShapedOpen Tryz.prog) :
  Calls Tryz.prog 8 args W fun e W' => ∃ v, e = .returned v /\ Rows.moveGatesSpec.post enc Tryz.prog Tryz.f8 false true false false W args v W' := by
 have hW' := hW
 obtain ⟨p, q, hA0, hV, rfl, hfz, hnd⟩ := hW
 have hA : DataW.TrodAll enc Tryz.prog W 0 (fun _ => true) true Tryz.f8.params.toList args.toList ds p := hA0
 rw [Tryz.params8] at hA hval
 obtain ⟨v0, vs0, d0, ds0, p0, q0, hargs, rfl, rfl, h0, r0⟩ := trodAll_cons hA
 obtain ⟨v1, vs1, d1, ds1, p1, q1, rfl, rfl, rfl, h1, r1⟩ := trodAll_cons r0
 obtain ⟨v2, vs2, d2, ds2, p2, q2, rfl, rfl, rfl, h2, r2⟩ := trodAll_cons r1
 obtain ⟨v3, vs3, d3, ds3, p3, q3, rfl, rfl, rfl, h3, r3⟩ := trodAll_cons r2
 obtain ⟨v4, vs4, d4, ds4, p4, q4, rfl, rfl, rfl, h4, r4⟩ := trodAll_cons r3
 obtain ⟨rfl, rfl, rfl⟩ := trodAll_nil r4
 obtain rfl : args = #[v0, v1, v2, v3, v4] := by cases args; simp_all
 obtain ⟨rfl, rfl⟩ := trodVars_none hV
 have hb := b6B hk
 obtain ⟨cs0, rfl, _⟩ := okWide_struct Tryz.underlying31 (hval 0 31 v0 rfl rfl)
 obtain ⟨m0, h0⟩ := h0
 obtain ⟨wk0, e0, _, k0, b0⟩ := c1j _ _ _ h0
 have b0 : wkM wk0 <= Rows.uptoBulk d0 := b0
 have e0 : FzL W noB wk0.enc cs0.toList := e0
 have g0 : Fz W noB wk0.c (.agg cs0) := by simp only [Wk.c, Fz]; exact ⟨_, e0, by simp⟩
 obtain ⟨cs1, rfl, _⟩ := okWide_struct Tryz.underlying37 (hval 1 37 v1 rfl rfl)
 obtain ⟨m1, h1⟩ := h1
 obtain ⟨st0, e1, _, k1, b1⟩ := c1b _ _ _ h1
 have b1 : stM st0 <= Rows.uptoBulk d1 := b1
 have e1 : FzL W noB st0.enc cs1.toList := e1
 have g1 : Fz W noB st0.c (.agg cs1) := by simp only [Stt.c, Fz]; exact ⟨_, e1, by simp⟩
 obtain ⟨gt0, rfl, rfl, rfl, w2⟩ := open_int Tryz.underlying3 (hval 2 3 v2 rfl rfl) h2
 have hgt0 : I64 gt0 := by simpa [Lit.wf, IntKind.min, IntKind.max, IntKind.signed, IntKind.bits, I64] using w2
 obtain ⟨is0, rfl, rfl, rfl⟩ := RowKit.open_bool Tryz.underlying4 (hval 3 4 v3 rfl rfl) h3
 obtain ⟨cs4, rfl, _⟩ := okWide_struct Tryz.underlying51 (hval 4 51 v4 rfl rfl)
 obtain ⟨m4, h4⟩ := h4
 obtain ⟨vc9, e4, _, k4, b4⟩ := b1r _ _ _ h4
 have b4 : vtM vc9 <= Rows.uptoBulk d4 := b4
 have e4 : FzL W noB vc9.enc cs4.toList := e4
 have g4 : Fz W noB vc9.c (.agg cs4) := by simp only [Vt.c, Fz]; exact ⟨_, e4, by simp⟩
 simp only [List.append_nil, List.cons_append, List.nil_append, Rows.uptoBulkAll] at hb
 have hF : FzL W noB [wk0.c, st0.c, ints gt0, .v (.bool is0), vc9.c] [.agg cs0, .agg cs1, .int .i64 gt0, .bool is0, .agg cs4] := by
  simp only [FzL]
  exact ⟨_, _, rfl, g0, ⟨_, _, rfl, g1, ⟨_, _, rfl, by simp only [ints, Fz], ⟨_, _, rfl, by simp only [ints, Fz], ⟨_, _, rfl, g4, rfl⟩⟩⟩⟩⟩
 refine (b2f wk0 st0 gt0 is0 vc9 (c0T (by omega)) (c1c (by omega)) (b3T (by omega)) noB W _ (c0A hL) (fun _ h => h.elim) hF).mono fun e W' ⟨y, he, hbl, hy⟩ => ?_
 subst he
 simp only [Fz] at hy
 subst hy
 refine ⟨_, rfl, b6c b6r (by
  intro t ht
  rw [Tryz.params8] at ht
  simp only [List.mem_cons, List.not_mem_nil, or_false] at ht
  rcases ht with rfl | rfl | rfl | rfl | rfl
  ·exact ⟨by kernel_rfl, of_decide_eq_true (by kernel_rfl)⟩
  ·exact ⟨by kernel_rfl, of_decide_eq_true (by kernel_rfl)⟩
  ·exact ⟨by kernel_rfl, of_decide_eq_true (by kernel_rfl)⟩
  ·exact ⟨by kernel_rfl, of_decide_eq_true (by kernel_rfl)⟩
  ·exact ⟨by kernel_rfl, of_decide_eq_true (by kernel_rfl)⟩) (tb := 4) rfl Tryz.underlying4 rfl rfl hW' hbl⟩
theorem a7P (os : Os) {H : Type} (enc : TypeId × Value -> H) : ∃ places, DataW.whole enc Tryz.prog ((laidWorldU os).forCall (fun _ _ => 0) ⟨#[], #[.agg #[.slice none 0 0, .slice none 0 0, .slice none 0 0, .slice none 0 0, .slice none 0 0, .bool false, .string ⟨#[]⟩, .string ⟨#[]⟩], .agg #[.int .i64 0, .slice none 0 0, .slice none 0 0, .slice none 0 0, .slice none 0 0], .int .i64 0, .bool false, .agg #[.bool false, .string ⟨#[]⟩, .string ⟨#[]⟩, .bool false, .string ⟨#[]⟩, .string ⟨#[]⟩]], []⟩).memory Tryz.f8.params.toList Rows.moveGatesSpec.vars false (#[.agg #[.slice none 0 0, .slice none 0 0, .slice none 0 0, .slice none 0 0, .slice none 0 0, .bool false, .string ⟨#[]⟩, .string ⟨#[]⟩], .agg #[.int .i64 0, .slice none 0 0, .slice none 0 0, .slice none 0 0, .slice none 0 0], .int .i64 0, .bool false, .agg #[.bool false, .string ⟨#[]⟩, .string ⟨#[]⟩, .bool false, .string ⟨#[]⟩, .string ⟨#[]⟩]] : Array Value).toList 8 = some ([.agg [.nil, .nil, .nil, .nil, .nil, .agg [.lit (.bool false), .lit (.string []), .lit (.string [])]], .agg [.lit (.int .i64 0), .nil, .nil, .nil, .nil], .lit (.int .i64 0), .lit (.bool false), .agg [.agg [.lit (.bool false), .lit (.string []), .lit (.string [])], .agg [.lit (.bool false), .lit (.string []), .lit (.string [])]]], [], places) :=
 ⟨[], by kernel_rfl⟩
set_option maxRecDepth 100000 in
theorem a7m (os : Os) (started : os.Started) (H : Type) (enc : TypeId × Value -> H) (F : Stop.Interp) :
  ReturnsInHanded {} Tryz.checked os 8 .any ((Rows.OpenSpec.upto Rows.moveGatesSpec).preRow enc Tryz.prog Tryz.f8 Rows.moveGatesUptoRow.domain false Rows.moveGatesUptoRow.laid) (((Rows.OpenSpec.upto Rows.moveGatesSpec).at F).post enc Tryz.prog Tryz.f8 false true false false) := by
 obtain ⟨places, hx⟩ := a7P os enc
 refine returnsInHanded_of_row (C := Tryz.checked) (s := Rows.OpenSpec.upto Rows.moveGatesSpec) b6P started (by kernel_rfl) Tryz.func8
  (b2k (enc := enc) (C := Tryz.checked) false (laidWorldU os) #[.agg #[.slice none 0 0, .slice none 0 0, .slice none 0 0, .slice none 0 0, .slice none 0 0, .bool false, .string ⟨#[]⟩, .string ⟨#[]⟩], .agg #[.int .i64 0, .slice none 0 0, .slice none 0 0, .slice none 0 0, .slice none 0 0], .int .i64 0, .bool false, .agg #[.bool false, .string ⟨#[]⟩, .string ⟨#[]⟩, .bool false, .string ⟨#[]⟩, .string ⟨#[]⟩]] rfl (by kernel_rfl) (by kernel_rfl) (by kernel_rfl)
   (OpenSpec.preRow_of_cond 8 hx (by kernel_rfl) (fun k hk => by cases hk; kernel_rfl) (by kernel_rfl) (a9I os _))) ?_
 intro W base args ds gs before hval hW _ hcond _ hL hS _
 exact a6e H enc W base args ds gs before hval hW (hcond _ rfl) hL hS
theorem c1f {a b : Bool} (h : a = true) (k : b = true) : (a && b) = true := by rw [h, k]; rfl
set_option maxHeartbeats 40000000 in
theorem a7l : joinedFacts Tryz.pinned.checked.prog 8 Tryz.f8 (Rows.OpenSpec.upto Rows.moveGatesSpec).bare Rows.moveGatesUptoRow = true := by
 unfold joinedFacts
 repeat' (with_reducible refine c1f ?_ ?_)
 all_goals (as_aux_lemma => kernel_rfl)
end Go.Proofs.YtogfpjohjphngaaGreatDoor
