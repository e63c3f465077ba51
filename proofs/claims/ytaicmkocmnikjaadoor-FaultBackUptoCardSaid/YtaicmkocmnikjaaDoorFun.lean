/- Functions: entered, left, called. -/
import Derived.Test.YtaicmkocmnikjaaDoorEnt
namespace Go.Proofs.YtaicmkocmnikjaaDoor.Eng
set_option linter.all false
open Go Go.RowKit

def frOf : Nat → List C → List (Nat × C)
  | _, [] => []
  | n, s :: r => (n, s) :: frOf (n + 1) r

theorem frOf_look : ∀ (n : Nat) (cs : List C) (t : Nat), slot (frOf n cs) t = if t < n then .junk else (cs[t - n]?).getD .junk
  | n, [], t => by simp [frOf, slot]
  | n, s :: r, t => by
    simp only [frOf, slot]
    by_cases h : n = t
    · subst h; simp
    · have : (n == t) = false := by simpa using h
      rw [this]
      simp only [cond_false]
      rw [frOf_look (n + 1) r t]
      by_cases h2 : t < n
      · rw [if_pos (by omega), if_pos h2]
      · rw [if_neg (by omega), if_neg h2]
        have : t - n = (t - (n + 1)) + 1 := by omega
        rw [this]
        rfl

/-- one result, or several -/
def one (vs : List Value) : Value :=
  match vs with
  | [v] => v
  | vs => .tuple vs.toArray
def oneC : List C → C
  | [c] => c
  | cs => .tup cs

/-- what is asked of a result, read at the end -/
def retP (fr : List (Nat × C)) (rs : List Res) : List RV → (List C → Prop) → Prop
  | [], K => K []
  | .tmp t :: l, K => retP fr rs l fun cs => K (slot fr t :: cs)
  | .cell t agg sz :: l, K => loadP rs agg sz (slot fr t) fun c => retP fr rs l fun cs => K (c :: cs)

def readRes (tmps : Array Value) : ResultVar → Go.Sem Value
  | .tmp t => pure (tmps.getD t undef)
  | .cell a t => do loadVar t (← asAddr (tmps.getD a undef))

theorem results_eq (fn : Func) (tmps : Array Value) : results fn tmps = (do
    let vs ← fn.results.mapM (readRes tmps)
    pure (if h : vs.size = 1 then vs[0] else .tuple vs)) := by
  unfold results
  congr 1

section
variable {fr : List (Nat × C)} {rs : List Res}

theorem retP_list : ∀ {rvs : List RV} {K : List C → Prop}, retP fr rs rvs K → ∃ cs, K cs ∧ ∀ (P : Program) (ν : List Value) (w : World) (O : Nat → Prop) (tmps : Array Value) (l : List ResultVar), HR ν w O rs → (∀ t, Den ν w O (slot fr t) (tmps.getD t undef)) →
    resTmps P l = some rvs → ∃ vs, DenL ν w O cs vs ∧ (l.mapM (readRes tmps)).run P w = .ok vs w
  | [], K, h => ⟨[], h, fun P ν w O tmps l _ _ hl => ⟨[], by simp [DenL], by
      cases l with
      | nil => simp
      | cons r l =>
        exfalso
        cases r with
        | tmp t => simp only [resTmps] at hl; split at hl <;> simp at hl
        | cell a t => simp only [resTmps] at hl; split at hl <;> simp at hl⟩⟩
  | .tmp t :: rvs, K, h => by
    obtain ⟨cs, hk, hall⟩ := retP_list (rvs := rvs) h
    refine ⟨_, hk, fun P ν w O tmps l hR hF hl => ?_⟩
    cases l with
    | nil => simp [resTmps] at hl
    | cons r l =>
      cases r with
      | tmp t' =>
        simp only [resTmps] at hl
        split at hl
        · rename_i l' hl'
          injection hl with hl
          injection hl with e1 e2
          injection e1 with e1
          subst e1 e2
          obtain ⟨vs, h1, h2⟩ := hall P ν w O tmps l hR hF hl'
          refine ⟨_ :: vs, ⟨_, vs, rfl, hF t', h1⟩, ?_⟩
          rw [List.mapM_cons]
          simp only [readRes, Sem.run_bind, Sem.run_pure, Result.andThen_ok]
          rw [h2]
          rfl
        · cases hl
      | cell a t =>
        simp only [resTmps] at hl
        split at hl
        · injection hl with hl; injection hl with e1 e2; cases e1
        · cases hl
  | .cell t agg sz :: rvs, K, h => by
    obtain ⟨c, hc, hld⟩ := loadP_sound h
    obtain ⟨cs, hk, hall⟩ := retP_list (rvs := rvs) hc
    refine ⟨_, hk, fun P ν w O tmps l hR hF hl => ?_⟩
    cases l with
    | nil => simp [resTmps] at hl
    | cons r l =>
      cases r with
      | tmp t' =>
        simp only [resTmps] at hl
        split at hl
        · injection hl with hl; injection hl with e1 e2; cases e1
        · cases hl
      | cell a ty =>
        simp only [resTmps] at hl
        split at hl
        · rename_i i d l' hi hd hl'
          injection hl with hl
          injection hl with e1 e2
          injection e1 with e1 e3 e4
          subst e1 e2
          obtain ⟨y, hy, hrun⟩ := hld P ty i d ν w O (tmps.getD a undef) hi hd e3 e4 hR (hF a)
          obtain ⟨vs, h1, h2⟩ := hall P ν w O tmps l hR hF hl'
          refine ⟨y :: vs, ⟨y, vs, rfl, hy, h1⟩, ?_⟩
          rw [List.mapM_cons]
          have hrd : (readRes tmps (.cell a ty)).run P w = .ok y w := by
            simp only [readRes]
            revert hrun
            generalize tmps.getD a undef = x
            intro hrun
            revert hrun
            cases x with
            | pointer p =>
              cases p with
              | some ad => intro hrun; simpa [Instr.loadAt, Instr.sureAddr, asAddr] using hrun
              | none => intro hrun; simp [Instr.loadAt, Instr.sureAddr, runtimePanic] at hrun
            | _ => intro hrun; simp [Instr.loadAt, Instr.sureAddr] at hrun
          simp only [Sem.run_bind, hrd, Result.andThen_ok]
          rw [h2]
          rfl
        · cases hl
end

/-- the function's own end -/
def Fin (P : Program) (rvs : List RV) (R : Value → World → Prop) : Exit → Act → World → Prop
  | .normal, a, w => a.defers = [] ∧ ∀ l, resTmps P l = some rvs → ∃ vs, (l.mapM (readRes a.tmps)).run P w = .ok vs w ∧ R (one vs) w
  | .ret, a, w => a.defers = [] ∧ ∀ l, resTmps P l = some rvs → ∃ vs, (l.mapM (readRes a.tmps)).run P w = .ok vs w ∧ R (one vs) w
  | _, _, _ => False

/-- what is asked where the function returns -/
def RetOK (E : Ctx) (rs : List Res) (R : Value → World → Prop) (cs : List C) : Prop := Wf E → ∀ ν w y, RG E.av E.own0 E.w0.heap.size ν rs w → Frm E.own0 E.w0 w → NuLe E.pk0 E.nu0 ν → Den ν w (OO E.av rs ν) (oneC cs) y → R y w

theorem oneV_den {ν : List Value} {w : World} {O : Nat → Prop} {cs : List C} {vs : List Value} (h : DenL ν w O cs vs) : Den ν w O (oneC cs) (one vs) := by
  have hl := h.length
  match cs, vs with
  | [], [] => exact ⟨[], h, rfl⟩
  | [c], [v] =>
    simp only [DenL] at h
    obtain ⟨y, ys, e, h1, rfl⟩ := h
    injection e with e1 e2
    subst e1
    exact h1
  | c :: c' :: cs, v :: v' :: vs => exact ⟨_, h, rfl⟩
  | [], _ :: _ => simp at hl
  | [_], [] => simp at hl
  | [_], _ :: _ :: _ => simp at hl
  | _ :: _ :: _, [] => simp at hl
  | _ :: _ :: _, [_] => simp at hl

theorem done_any {E : Ctx} {st : St} {rvs : List RV} {R : Value → World → Prop} (h : retP st.fr st.rs rvs (RetOK E st.rs R)) (wf : Wf E) {ν : List Value} {a : Act} {w : World} (hG : Good E ν st a w) :
    a.defers = [] ∧ ∀ l, resTmps E.P l = some rvs → ∃ vs, (l.mapM (readRes a.tmps)).run E.P w = .ok vs w ∧ R (one vs) w := by
  obtain ⟨cs, hk, hall⟩ := retP_list h
  refine ⟨hG.dfr, fun l hl => ?_⟩
  obtain ⟨vs, h1, h2⟩ := hall E.P ν w (OO E.av st.rs ν) a.tmps l hG.rg.hr hG.fr hl
  exact ⟨vs, h2, hk wf ν w _ hG.rg hG.frm hG.nu (oneV_den h1)⟩
theorem S.done {E : Ctx} {st : St} {k : List It} {rvs : List RV} {R : Value → World → Prop} (h : retP st.fr st.rs rvs (RetOK E st.rs R)) : S E (Fin E.P rvs R) st (.code .ret :: k) :=
  S.ret fun wf _ _ _ hG => done_any h wf hG
theorem S.end_ {E : Ctx} {st : St} {rvs : List RV} {R : Value → World → Prop} (h : retP st.fr st.rs rvs (RetOK E st.rs R)) : S E (Fin E.P rvs R) st [] :=
  S.nil fun wf _ _ _ hG => done_any h wf hG

/-- the result of a function that keeps nothing -/
def Out (E : Ctx) (r : C) (y : Value) (w : World) : Prop := Below E.w0.heap.size E.w0 w ∧ Fz w E.av r y
theorem RetOK.out {E : Ctx} (hown : E.own0 = fun _ => False) {rs : List Res} {cs : List C} {r : C} (h : Imp rs [] (oneC cs) r) (hcl : r.cl = true) : RetOK E rs (Out E r) cs := by
  intro wf ν w y hR hF _ hd
  have hC : Cut E.av rs [] ν := Cut.of hR (by simp [kindOK])
  have h1 := h E.av E.own0 E.w0.heap.size ν w y hR hC hd
  refine ⟨⟨hF.os, hF.tape, hF.output, hF.size, fun b hb => hF.block b hb (by rw [hown]; exact fun h => h)⟩, Fz.keep (Keeps.sub fun b hb => .inl hb) (Den.fz hcl h1)⟩

/-- the result of a function that leaves blocks of one's own -/
def OutO (E : Ctx) (rs' : List Res) (s : C) (y : Value) (w : World) : Prop :=
  ∃ ν', RG E.av E.own0 E.w0.heap.size ν' rs' w ∧ Frm E.own0 E.w0 w ∧ NuLe E.pk0 E.nu0 ν' ∧ Den ν' w (OO E.av rs' ν') s y
theorem RetOK.own {E : Ctx} {rs : List Res} {cs : List C} {s : C} (h : oneC cs = s) : RetOK E rs (OutO E rs s) cs := by
  subst h
  exact fun wf ν w y hR hF hN hd => ⟨ν, hR, hF, hN, hd⟩
theorem RetOK.ownW {E : Ctx} {rs rs' : List Res} {cs : List C} {s : C} (h : Imp rs rs' (oneC cs) s) (h2 : rsOK rs rs' rs' rs) (h3 : E.nu0.length ≤ rs'.length) : RetOK E rs (OutO E rs' s) cs :=
  fun wf ν w y hR hF hN hd => ⟨ν.take rs'.length, hR.weak h2, hF, fun k x hk hx => take_get (Nat.lt_of_lt_of_le (List.getElem?_eq_some_iff.1 hx).1 h3) (hN k x hk hx), h _ _ _ ν w y hR (Cut.of hR (rsOK_kind h2)) hd⟩

theorem enterO {E : Ctx} {f : Nat} {fn : Func} {ir : IFun} {args : List Value} {w : World} {R : Value → World → Prop} (hf : E.P.funcs[f]? = some fn) (hc : compF E.eff E.P fn = some ir) (hN : E.N = ir.ntmps) (hw : E.w0 = w) (wf : Wf E)
    (rs : List Res) (hrg : RG E.av E.own0 w.heap.size E.nu0 rs w) (cs : List C) (hargs : DenL E.nu0 w (OO E.av rs E.nu0) cs args) (hn : cs.length ≤ ir.ntmps)
    (h : S E (Fin E.P ir.results R) ⟨frOf 0 cs, rs⟩ [.code ir.body]) : Calls E.P f args.toArray w fun e w' => ∃ y, e = .returned y ∧ R y w' := by
  unfold compF at hc
  split at hc
  · rename_i c rvs hb hrs
    split at hc
    · rename_i ic hic
      injection hc with hc
      subst hc
      refine calls_of_wp hf hb ?_
      have hal := hargs.length
      have hn' : args.length ≤ fn.ntmps := by rw [hal]; exact hn
      have hG : Good E E.nu0 ⟨frOf 0 cs, rs⟩ { tmps := args.toArray ++ Array.replicate (fn.ntmps - args.toArray.size) undef, defers := [] } w := by
        refine ⟨rfl, ?_, fun t => ?_, by rw [hw]; exact hrg, by rw [hw]; exact ⟨rfl, rfl, rfl, Nat.le_refl _, fun _ _ _ => rfl⟩, fun k x _ hx => hx⟩
        · simp [hN]
          omega
        · show Den E.nu0 w _ (slot (frOf 0 cs) t) _
          rw [frOf_look]
          simp only [Nat.not_lt_zero, if_false, Nat.sub_zero]
          cases hs : cs[t]? with
          | none => simp [Den]
          | some s =>
            obtain ⟨y, hy, hd⟩ := hargs.get hs
            have hlt : t < args.length := (List.getElem?_eq_some_iff.1 hy).1
            have : (args.toArray ++ Array.replicate (fn.ntmps - args.toArray.size) undef).getD t undef = y := by
              rw [Array.getD_eq_getD_getElem?, Array.getElem?_append_left (by simpa using hlt)]
              simp [hy]
            rw [this]
            exact hd
      refine wp_mono (h wf E.nu0 _ w hG c (by rw [hN]; exact hic)) fun e a' w' hq => ?_
      have fin : ∀ (a' : Act) (w' : World), (a'.defers = [] ∧ ∀ l, resTmps E.P l = some rvs → ∃ vs, (l.mapM (readRes a'.tmps)).run E.P w' = .ok vs w' ∧ R (one vs) w') → a'.defers = [] ∧ ∃ v, (results fn a'.tmps).run E.P w' = .ok v w' ∧ ∃ y, Ending.returned v = .returned y ∧ R y w' := by
        intro a' w' ⟨h1, h2⟩
        obtain ⟨vs, h3, h4⟩ := h2 _ hrs
        refine ⟨h1, one vs, ?_, _, rfl, h4⟩
        rw [results_eq, Array.mapM_eq_mapM_toList, Sem.run_bind, Sem.run_map, h3]
        simp only [Result.andThen_ok, Sem.run_pure]
        congr 1
        match vs with
        | [] => rfl
        | [t] => rfl
        | a :: b :: l => simp [one]
      cases e with
      | normal => exact fin a' w' hq
      | ret => exact fin a' w' hq
      | exit id => simp only [exS, Fin] at hq
      | goto l => simp only [Fin] at hq
      | panic c => simp only [Fin] at hq
      | outgrown => simp only [Fin] at hq
    · cases hc
  · cases hc

theorem enter {eff : Nat → Bool} {P : Program} {f : Nat} {fn : Func} {ir : IFun} {args : List Value} {w : World} {R : Value → World → Prop} (hf : P.funcs[f]? = some fn) (hc : compF eff P fn = some ir)
    (O : Nat → Prop) (hO : ∀ b, O b → b < w.heap.size) (cs : List C) (hargs : FzL w O cs args) (hn : cs.length ≤ ir.ntmps)
    (h : S ⟨P, eff, ir.ntmps, w, fun _ => False, O, [], []⟩ (Fin P ir.results R) ⟨frOf 0 cs, []⟩ [.code ir.body]) : Calls P f args.toArray w fun e w' => ∃ y, e = .returned y ∧ R y w' := by
  refine enterO (E := ⟨P, eff, ir.ntmps, w, fun _ => False, O, [], []⟩) hf hc rfl rfl hO [] ⟨rfl, fun k r hk => by simp at hk, fun k l r r' x x' b _ hk => by simp at hk, fun b hb => ?_, hO, Nat.le_refl _⟩ cs ?_ hn h
  · obtain ⟨k, r, x, hk, _⟩ := hb
    simp at hk
  · exact (FzL.keep (Keeps.sub fun b hb => by
      rcases hb with hb | ⟨k, r, x, hk, _⟩
      · exact hb
      · simp at hk) hargs).den []

/-- a function that is handed blocks of one's own -/
theorem CallT.of {E : Ctx} {eff : Nat → Bool} {f : Nat} {fn : Func} {ir : IFun} (hf : E.P.funcs[f]? = some fn) (hc : compF eff E.P fn = some ir) {rs : List Res} {args : List C} {s : C} {rs' : List Res} {pk : List Nat} (hn : args.length ≤ ir.ntmps)
    (h : ∀ w own av ν, ν.length = rs.length → S ⟨E.P, eff, ir.ntmps, w, own, av, ν, pk⟩ (Fin E.P ir.results (OutO ⟨E.P, eff, ir.ntmps, w, own, av, ν, pk⟩ rs' s)) ⟨frOf 0 args, rs⟩ [.code ir.body]) : CallT E rs f args s rs' pk := by
  intro av ν w vs hR hav hF hD
  have hR' : RG av (owned rs ν) w.heap.size ν rs w := ⟨hR.len, hR.res, hR.dis, fun b hb => ⟨(hR.low b hb).1, (hR.low b hb).2.1, .inl hb⟩, hR.av, Nat.le_refl _⟩
  refine (enterO (E := ⟨E.P, eff, ir.ntmps, w, owned rs ν, av, ν, pk⟩) hf hc rfl rfl hR.av rs hR' args hD hn (h w (owned rs ν) av ν hR.len)).mono ?_
  rintro e w' ⟨y, rfl, ν', h1, h2, h3, h4⟩
  refine ⟨y, ν', rfl, ⟨h1.len, h1.res, h1.dis, fun b hb => ?_, h1.av, Nat.le_trans hR.n0 h2.size⟩, ⟨h2.os, h2.tape, h2.output, h2.size, h2.block, fun b hb => (h1.low b hb).2.2, h3⟩, h4⟩
  obtain ⟨g1, g2, g3⟩ := h1.low b hb
  refine ⟨g1, g2, ?_⟩
  rcases g3 with g3 | g3
  · exact (hR.low b g3).2.2
  · exact .inr (Nat.le_trans hR.n0 g3)

/-- from trees to a tree: the law of a function that keeps nothing -/
def FSpec (P : Program) (f : Nat) (args : List C) (r : C) : Prop := ∀ (O : Nat → Prop) (w : World) (vs : List Value), (∀ b, O b → b < w.heap.size) → FzL w O args vs →
  Calls P f vs.toArray w fun e w' => ∃ y, e = .returned y ∧ Below w.heap.size w w' ∧ Fz w' O r y

theorem FSpec.of {eff : Nat → Bool} {P : Program} {f : Nat} {fn : Func} {ir : IFun} (hf : P.funcs[f]? = some fn) (hc : compF eff P fn = some ir) {args : List C} {r : C} (hn : args.length ≤ ir.ntmps)
    (h : ∀ w O, S ⟨P, eff, ir.ntmps, w, fun _ => False, O, [], []⟩ (Fin P ir.results (Out ⟨P, eff, ir.ntmps, w, fun _ => False, O, [], []⟩ r)) ⟨frOf 0 args, []⟩ [.code ir.body]) : FSpec P f args r := by
  intro O w vs hO hargs
  exact enter hf hc O hO args hargs hn (h w O)

mutual
/-- no slice, no pointer in it -/
def C.flat : C → Bool
  | .v _ => true
  | .agg cs => C.flatL cs
  | .tup cs => C.flatL cs
  | .nl => true
  | .any _ => true
  | _ => false
def C.flatL : List C → Bool
  | [] => true
  | c :: cs => C.flat c && C.flatL cs
end
section
variable {ν : List Value} {w : World} {O O' : Nat → Prop}
mutual
theorem Fz.flat : ∀ {c : C} {y : Value}, c.flat = true → Fz w O c y → Den ν w O' c y
  | .v _, y, _, h => by simpa only [Fz, Den] using h
  | .agg cs, y, hc, h => by simp only [Fz, Den, C.flat] at h hc ⊢; obtain ⟨vs, h1, h2⟩ := h; exact ⟨vs, FzL.flat hc h1, h2⟩
  | .tup cs, y, hc, h => by simp only [Fz, Den, C.flat] at h hc ⊢; obtain ⟨vs, h1, h2⟩ := h; exact ⟨vs, FzL.flat hc h1, h2⟩
  | .nl, y, _, h => by simpa only [Fz, Den] using h
  | .any _, y, _, h => by simpa only [Fz, Den] using h
  | .sl _ _, y, hc, _ => by simp only [C.flat] at hc; cases hc
  | .ep _, y, hc, _ => by simp only [C.flat] at hc; cases hc
  | .clo _ _, y, hc, _ => by simp only [C.flat] at hc; cases hc
  | .bp _ _, y, hc, _ => by simp only [C.flat] at hc; cases hc
  | .rv _, y, hc, _ => by simp only [C.flat] at hc; cases hc
  | .rp _ _ _ _, y, hc, _ => by simp only [C.flat] at hc; cases hc
  | .mp _, y, hc, _ => by simp only [C.flat] at hc; cases hc
  | .wv _ _ _ _, y, hc, _ => by simp only [C.flat] at hc; cases hc
  | .g _ _, y, hc, _ => by simp only [C.flat] at hc; cases hc
  | .junk, y, hc, _ => by simp only [C.flat] at hc; cases hc
theorem FzL.flat : ∀ {cs : List C} {vs : List Value}, C.flatL cs = true → FzL w O cs vs → DenL ν w O' cs vs
  | [], vs, _, h => by simpa only [FzL, DenL] using h
  | c :: cs, vs, hc, h => by
    simp only [FzL, DenL, C.flatL, Bool.and_eq_true] at h hc ⊢
    obtain ⟨y, ys, e, h1, h2⟩ := h
    exact ⟨y, ys, e, Fz.flat hc.1 h1, FzL.flat hc.2 h2⟩
end
end

theorem kindOK_refl : ∀ (rs : List Res), kindOK rs rs = true
  | [] => rfl
  | r :: rs => by simp only [kindOK, Bool.and_eq_true]; exact ⟨by cases r <;> rfl, kindOK_refl rs⟩

/-- called with arguments that hold nothing of one's own -/
theorem CallP.spec {E : Ctx} {rs : List Res} {p : Bool} {f : Nat} {args args' : List C} {r : C} (hs : p = true → FSpec E.P f args' r) (hi : p = true → ImpL rs rs args args') (hcl : p = true → C.clL args' = true) : CallP E rs p f args r := by
  intro hp av ν w vs hR hav hF hD
  have hlt : ∀ b, OO av rs ν b → b < w.heap.size := fun b hb => by
    rcases hb with hb | hb
    · exact hR.av b hb
    · exact (hR.low b hb).1
  have hD' := (hi hp).den hR (Cut.of hR (kindOK_refl rs)) hD
  have et : ν.take rs.length = ν := by rw [← hR.len]; exact List.take_length
  rw [et] at hD'
  refine (hs hp (OO av rs ν) w vs hlt (hD'.fz (hcl hp))).mono ?_
  rintro e w' ⟨y, rfl, h1, h2⟩
  exact ⟨y, rfl, h1, h2.den ν⟩
/-- called with a view of what is one's own, for a plain result -/
theorem CallP.view {E : Ctx} {rs : List Res} {p : Bool} {f : Nat} {args args' : List C} {r : C} (hs : p = true → FSpec E.P f args' r) (hi : p = true → ImpL rs [] args args') (hcl : p = true → C.clL args' = true) (hr : r.flat = true) : CallP E rs p f args r := by
  intro hp av ν w vs hR hav hF hD
  have hC : Cut av rs [] ν := Cut.of hR (by simp [kindOK])
  have hD' := (hi hp).den hR hC hD
  have hlt : ∀ b, OO av [] (ν.take ([] : List Res).length) b → b < w.heap.size := fun b hb => by
    rcases hC.sub b hb with hb | hb
    · exact hR.av b hb
    · exact (hR.low b hb).1
  refine (hs hp _ w vs hlt (hD'.fz (hcl hp))).mono ?_
  rintro e w' ⟨y, rfl, h1, h2⟩
  exact ⟨y, rfl, h1, Fz.flat hr h2⟩
/-- a quiet call among effects -/
theorem CallOK.quiet {E : Ctx} {rs : List Res} {f : Nat} {args : List C} {K : C → List Res → List Nat → Prop} {r : C} (h : CallP E rs true f args r) (hk : K r rs []) : CallOK E rs f args K := by
  refine ⟨r, rs, [], hk, fun av ν w vs hR hav hF hD => (h rfl av ν w vs hR hav hF hD).mono ?_⟩
  rintro e w' ⟨y, rfl, h1, h2⟩
  exact ⟨y, ν, rfl, hR.below h1, Mv.of_below h1, h2⟩
theorem CallH.quiet {E : Ctx} {st : St} {p : Bool} {f : Nat} {args : List C} {ok : Prop} {d : Option Nat} {K : St → Prop} {r : C} (hok : ok) (h : CallP E st.rs p f args r) (hk : KPg st p d K r) : CallH E st p f args ok d K := .inr ⟨hok, .inr (.inr ⟨r, h, hk⟩)⟩
theorem CallQ.mk {E : Ctx} {rs : List Res} {p : Bool} {f : Nat} {args : List C} {K : C → Prop} {r : C} (h : CallP E rs p f args r) (hk : K r) : CallQ E rs p f args K := ⟨r, h, hk⟩

/-- short forms: called with closed arguments -/
theorem CallOK.sp {E : Ctx} {rs : List Res} {f : Nat} {args : List C} {K : C → List Res → List Nat → Prop} {r : C} (hs : FSpec E.P f args r) (hb : (C.bdL rs.length args && C.clL args) = true) (hk : K r rs []) : CallOK E rs f args K := by
  rw [Bool.and_eq_true] at hb
  exact CallOK.quiet (CallP.spec (fun _ => hs) (fun _ => ImpL.refl hb.1) (fun _ => hb.2)) hk
theorem CallQ.sp {E : Ctx} {rs : List Res} {p : Bool} {f : Nat} {args : List C} {K : C → Prop} {r : C} (hs : FSpec E.P f args r) (hb : (C.bdL rs.length args && C.clL args) = true) (hk : K r) : CallQ E rs p f args K := by
  rw [Bool.and_eq_true] at hb
  exact CallQ.mk (CallP.spec (fun _ => hs) (fun _ => ImpL.refl hb.1) (fun _ => hb.2)) hk
theorem CallH.sp {E : Ctx} {st : St} {p : Bool} {f : Nat} {args : List C} {ok : Prop} {d : Option Nat} {K : St → Prop} {r : C} (hs : FSpec E.P f args r) (hb : (C.bdL st.rs.length args && C.clL args) = true) (hok : ok) (hk : KPg st p d K r) : CallH E st p f args ok d K := by
  rw [Bool.and_eq_true] at hb
  exact CallH.quiet hok (CallP.spec (fun _ => hs) (fun _ => ImpL.refl hb.1) (fun _ => hb.2)) hk
/-- a call that moves blocks of one's own, of which the arguments are seen so -/
theorem CallT.imp {E : Ctx} {rs : List Res} {f : Nat} {args args' : List C} {s : C} {rs' : List Res} {pk : List Nat} (h : CallT E rs f args' s rs' pk) (hi : ImpL rs rs args args') : CallT E rs f args s rs' pk := by
  intro av ν w vs hR hav hF hD
  have hD' := hi.den hR (Cut.of hR (kindOK_refl rs)) hD
  have et : ν.take rs.length = ν := by rw [← hR.len]; exact List.take_length
  rw [et] at hD'
  exact h av ν w vs hR hav hF hD'
theorem CallOK.t {E : Ctx} {rs : List Res} {f : Nat} {args : List C} {K : C → List Res → List Nat → Prop} {s : C} {rs' : List Res} {pk : List Nat} (h : CallT E rs f args s rs' pk) (hk : K s rs' pk) : CallOK E rs f args K := ⟨s, rs', pk, hk, h⟩

theorem owned_kind {rs rs' : List Res} {ν : List Value} (hk : kindOK rs' rs = true) {b : Nat} (h : owned rs' ν b) : owned rs ν b := by
  obtain ⟨k, r', x, h1, h2, h3⟩ := h
  obtain ⟨r, hr, h⟩ := kindOK_get hk h1
  rcases h with rfl | h
  · exact h3.elim
  · exact ⟨k, r, x, hr, h2, by rw [← h]; exact h3⟩
/-- called with a view of what was one's own and is laid to rest by the call -/
theorem CallOK.viewG {E : Ctx} {rs : List Res} {f : Nat} {args : List C} {K : C → List Res → List Nat → Prop} (args' : List C) (rs' : List Res) {r : C} (hs : FSpec E.P f args' r) (hi : ImpL rs rs' args args') (hcl : C.clL args' = true) (hrs : rsOK rs rs' rs' rs) (hlen : rs'.length = rs.length) (hk : K r rs' []) : CallOK E rs f args K := by
  refine ⟨r, rs', [], hk, fun av ν w vs hR hav hF hD => ?_⟩
  have hkd := rsOK_kind hrs
  have hD' := hi.den hR (Cut.of hR hkd) hD
  have et : ν.take rs'.length = ν := by rw [hlen, ← hR.len]; exact List.take_length
  have hR' := hR.weak hrs
  rw [et] at hD' hR'
  have hlt : ∀ b, OO av rs' ν b → b < w.heap.size := fun b hb => by
    rcases hb with hb | hb
    · exact hR.av b hb
    · exact (hR'.low b hb).1
  refine (hs _ w vs hlt (hD'.fz hcl)).mono ?_
  rintro e w' ⟨y, rfl, h1, h2⟩
  exact ⟨y, ν, rfl, hR'.below h1, ⟨h1.os, h1.tape, h1.output, h1.size, fun b h _ => h1.block b h, fun b h => .inl (owned_kind hkd h), fun _ _ _ h => h⟩, h2.den ν⟩
end Go.Proofs.YtaicmkocmnikjaaDoor.Eng
