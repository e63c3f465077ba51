/- A part of the proof: lemmas only, with the conditions that each names. -/
import Derived.Test.YtogfpjohjphngaaGreatDoorProg
import Derived.KernelRfl
import Derived.Test.YtogfpjohjphngaaGreatDoorPk4
set_option linter.all false
namespace Go.Proofs.YtogfpjohjphngaaGreatDoor.Eng
open Go Go.RowKit
theorem j6.ofT {E : Ctx} {eff : Nat -> Bool} {f : Nat} {fn : Func} {ir : F5} (ht : Tz E) (hf : E.P.funcs[f]? = some fn) (hc : C8 eff E.P fn = some ir) {rs : List Res} {args : List C} {s : C} {rs' : List Res} {pk : List Nat} (hn : args.length <= ir.ntmps)
    (h : ∀ w own av ν, ν.length = rs.length -> Tz ⟨E.P, eff, ir.ntmps, w, own, av, ν, pk⟩ -> S ⟨E.P, eff, ir.ntmps, w, own, av, ν, pk⟩ (Fin E.P ir.results (b5v ⟨E.P, eff, ir.ntmps, w, own, av, ν, pk⟩ rs' s)) ⟨l6 0 args, rs⟩ [.code ir.body]) : j6 E rs f args s rs' pk := by
  intro av ν w vs hR hav hF hD
  have hR' : RG av (owned rs ν) w.heap.size ν rs w := ⟨hR.len, hR.res, hR.dis, fun b hb => ⟨(hR.low b hb).1, (hR.low b hb).2.1, .inl hb⟩, hR.av, Nat.le_refl _⟩
  have ht' : Tz ⟨E.P, eff, ir.ntmps, w, owned rs ν, av, ν, pk⟩ := ⟨ht.at hF, fun ho => by
    rcases (hR.low _ ho).2.2 with h1 | h1
    · exact ht.2 h1
    · have := c0r ht.1; omega⟩
  refine (b2z (E := ⟨E.P, eff, ir.ntmps, w, owned rs ν, av, ν, pk⟩) hf hc rfl rfl hR.av rs hR' args hD hn (h w (owned rs ν) av ν hR.len ht')).mono ?_
  rintro e w' ⟨y, rfl, ν', h1, h2, h3, h4⟩
  refine ⟨y, ν', rfl, ⟨h1.len, h1.res, h1.dis, fun b hb => ?_, h1.av, Nat.le_trans hR.n0 h2.size⟩, ⟨h2.os, h2.tape, h2.output, h2.size, h2.block, fun b hb => (h1.low b hb).2.2, h3⟩, h4⟩
  obtain ⟨g1, g2, g3⟩ := h1.low b hb
  refine ⟨g1, g2, ?_⟩
  rcases g3 with g3 | g3
  · exact (hR.low b g3).2.2
  · exact .inr (Nat.le_trans hR.n0 g3)
def Res.shut : Res -> Bool
  | .gone => false
  | .box _ cs => C.clL cs
  | .row _ _ _ => true
  | .map _ _ => true
theorem a5N {ν ν' : List Value} {w : World} {O O' : Nat -> Prop} {x : Value} {r : Res} (hs : r.shut = true) (hO : ∀ b, O' b -> O b) (h : L8 ν w O x r) : L8 ν' w O' x r := by
  cases r with
  | gone => cases hs
  | box t cs =>
    obtain ⟨b, vs, h1, h2, h3, h4⟩ := h
    exact ⟨b, vs, h1, (FzL.keep (Keeps.sub hO) (h2.fz hs)).den ν', h3, h4⟩
  | row e sz es => exact a5L hO h
  | map s es => exact h
theorem c0V {r r' : Res} (hs : r.shut = true) {x : Value} {b : Nat} (h : fp r' x b) : fp r x b := by
  cases r <;> cases r' <;> first | exact False.elim h | exact h | (cases hs; done)
def at0 (k : Nat) : C -> C
  | .mp 0 => .mp k
  | .bp 0 o => .bp k o
  | .rv 0 => .rv k
  | .bnd f (.mp 0) => .bnd f (.mp k)
  | c => c
def okA : C -> Bool
  | .mp 0 => true
  | .bp 0 _ => true
  | .rv 0 => true
  | .bnd _ (.mp 0) => true
  | c => c.cl
theorem c1p {ν : List Value} {w : World} {O O' : Nat -> Prop} {k : Nat} {x : Value} (hk : ν[k]? = some x) (hO : ∀ b, O' b -> O b) {c : C} {y : Value} (hc : okA c = true) (h : Den ν w O (at0 k c) y) : Den [x] w O' c y := by
  unfold okA at hc
  split at hc
  · simp only [at0, Den] at h ⊢
    rw [hk] at h
    exact h
  · simp only [at0, Den] at h ⊢
    rw [hk] at h
    exact h
  · simp only [at0, Den] at h ⊢
    rw [hk] at h
    exact h
  · simp only [at0, Den] at h ⊢
    rw [hk] at h
    exact h
  · rename_i c0 h1 h2 h3 h4
    have e : at0 k c = c := by
      cases c with
      | mp j => cases j with
        | zero => exact (h1 rfl).elim
        | succ j => rfl
      | bp j o => cases j with
        | zero => exact (h2 _ rfl).elim
        | succ j => rfl
      | rv j => cases j with
        | zero => exact (h3 rfl).elim
        | succ j => rfl
      | bnd g d => cases d with
        | mp j => cases j with
          | zero => exact (h4 _ rfl).elim
          | succ j => rfl
        | _ => rfl
      | _ => rfl
    rw [e] at h
    exact (Fz.keep (Keeps.sub hO) (h.fz hc)).den _
theorem b2F {ν : List Value} {w : World} {O O' : Nat -> Prop} {k : Nat} {x : Value} (hk : ν[k]? = some x) (hO : ∀ b, O' b -> O b) : ∀ {cs : List C} {vs : List Value}, cs.all okA = true -> j5 ν w O (cs.map (at0 k)) vs -> j5 [x] w O' cs vs
  | [], vs, _, h => by simpa only [List.map_nil, j5] using h
  | c :: cs, vs, hc, h => by
    simp only [List.map_cons, j5, List.all_cons, Bool.and_eq_true] at h hc ⊢
    obtain ⟨y, ys, e, h1, h2⟩ := h
    exact ⟨y, ys, e, c1p hk hO hc.1 h1, b2F hk hO hc.2 h2⟩
theorem j6.lift {E : Ctx} {rs : List Res} {k f : Nat} {args : List C} {s : C} {r r' : Res} (hk : rs[k]? = some r) (h : j6 E [r] f args s [r'] []) (hs : (r.shut && r'.shut) = true) (ha : args.all okA = true) (hc : s.cl = true) : j6 E rs f (args.map (at0 k)) s (rs.set k r') [] := by
  rw [Bool.and_eq_true] at hs
  intro av ν w vs hR hav hF hD
  obtain ⟨x, hx, hok⟩ := hR.res k r hk
  have hown : ∀ b, fp r x b -> owned rs ν b := fun b hb => ⟨k, r, x, hk, hx, hb⟩
  have ho1 : ∀ (q : Res) b, owned [q] [x] b <-> fp q x b := fun q b => by
    constructor
    · rintro ⟨l, q', y, h1, h2, h3⟩
      cases l with
      | zero => simp at h1 h2; subst h1 h2; exact h3
      | succ l => simp at h1
    · exact fun hb => ⟨0, q, x, rfl, rfl, hb⟩
  let av' : Nat -> Prop := fun b => OO av rs ν b /\ ¬ fp r x b
  have hOO : ∀ b, OO av' [r] [x] b -> OO av rs ν b := fun b hb => by
    rcases hb with hb | hb
    · exact hb.1
    · exact .inr (hown b ((ho1 r b).1 hb))
  have hRG : RG av' E.p9 E.w0.heap.size [x] [r] w := by
    refine ⟨rfl, fun l q hq => ?_, fun l m q q' y y' b hne h1 h2 => ?_, fun b hb => ?_, fun b hb => ?_, hR.n0⟩
    · cases l with
      | zero => simp at hq; subst hq; exact ⟨x, rfl, a5N hs.1 hOO hok⟩
      | succ l => simp at hq
    · have e1 : l = 0 := by have := (List.getElem?_eq_some_iff.1 h1).1; simp at this; exact this
      have e2 : m = 0 := by have := (List.getElem?_eq_some_iff.1 h2).1; simp at this; exact this
      omega
    · have hb' := (ho1 r b).1 hb
      obtain ⟨g1, g2, g3⟩ := hR.low b (hown b hb')
      exact ⟨g1, fun h => h.2 hb', g3⟩
    · rcases hb.1 with h1 | h1
      · exact hR.av b h1
      · exact (hR.low b h1).1
  have hav' : ∀ b, E.av b -> av' b := fun b hb => ⟨.inl (hav b hb), fun hf => (hR.low b (hown b hf)).2.1 (hav b hb)⟩
  have hD' : j5 [x] w (OO av' [r] [x]) args vs := b2F hx hOO ha hD
  refine (h av' [x] w vs hRG hav' hF hD').mono ?_
  rintro e w' ⟨y, ν', rfl, h1, h2, h3⟩
  have hν : ν' = [x] := by
    have hl := h1.len
    have h0 := h2.nu 0 x (fun hm => by cases hm) rfl
    match ν', hl, h0 with
    | [z], _, h0 => simp at h0; rw [h0]
  subst hν
  have hT : Turned w w' (fp r x) := ⟨h2.os, h2.tape, h2.output, h2.size, fun b hb hn => h2.block b hb fun ho => hn ((ho1 r b).1 ho)⟩
  have hOO' : ∀ b, OO av (rs.set k r') ν b -> OO av' [r'] [x] b := fun b hb => by
    rcases hb with hb | ⟨l, q, z, hq, hz, hf⟩
    · exact .inl ⟨.inl hb, fun hf => (hR.low b (hown b hf)).2.1 hb⟩
    · by_cases e : k = l
      · subst e
        have hkl := (List.getElem?_eq_some_iff.1 hk).1
        rw [List.getElem?_set_self hkl] at hq
        rw [hx] at hz
        cases hq
        cases hz
        exact .inr ((ho1 r' b).2 hf)
      · rw [List.getElem?_set_ne e] at hq
        exact .inl ⟨.inr ⟨l, q, z, hq, hz, hf⟩, fun hf' => hR.dis k l r q x z b e hk hq hx hz hf' hf⟩
  have hup := hR.upd (r' := r') hk hx hT (fun b hb => c0V hs.1 hb) (fun _ => by
    obtain ⟨x', hx', hok'⟩ := h1.res 0 r' rfl
    simp at hx'
    subst hx'
    exact a5N hs.2 hOO' hok')
  exact ⟨y, ν, rfl, hup.1, hup.2, (Fz.keep (Keeps.sub hOO') (h3.fz hc)).den ν⟩
def Res.bdr (n : Nat) : Res -> Bool
  | .box _ cs => C.bdL n cs
  | _ => true
theorem b8w {ν : List Value} {w : World} {O O' : Nat -> Prop} {x : Value} {r : Res} {n : Nat} (hs : r.bdr n = true) (hO : ∀ b, O' b -> O b) (h : L8 ν w O x r) : L8 (ν.take n) w O' x r := by
  cases r with
  | gone => exact h
  | box t cs =>
    obtain ⟨b, vs, h1, h2, h3, h4⟩ := h
    exact ⟨b, vs, h1, j5.keep (Keeps.sub hO) (j5.takeν n hs h2), h3, h4⟩
  | row e sz es => exact a5L hO h
  | map s es => exact h
theorem c0h {ν ν' : List Value} {w : World} {O O' : Nat -> Prop} {x : Value} {r : Res} (hn : U3 [] ν ν') (hO : ∀ b, O' b -> O b) (h : L8 ν w O x r) : L8 ν' w O' x r := by
  cases r with
  | gone => exact h
  | box t cs =>
    obtain ⟨b, vs, h1, h2, h3, h4⟩ := h
    exact ⟨b, vs, h1, j5.keep (Keeps.sub hO) (j5.nu hn (fun k hk => by cases hk) h2), h3, h4⟩
  | row e sz es => exact a5L hO h
  | map s es => exact h
theorem U3.take (ν : List Value) (n : Nat) : U3 [] (ν.take n) ν := fun _ _ _ h => V4 h
theorem c3j {ν ν' : List Value} (h : U3 [] ν ν') (hl : ν'.length = ν.length) : ν' = ν := by
  apply List.ext_getElem?
  intro i
  rcases Nat.lt_or_ge i ν.length with h1 | h1
  · have := h i _ (fun hk => by cases hk) (List.getElem?_eq_getElem h1)
    rw [this, List.getElem?_eq_getElem h1]
  · rw [List.getElem?_eq_none h1, List.getElem?_eq_none (by omega)]
theorem a3f {rs ext : List Res} {ν : List Value} (hl : ν.length = (rs ++ ext).length) (b : Nat) : owned (rs ++ ext) ν b <-> owned rs (ν.take rs.length) b \/ ∃ k r x, ext[k]? = some r /\ ν[rs.length + k]? = some x /\ fp r x b := by
  constructor
  · rintro ⟨k, r, x, h1, h2, h3⟩
    rcases Nat.lt_or_ge k rs.length with h | h
    · rw [List.getElem?_append_left h] at h1
      exact .inl ⟨k, r, x, h1, J8 h h2, h3⟩
    · rw [List.getElem?_append_right h] at h1
      exact .inr ⟨k - rs.length, r, x, h1, by rw [show rs.length + (k - rs.length) = k by omega]; exact h2, h3⟩
  · rintro (⟨k, r, x, h1, h2, h3⟩ | ⟨k, r, x, h1, h2, h3⟩)
    · have h := (List.getElem?_eq_some_iff.1 h1).1
      exact ⟨k, r, x, by rw [List.getElem?_append_left h]; exact h1, V4 h2, h3⟩
    · exact ⟨rs.length + k, r, x, by rw [List.getElem?_append_right (by omega), show rs.length + k - rs.length = k by omega]; exact h1, h2, h3⟩
theorem j6.ext {E : Ctx} {rs rs' : List Res} (ex : List Res) {f : Nat} {args : List C} {s : C} (h : j6 E rs f args s rs' []) (hl : rs'.length = rs.length) (hb : rs.all (Res.bdr rs.length) = true) (ha : C.bdL rs.length args = true) : j6 E (rs ++ ex) f args s (rs' ++ ex) [] := by
  intro av ν w vs hR hav hF hD
  have hlen := hR.len
  have hl1 : (ν.take rs.length).length = rs.length := by rw [List.length_take, hlen, List.length_append]; omega
  generalize hν1 : ν.take rs.length = ν1 at hl1
  have hown := fun b => a3f hlen b
  rw [hν1] at hown
  have hx : ∀ b k r x, ex[k]? = some r -> ν[rs.length + k]? = some x -> fp r x b -> ¬ owned rs ν1 b := by
    rintro b k r x h1 h2 h3 ⟨l, q, y, g1, g2, g3⟩
    have hlt := (List.getElem?_eq_some_iff.1 g1).1
    rw [<- hν1] at g2
    exact hR.dis l (rs.length + k) q r y x b (by omega) (by rw [List.getElem?_append_left hlt]; exact g1) (by rw [List.getElem?_append_right (by omega), show rs.length + k - rs.length = k by omega]; exact h1) (V4 g2) h2 g3 h3
  let av' : Nat -> Prop := fun b => OO av (rs ++ ex) ν b /\ ¬ owned rs ν1 b
  have hOO : ∀ b, OO av' rs ν1 b -> OO av (rs ++ ex) ν b := fun b hb => by
    rcases hb with hb | hb
    · exact hb.1
    · exact .inr ((hown b).2 (.inl hb))
  have hRG : RG av' E.p9 E.w0.heap.size ν1 rs w := by
    refine ⟨hl1, fun k r hk => ?_, fun l m q q' y y' b hne h1 h2 h3 h4 => ?_, fun b hb => ?_, fun b hb => ?_, hR.n0⟩
    · have hlt := (List.getElem?_eq_some_iff.1 hk).1
      obtain ⟨x, hx, hok⟩ := hR.res k r (by rw [List.getElem?_append_left hlt]; exact hk)
      refine ⟨x, by rw [<- hν1]; exact J8 hlt hx, ?_⟩
      rw [<- hν1]
      rw [List.all_eq_true] at hb
      exact b8w (hb r (List.mem_of_getElem? hk)) (by rw [hν1]; exact hOO) hok
    · have g1 := (List.getElem?_eq_some_iff.1 h1).1
      have g2 := (List.getElem?_eq_some_iff.1 h2).1
      rw [<- hν1] at h3 h4
      exact hR.dis l m q q' y y' b hne (by rw [List.getElem?_append_left g1]; exact h1) (by rw [List.getElem?_append_left g2]; exact h2) (V4 h3) (V4 h4)
    · obtain ⟨g1, g2, g3⟩ := hR.low b ((hown b).2 (.inl hb))
      exact ⟨g1, fun h => h.2 hb, g3⟩
    · rcases hb.1 with h1 | h1
      · exact hR.av b h1
      · exact (hR.low b h1).1
  have hnav : ∀ b, av b -> ¬ owned rs ν1 b := fun b hb ho => (hR.low b ((hown b).2 (.inl ho))).2.1 hb
  have hD' : j5 ν1 w (OO av' rs ν1) args vs := by
    have := j5.keep (Keeps.sub hOO) (j5.takeν rs.length ha hD)
    rwa [hν1] at this
  refine (h av' ν1 w vs hRG (fun b hb => ⟨.inl (hav b hb), hnav b (hav b hb)⟩) hF hD').mono ?_
  rintro e w' ⟨y, ν', rfl, h1, h2, h3⟩
  have hν' : ν' = ν1 := c3j h2.nu (by rw [h1.len, hl, hl1])
  subst hν'
  have hlen' : ν.length = (rs' ++ ex).length := by rw [hlen, List.length_append, List.length_append, hl]
  have hν1' : ν.take rs'.length = ν' := by rw [hl]; exact hν1
  have hown' := fun b => a3f hlen' b
  rw [hν1', hl] at hown'
  have hnu : U3 [] ν' ν := by rw [<- hν1]; exact U3.take ν _
  have hxo : ∀ b k r x, ex[k]? = some r -> ν[rs.length + k]? = some x -> fp r x b -> owned (rs ++ ex) ν b := fun b k r x g1 g2 g3 => (hown b).2 (.inr ⟨k, r, x, g1, g2, g3⟩)
  have hOO' : ∀ b, OO av (rs' ++ ex) ν b -> OO av' rs' ν' b := fun b hb => by
    rcases hb with hb | hb
    · exact .inl ⟨.inl hb, hnav b hb⟩
    · rcases (hown' b).1 hb with hb | ⟨k, r, x, g1, g2, g3⟩
      · exact .inr hb
      · exact .inl ⟨.inr (hxo b k r x g1 g2 g3), hx b k r x g1 g2 g3⟩
  have hM : Mv (rs ++ ex) ν w [] (rs' ++ ex) ν w' := by
    refine ⟨h2.os, h2.tape, h2.output, h2.size, fun b hb hn => h2.block b hb fun ho => hn ((hown b).2 (.inl ho)), fun b hb => ?_, fun _ _ _ h => h⟩
    rcases (hown' b).1 hb with hb | ⟨k, r, x, g1, g2, g3⟩
    · rcases h2.own b hb with g | g
      · exact .inl ((hown b).2 (.inl g))
      · exact .inr g
    · exact .inl (hxo b k r x g1 g2 g3)
  refine ⟨y, ν, rfl, ⟨hlen', fun k r hk => ?_, fun l m q q' z z' b hne g1 g2 g3 g4 g5 => ?_, fun b hb => ?_, fun b hb => Nat.lt_of_lt_of_le (hR.av b hb) h2.size, Nat.le_trans hR.n0 h2.size⟩, hM, Den.keep (Keeps.sub hOO') (Den.nu hnu (fun k hk => by cases hk) h3)⟩
  · rcases Nat.lt_or_ge k rs'.length with hlt | hge
    · rw [List.getElem?_append_left hlt] at hk
      obtain ⟨x, hx', hok⟩ := h1.res k r hk
      exact ⟨x, hnu k x (fun hk => by cases hk) hx', c0h hnu hOO' hok⟩
    · have hk' : (rs ++ ex)[k]? = some r := by
        rw [List.getElem?_append_right hge] at hk
        rw [List.getElem?_append_right (by omega), <- hl]; exact hk
      obtain ⟨x, hx', hok⟩ := hR.res k r hk'
      refine ⟨x, hx', ?_⟩
      have := hok.mv (O' := OO av (rs' ++ ex) ν) (hM.keeps (av := av)) hM.nu (fun b hf => h2.block b (hR.lt hk' hx' hf) (by
        rw [List.getElem?_append_right hge] at hk
        exact hx b (k - rs'.length) r x hk (by rw [show rs.length + (k - rs'.length) = k by omega]; exact hx') hf))
      rwa [a2u] at this
  · rcases Nat.lt_or_ge l rs'.length with hl1' | hl1' <;> rcases Nat.lt_or_ge m rs'.length with hm1 | hm1
    · rw [List.getElem?_append_left hl1'] at g1
      rw [List.getElem?_append_left hm1] at g2
      have e1 : ν'[l]? = some z := by rw [<- hν1']; exact J8 hl1' g3
      have e2 : ν'[m]? = some z' := by rw [<- hν1']; exact J8 hm1 g4
      exact h1.dis l m q q' z z' b hne g1 g2 e1 e2 g5
    · rw [List.getElem?_append_left hl1'] at g1
      rw [List.getElem?_append_right hm1] at g2
      have e1 : ν'[l]? = some z := by rw [<- hν1']; exact J8 hl1' g3
      have g4' : ν[rs.length + (m - rs'.length)]? = some z' := by rw [show rs.length + (m - rs'.length) = m by omega]; exact g4
      intro hf
      rcases h2.own b ⟨l, q, z, g1, e1, g5⟩ with ho | ho
      · exact hx b _ q' z' g2 g4' hf ho
      · have := (hR.low b (hxo b _ q' z' g2 g4' hf)).1; omega
    · rw [List.getElem?_append_right hl1'] at g1
      rw [List.getElem?_append_left hm1] at g2
      have e2 : ν'[m]? = some z' := by rw [<- hν1']; exact J8 hm1 g4
      have g3' : ν[rs.length + (l - rs'.length)]? = some z := by rw [show rs.length + (l - rs'.length) = l by omega]; exact g3
      intro hf
      rcases h2.own b ⟨m, q', z', g2, e2, hf⟩ with ho | ho
      · exact hx b _ q z g1 g3' g5 ho
      · have := (hR.low b (hxo b _ q z g1 g3' g5)).1; omega
    · rw [List.getElem?_append_right hl1'] at g1
      rw [List.getElem?_append_right hm1] at g2
      exact hR.dis l m q q' z z' b hne (by rw [List.getElem?_append_right (by omega), <- hl]; exact g1) (by rw [List.getElem?_append_right (by omega), <- hl]; exact g2) g3 g4 g5
  · rcases (hown' b).1 hb with hb | ⟨k, r, x, g1, g2, g3⟩
    · obtain ⟨a1, a2, a3⟩ := h1.low b hb
      exact ⟨a1, fun ha => a2 ⟨.inl ha, hnav b ha⟩, a3⟩
    · obtain ⟨a1, a2, a3⟩ := hR.low b (hxo b k r x g1 g2 g3)
      exact ⟨Nat.lt_of_lt_of_le a1 h2.size, a2, a3⟩
theorem j6.b6A {E : Ctx} {rs rs' : List Res} {pk : List Nat} (ex : List Res) {f : Nat} {args : List C} {s : C} (h : j6 E rs f args s rs' pk) (hl : rs'.length = rs.length) (hb : rs.all (Res.bdr rs.length) = true) (ha : C.bdL rs.length args = true) : j6 E (rs ++ ex) f args s (rs' ++ ex.map (Res.A9 pk)) pk := by
  intro av ν w vs hR hav hF hD
  have hlen := hR.len
  have hl1 : (ν.take rs.length).length = rs.length := by rw [List.length_take, hlen, List.length_append]; omega
  generalize hν1 : ν.take rs.length = ν1 at hl1
  have hown := fun b => a3f hlen b
  rw [hν1] at hown
  have hx : ∀ b k r x, ex[k]? = some r -> ν[rs.length + k]? = some x -> fp r x b -> ¬ owned rs ν1 b := by
    rintro b k r x h1 h2 h3 ⟨l, q, y, g1, g2, g3⟩
    have hlt := (List.getElem?_eq_some_iff.1 g1).1
    rw [<- hν1] at g2
    exact hR.dis l (rs.length + k) q r y x b (by omega) (by rw [List.getElem?_append_left hlt]; exact g1) (by rw [List.getElem?_append_right (by omega), show rs.length + k - rs.length = k by omega]; exact h1) (V4 g2) h2 g3 h3
  let av' : Nat -> Prop := fun b => OO av (rs ++ ex) ν b /\ ¬ owned rs ν1 b
  have hOO : ∀ b, OO av' rs ν1 b -> OO av (rs ++ ex) ν b := fun b hb => by
    rcases hb with hb | hb
    · exact hb.1
    · exact .inr ((hown b).2 (.inl hb))
  have hRG : RG av' E.p9 E.w0.heap.size ν1 rs w := by
    refine ⟨hl1, fun k r hk => ?_, fun l m q q' y y' b hne h1 h2 h3 h4 => ?_, fun b hb => ?_, fun b hb => ?_, hR.n0⟩
    · have hlt := (List.getElem?_eq_some_iff.1 hk).1
      obtain ⟨x, hx, hok⟩ := hR.res k r (by rw [List.getElem?_append_left hlt]; exact hk)
      refine ⟨x, by rw [<- hν1]; exact J8 hlt hx, ?_⟩
      rw [<- hν1]
      rw [List.all_eq_true] at hb
      exact b8w (hb r (List.mem_of_getElem? hk)) (by rw [hν1]; exact hOO) hok
    · have g1 := (List.getElem?_eq_some_iff.1 h1).1
      have g2 := (List.getElem?_eq_some_iff.1 h2).1
      rw [<- hν1] at h3 h4
      exact hR.dis l m q q' y y' b hne (by rw [List.getElem?_append_left g1]; exact h1) (by rw [List.getElem?_append_left g2]; exact h2) (V4 h3) (V4 h4)
    · obtain ⟨g1, g2, g3⟩ := hR.low b ((hown b).2 (.inl hb))
      exact ⟨g1, fun h => h.2 hb, g3⟩
    · rcases hb.1 with h1 | h1
      · exact hR.av b h1
      · exact (hR.low b h1).1
  have hnav : ∀ b, av b -> ¬ owned rs ν1 b := fun b hb ho => (hR.low b ((hown b).2 (.inl ho))).2.1 hb
  have hD' : j5 ν1 w (OO av' rs ν1) args vs := by
    have := j5.keep (Keeps.sub hOO) (j5.takeν rs.length ha hD)
    rwa [hν1] at this
  refine (h av' ν1 w vs hRG (fun b hb => ⟨.inl (hav b hb), hnav b (hav b hb)⟩) hF hD').mono ?_
  rintro e w' ⟨y, ν', rfl, h1, h2, h3⟩
  have hl' : ν'.length = rs.length := by rw [h1.len, hl]
  let ν2 : List Value := ν' ++ ν.drop rs.length
  have hdl : (ν.drop rs.length).length = ex.length := by rw [List.length_drop, hlen, List.length_append]; omega
  have hlen' : ν2.length = (rs' ++ ex.map (Res.A9 pk)).length := by rw [List.length_append, List.length_append, hl', hdl, hl, List.length_map]
  have tk : ν2.take rs'.length = ν' := by rw [hl, <- hl']; simp [ν2]
  have tl : ∀ k, ν2[rs.length + k]? = ν[rs.length + k]? := fun k => by
    show (ν' ++ ν.drop rs.length)[rs.length + k]? = _
    rw [List.getElem?_append_right (by omega), hl', show rs.length + k - rs.length = k by omega, List.getElem?_drop]
  have hown' := fun b => a3f hlen' b
  rw [tk, hl] at hown'
  have hnu : U3 [] ν' ν2 := fun k x _ hx => by show (ν' ++ _)[k]? = _; rw [List.getElem?_append_left (List.getElem?_eq_some_iff.1 hx).1]; exact hx
  have hnu2 : U3 pk ν ν2 := fun k x hk hx => by
    rcases Nat.lt_or_ge k rs.length with h0 | h0
    · show (ν' ++ _)[k]? = _
      rw [List.getElem?_append_left (by omega)]
      exact h2.nu k x hk (by rw [<- hν1]; exact J8 h0 hx)
    · have := tl (k - rs.length)
      rw [show rs.length + (k - rs.length) = k by omega] at this
      rw [this]; exact hx
  have hxo : ∀ b k r x, ex[k]? = some r -> ν[rs.length + k]? = some x -> fp r x b -> owned (rs ++ ex) ν b := fun b k r x g1 g2 g3 => (hown b).2 (.inr ⟨k, r, x, g1, g2, g3⟩)
  have hex : ∀ b, (∃ k r x, (ex.map (Res.A9 pk))[k]? = some r /\ ν2[rs.length + k]? = some x /\ fp r x b) -> ∃ k r x, ex[k]? = some r /\ ν[rs.length + k]? = some x /\ fp r x b := by
    rintro b ⟨k, r, x, g1, g2, g3⟩
    rw [List.getElem?_map] at g1
    cases hk : ex[k]? with
    | none => rw [hk] at g1; cases g1
    | some r0 =>
      rw [hk] at g1
      simp only [Option.map_some, Option.some.injEq] at g1
      subst g1
      rw [a0z] at g3
      exact ⟨k, r0, x, hk, by rw [<- tl]; exact g2, g3⟩
  have hOO' : ∀ b, OO av (rs' ++ ex.map (Res.A9 pk)) ν2 b -> OO av' rs' ν' b := fun b hb => by
    rcases hb with hb | hb
    · exact .inl ⟨.inl hb, hnav b hb⟩
    · rcases (hown' b).1 hb with hb | hb
      · exact .inr hb
      · obtain ⟨k, r, x, g1, g2, g3⟩ := hex b hb
        exact .inl ⟨.inr (hxo b k r x g1 g2 g3), hx b k r x g1 g2 g3⟩
  have hM : Mv (rs ++ ex) ν w pk (rs' ++ ex.map (Res.A9 pk)) ν2 w' := by
    refine ⟨h2.os, h2.tape, h2.output, h2.size, fun b hb hn => h2.block b hb fun ho => hn ((hown b).2 (.inl ho)), fun b hb => ?_, hnu2⟩
    rcases (hown' b).1 hb with hb | hb
    · rcases h2.own b hb with g | g
      · exact .inl ((hown b).2 (.inl g))
      · exact .inr g
    · obtain ⟨k, r, x, g1, g2, g3⟩ := hex b hb
      exact .inl (hxo b k r x g1 g2 g3)
  have old : ∀ {l q z}, l < rs'.length -> (rs' ++ ex.map (Res.A9 pk))[l]? = some q -> ν2[l]? = some z -> rs'[l]? = some q /\ ν'[l]? = some z := fun hlt a1 a2 => by
    rw [List.getElem?_append_left hlt] at a1
    exact ⟨a1, by rw [<- tk]; exact J8 hlt a2⟩
  have new : ∀ {l q z b}, rs'.length <= l -> (rs' ++ ex.map (Res.A9 pk))[l]? = some q -> ν2[l]? = some z -> fp q z b -> ∃ q0, ex[l - rs'.length]? = some q0 /\ ν[rs.length + (l - rs'.length)]? = some z /\ fp q0 z b := fun {l q z b} hge a1 a2 a3 => by
    rw [List.getElem?_append_right hge, List.getElem?_map] at a1
    cases hk : ex[l - rs'.length]? with
    | none => rw [hk] at a1; cases a1
    | some q0 =>
      rw [hk] at a1
      simp only [Option.map_some, Option.some.injEq] at a1
      subst a1
      rw [a0z] at a3
      refine ⟨q0, rfl, ?_, a3⟩
      rw [<- tl, show rs.length + (l - rs'.length) = l by omega]; exact a2
  refine ⟨y, ν2, rfl, ⟨hlen', fun k r hk => ?_, fun l m q q' z z' b hne g1 g2 g3 g4 g5 g6 => ?_, fun b hb => ?_, fun b hb => Nat.lt_of_lt_of_le (hR.av b hb) h2.size, Nat.le_trans hR.n0 h2.size⟩, hM, Den.keep (Keeps.sub hOO') (Den.nu hnu (fun k hk => by cases hk) h3)⟩
  · rcases Nat.lt_or_ge k rs'.length with hlt | hge
    · rw [List.getElem?_append_left hlt] at hk
      obtain ⟨x, hx', hok⟩ := h1.res k r hk
      exact ⟨x, hnu k x (fun hk => by cases hk) hx', c0h hnu hOO' hok⟩
    · rw [List.getElem?_append_right hge, List.getElem?_map] at hk
      cases hk0 : ex[k - rs'.length]? with
      | none => rw [hk0] at hk; cases hk
      | some r0 =>
        rw [hk0] at hk
        simp only [Option.map_some, Option.some.injEq] at hk
        subst hk
        have hk' : (rs ++ ex)[k]? = some r0 := by rw [List.getElem?_append_right (by omega), <- hl]; exact hk0
        obtain ⟨x, hx', hok⟩ := hR.res k r0 hk'
        have hx2 : ν[rs.length + (k - rs'.length)]? = some x := by rw [show rs.length + (k - rs'.length) = k by omega]; exact hx'
        refine ⟨x, by have := tl (k - rs'.length); rw [show rs.length + (k - rs'.length) = k by omega] at this; rw [this]; exact hx', ?_⟩
        exact hok.mv (O' := OO av (rs' ++ ex.map (Res.A9 pk)) ν2) (hM.keeps (av := av)) hM.nu (fun b hf => h2.block b (hR.lt hk' hx' hf) (hx b (k - rs'.length) r0 x hk0 hx2 hf))
  · rcases Nat.lt_or_ge l rs'.length with hl2 | hl2 <;> rcases Nat.lt_or_ge m rs'.length with hm2 | hm2
    · obtain ⟨a1, a2⟩ := old hl2 g1 g3
      obtain ⟨a3, a4⟩ := old hm2 g2 g4
      exact h1.dis l m q q' z z' b hne a1 a3 a2 a4 g5 g6
    · obtain ⟨a1, a2⟩ := old hl2 g1 g3
      obtain ⟨q0, a3, a4, a5⟩ := new hm2 g2 g4 g6
      rcases h2.own b ⟨l, q, z, a1, a2, g5⟩ with ho | ho
      · exact hx b _ q0 z' a3 a4 a5 ho
      · have := (hR.low b (hxo b _ q0 z' a3 a4 a5)).1; omega
    · obtain ⟨q0, a1, a2, a5⟩ := new hl2 g1 g3 g5
      obtain ⟨a3, a4⟩ := old hm2 g2 g4
      rcases h2.own b ⟨m, q', z', a3, a4, g6⟩ with ho | ho
      · exact hx b _ q0 z a1 a2 a5 ho
      · have := (hR.low b (hxo b _ q0 z a1 a2 a5)).1; omega
    · obtain ⟨q0, a1, a2, a5⟩ := new hl2 g1 g3 g5
      obtain ⟨q1, a3, a4, a6⟩ := new hm2 g2 g4 g6
      rw [show rs.length + (l - rs'.length) = l by omega] at a2
      rw [show rs.length + (m - rs'.length) = m by omega] at a4
      exact hR.dis l m q0 q1 z z' b hne (by rw [List.getElem?_append_right (by omega), <- hl]; exact a1) (by rw [List.getElem?_append_right (by omega), <- hl]; exact a3) a2 a4 a5 a6
  · rcases (hown' b).1 hb with hb | hb
    · obtain ⟨a1, a2, a3⟩ := h1.low b hb
      exact ⟨a1, fun ha => a2 ⟨.inl ha, hnav b ha⟩, a3⟩
    · obtain ⟨k, r, x, g1, g2, g3⟩ := hex b hb
      obtain ⟨a1, a2, a3⟩ := hR.low b (hxo b k r x g1 g2 g3)
      exact ⟨Nat.lt_of_lt_of_le a1 h2.size, a2, a3⟩
theorem j6.quiet {P : Program} {f : Nat} {args : List C} {s s' : C} {rs' : List Res} (h : ∀ E : Ctx, E.P = P -> j6 E [] f args s rs' []) (hi : Imp rs' [] s s') (hc : s'.cl = true) : l7 P f args s' := by
  intro O w vs hO hA
  have ho0 : ∀ b, ¬ owned [] [] b := fun b ⟨k, r, x, hk, _⟩ => by simp at hk
  have hRG : RG O (fun _ => False) w.heap.size [] [] w := ⟨rfl, fun k r hk => by simp at hk, fun k l r r' x x' b _ hk => by simp at hk, fun b hb => (ho0 b hb).elim, hO, Nat.le_refl _⟩
  have hsub : ∀ b, OO O [] [] b -> O b := fun b hb => hb.elim id fun h => (ho0 b h).elim
  refine (h ⟨P, fun _ => false, 0, w, fun _ => False, O, [], []⟩ rfl O [] w vs hRG (fun b hb => hb) ⟨rfl, rfl, rfl, Nat.le_refl _, fun _ _ _ => rfl⟩ ((FzL.keep (Keeps.sub hsub) hA).den [])).mono ?_
  rintro e w' ⟨y, ν', rfl, h1, h2, h3⟩
  have hC : Cut O rs' [] ν' := Cut.of h1 (by simp [R7])
  have h4 := hi O (fun _ => False) w.heap.size ν' w' y h1 hC h3
  exact ⟨y, rfl, ⟨h2.os, h2.tape, h2.output, h2.size, fun b hb => h2.block b hb (ho0 b)⟩, Fz.keep (Keeps.sub fun b hb => .inl hb) (Den.fz hc h4)⟩
end Go.Proofs.YtogfpjohjphngaaGreatDoor.Eng
namespace Go.Proofs.YtogfpjohjphngaaGreatDoor
open Go Go.RowKit Eng
set_option maxRecDepth 10000
set_option maxHeartbeats 16000000
def nmR (n : Nms) : List (List C) := n.map fun s => [sb s]
theorem c2o (n : Nms) (s : List UInt8) (hn : n.length <= 1099511627776) : l7 Tryz.prog 202 [.sl 1 (nmR n), sb s] (ints (a2n (fun x => decide (s = x)) n)) := by
  refine l7.of (eff := eff) Tryz.func202 (by conv => { lhs; cbv }) (by exact Nat.le_of_ble_eq_true rfl) fun w O => ?_
  simp only [l6, nmR, sb]
  (repeat first | refine uA ?_ | (refine uK ?_ ?_; focus first | omega | (intros; simp_all <;> omega)) | simp (disch := omega) only [go_sem, Nat.reduceBEq, Nat.reduceAdd, ww, List.length_map])
  refine S.loop (X := Nat) (fun i => ⟨[(0, .sl 1 (nmR n)), (1, sb s), (7, ints n.length), (8, ints i)], []⟩) (fun i => i <= n.length /\ ∀ j, j < i -> ∀ x, n[j]? = some x -> decide (s = x) = false) (fun i => n.length - i) 0 ⟨Nat.zero_le _, fun _ h => absurd h (Nat.not_lt_zero _)⟩ (by simp only [nmR, sb]; exact (by (repeat first | refine uA ?_ | (refine ⟨?_, ?_⟩; focus first | rfl | simp [slot]) | rfl | simp))) ?_
  rintro i ⟨hi, hm⟩
  simp only [nmR, sb, ints]
  (repeat first | refine uA ?_ | (refine uK ?_ ?_; focus first | omega | (intros; simp_all <;> omega)) | simp (disch := omega) only [go_sem, Nat.reduceBEq, Nat.reduceAdd, ww])
  (refine uJ rfl (fun hc => ?_) fun hc => ?_)
  · have hgi := List.getElem?_eq_getElem (show i < n.length by omega)
    generalize n[i]'(_) = x at hgi
    (repeat first | refine uA ?_ | (refine uK ?_ ?_; focus first | omega | (intros; simp_all <;> omega)) | simp (disch := omega) only [go_sem, Nat.reduceBEq, Nat.reduceAdd, ww, hgi, Option.map_some, List.length_map, Int.toNat_natCast, a1q])
    refine S.cond rfl (fun hc2 => ?_) (fun hc2 => ?_)
    · rw [a5U (p := fun x => decide (s = x)) hgi hc2 hm]
      (repeat first | refine uA ?_ | (refine uK ?_ ?_; focus first | omega | (intros; simp_all <;> omega)) | simp (disch := omega) only [go_sem, Nat.reduceBEq, Nat.reduceAdd, ww])
      exact S.done (d9.out rfl (Imp.refl rfl) rfl)
    · (repeat first | refine uA ?_ | (refine uK ?_ ?_; focus first | omega | (intros; simp_all <;> omega)) | simp (disch := omega) only [go_sem, Nat.reduceBEq, Nat.reduceAdd, ww])
      refine S.next (i + 1) ⟨by omega, fun j hj y hy => ?_⟩ (by omega) (by (repeat first | refine uA ?_ | (refine ⟨?_, ?_⟩; focus first | rfl | simp [slot]) | rfl | simp))
      rcases Nat.lt_or_ge j i with h1 | h1
      · exact hm j h1 y hy
      · have : j = i := by omega
        subst this
        rw [hgi] at hy
        cases hy
        exact hc2
  · have hi' : i = n.length := by omega
    subst hi'
    rw [a4M hm]
    (repeat first | refine uA ?_ | (refine uK ?_ ?_; focus first | omega | (intros; simp_all <;> omega)) | simp (disch := omega) only [go_sem, Nat.reduceBEq, Nat.reduceAdd, ww])
    exact S.done (d9.out rfl (Imp.refl rfl) rfl)
theorem c0M (n : Nms) (s : List UInt8) : n.any (fun x => decide (s = x)) = n.contains s := by
  rw [Bool.eq_iff_iff, List.any_eq_true, List.contains_iff_mem]
  exact ⟨fun ⟨x, h1, h2⟩ => by rw [of_decide_eq_true h2]; exact h1, fun h => ⟨s, h, by simp⟩⟩
theorem c2x (n : Nms) (s : List UInt8) (hn : n.length <= 1099511627776) : l7 Tryz.prog 99 [.sl 1 (nmR n), sb s] (.v (.bool (n.contains s))) := by
  refine l7.of a1O a1M (by exact Nat.le_of_ble_eq_true rfl) fun w O => ?_
  have h := c2o n s hn
  rw [<- c0M, <- a5Z]
  generalize a2n (fun x => decide (s = x)) n = k at *
  simp only [Y2, l6, TT, II, OA, OB, OC, MM, LL, VV, FF, MG, LG, VG, FG]
  simp only [sb, ints] at *
  (repeat first | refine uA ?_ | (refine uK ?_ ?_; focus first | omega | (intros; simp_all <;> omega)) | simp (disch := omega) only [go_sem, Nat.reduceBEq, Nat.reduceAdd, ww] | (refine uB h ?_ ?_; exact rfl))
  exact S.done (d9.out rfl (Imp.refl rfl) rfl)
def rsR (w : Wk) (n : Nms) : List Res := [.box 31 w.enc, .box 153 [.rv 2], .row 9 1 (nmR n)]
theorem c1j {E : Ctx} (hP : E.P = Tryz.prog) (w : Wk) (n : Nms) (s : List UInt8) (hs : s.length <= 1099511627776) (hn : n.length <= 1000000) :
    j6 E (rsR w n) 98 [sb s, .bp 1 0] (ints (F8 n s).1) (rsR w (F8 n s).2) [2] := by
  obtain ⟨P, eff', N, w0, p9, av0, nu0, pk0⟩ := E
  simp only at hP
  subst hP
  refine j6.of (eff := eff) a6F a6G (by exact Nat.le_of_ble_eq_true rfl) fun w' own av ν hν => ?_
  have hν0 : ν.length <= 3 := by rw [hν]; exact Nat.le_refl _
  have h1 := c1E s hs
  have h2 := c2x n s (by omega)
  have hap : nmR (n ++ [s]) = nmR n ++ [[sb s]] := by simp [nmR]
  unfold F8
  generalize Z6 s = q at *
  generalize n.contains s = c at *
  have hl : (nmR n).length = n.length := by simp [nmR]
  obtain ⟨arms, walls, parts, slots, gates, walk⟩ := w
  simp only [a2B, l6, TT, II, OA, OB, OC, MM, LL, VV, FF, MG, LG, VG, FG]
  simp only [rsR, Wk.enc, ams, wls, pts, sls, gts, sb, ints] at h1 h2 hap ⊢
  (repeat first | refine uA ?_ | (refine uK ?_ ?_; focus first | omega | (intros; simp_all <;> omega)) | simp (disch := omega) only [go_sem, Nat.reduceBEq, Nat.reduceAdd, ww] | (refine uB h1 ?_ ?_; exact rfl))
  refine S.cond rfl (fun hc => ?_) (fun hc => ?_)
  · rw [if_pos (by simpa using hc)]
    (repeat first | refine uA ?_ | (refine uK ?_ ?_; focus first | omega | (intros; simp_all <;> omega)) | simp (disch := omega) only [go_sem, Nat.reduceBEq, Nat.reduceAdd, ww])
    (refine S.done ?_; simp only [D8, x9, go_sem, Nat.reduceBEq, Nat.reduceAdd, Nat.reduceLeDiff, Int.reduceToNat, Int.reducePow]; (repeat (refine ⟨?_, ?_⟩; focus first | trivial | omega | simp)); exact d9.M9 (Imp.refl rfl) (by (repeat first | refine uA ?_ | (refine ⟨?_, ?_⟩; focus first | rfl | simp [slot]) | rfl | simp)) (Nat.le_trans hν0 (by simp)))
  rw [if_neg (by simpa using hc)]
  (repeat first | refine uA ?_ | (refine uK ?_ ?_; focus first | omega | (intros; simp_all <;> omega)) | simp (disch := omega) only [go_sem, Nat.reduceBEq, Nat.reduceAdd, ww] | (refine uC h2 ?_ ?_ ?_; exact rfl; focus (repeat' first | exact p8.nil | exact Imp.refl rfl | exact Imp.frz rfl rfl rfl | (refine Imp.P6 rfl rfl ?_ ?_; (focus ((try simp only [List.length_append]); omega)); (focus first | rfl | assumption)) | refine p8.cons ?_ ?_); done))
  refine S.cond rfl (fun hc => ?_) (fun hc => ?_)
  · rw [if_pos hc]
    (repeat first | refine uA ?_ | (refine uK ?_ ?_; focus first | omega | (intros; simp_all <;> omega)) | simp (disch := omega) only [go_sem, Nat.reduceBEq, Nat.reduceAdd, ww])
    (refine S.done ?_; simp only [D8, x9, go_sem, Nat.reduceBEq, Nat.reduceAdd, Nat.reduceLeDiff, Int.reduceToNat, Int.reducePow]; (repeat (refine ⟨?_, ?_⟩; focus first | trivial | omega | simp)); exact d9.M9 (Imp.refl rfl) (by (repeat first | refine uA ?_ | (refine ⟨?_, ?_⟩; focus first | rfl | simp [slot]) | rfl | simp)) (Nat.le_trans hν0 (by simp)))
  · rw [if_neg (by rw [hc]; decide)]
    simp only [hap]
    (repeat first | refine uA ?_ | (refine uK ?_ ?_; focus first | omega | (intros; simp_all <;> omega)) | simp (disch := omega) only [go_sem, Nat.reduceBEq, Nat.reduceAdd, ww, hl])
    (refine S.done ?_; simp only [D8, x9, go_sem, Nat.reduceBEq, Nat.reduceAdd, Nat.reduceLeDiff, Int.reduceToNat, Int.reducePow]; (repeat (refine ⟨?_, ?_⟩; focus first | trivial | omega | simp)); exact d9.M9 (Imp.refl rfl) (by (repeat first | refine uA ?_ | (refine ⟨?_, ?_⟩; focus first | rfl | simp [slot]) | rfl | simp)) (Nat.le_trans hν0 (by simp)))
theorem a5T (n : Nms) (s : List UInt8) : (F8 n s).2.length <= n.length + 1 := by
  unfold F8
  split
  · simp
  · split
    · simp
    · simp
theorem b5b (p q : Rat) : decide (Nm.E5 p q = 1) = !decide (Nm.E5 p q <= 0) := by
  have h : -1 <= Nm.E5 p q /\ Nm.E5 p q <= 1 := by
    unfold Nm.E5
    repeat' split
    all_goals first
      | omega
      | (have := a9D (p.num.natAbs * q.den) (q.num.natAbs * p.den); omega)
  by_cases h1 : Nm.E5 p q <= 0
  · rw [decide_eq_true h1, decide_eq_false (by omega)]; rfl
  · rw [decide_eq_false h1, decide_eq_true (by omega)]; rfl
theorem b3i (q : Rat) : -1 <= A8 q /\ A8 q <= 1 := by unfold A8; split; omega; split <;> omega
theorem sign_one (q : Rat) : decide (A8 q < 1) = !decide (0 < A8 q) := by
  rw [<- decide_not]; apply decide_eq_decide.2; omega
theorem b7n (q : Rat) : decide (A8 q = -1) = !decide (0 <= A8 q) := by
  have := b3i q
  rw [<- decide_not]; apply decide_eq_decide.2; omega
set_option maxHeartbeats 8000000
def a5e (a : Am) (n : Int) : Int := if N8 a ≠ 0 then N8 a else if n ≠ a.links.length then 1 else 0
theorem c2i (a : Am) (n : Int) (hl : Ab 1073741824 a) : FZ 212 [a.c, ints n] (ints (a5e a n)) := by
  refine q9.of b5I b6F (by exact Nat.le_of_ble_eq_true rfl) fun w O hw => ?_
  have h := b2V a hl
  unfold a5e
  generalize N8 a = e at *
  obtain ⟨name, ⟨x, y, half, t⟩, links⟩ := a
  simp only [a9X, l6, TT, II, OA, OB, OC, MM, LL, VV, FF, MG, LG, VG, FG]
  simp only [Am.c, Am.enc, lks, sb, ints] at *
  (repeat first | refine uA ?_ | (refine uK ?_ ?_; focus first | omega | (intros; simp_all <;> omega)) | simp (disch := omega) only [go_sem, Nat.reduceBEq, Nat.reduceAdd, ww] | (refine uD h ?_ ?_ ?_; exact tz hw; exact rfl))
  refine S.cond rfl (fun hc => ?_) (fun hc => ?_)
  · rw [if_pos (by simpa using hc)]
    (repeat first | refine uA ?_ | (refine uK ?_ ?_; focus first | omega | (intros; simp_all <;> omega)) | simp (disch := omega) only [go_sem, Nat.reduceBEq, Nat.reduceAdd, ww])
    exact S.done (d9.out rfl (Imp.refl rfl) rfl)
  rw [if_neg (by simpa using hc)]
  (repeat first | refine uA ?_ | (refine uK ?_ ?_; focus first | omega | (intros; simp_all <;> omega)) | simp (disch := omega) only [go_sem, Nat.reduceBEq, Nat.reduceAdd, ww, List.length_map])
  refine S.cond rfl (fun hc => ?_) (fun hc => ?_)
  · rw [if_pos (by simpa using hc)]
    (repeat first | refine uA ?_ | (refine uK ?_ ?_; focus first | omega | (intros; simp_all <;> omega)) | simp (disch := omega) only [go_sem, Nat.reduceBEq, Nat.reduceAdd, ww])
    exact S.done (d9.out rfl (Imp.refl rfl) rfl)
  · rw [if_neg (by simpa using hc)]
    (repeat first | refine uA ?_ | (refine uK ?_ ?_; focus first | omega | (intros; simp_all <;> omega)) | simp (disch := omega) only [go_sem, Nat.reduceBEq, Nat.reduceAdd, ww])
    exact S.done (d9.out rfl (Imp.refl rfl) rfl)
def a5f (x : Lk × Nm.Rt) : Int := if Nm.E5 (Nm.j3 x.2) (Nm.j3 x.1.low) < 0 \/ 0 < Nm.E5 (Nm.j3 x.2) (Nm.j3 x.1.high) then 17 else 0
theorem b2d (a : Am) (q : List Nm.Rt) : a1H a q = if a5e a q.length ≠ 0 then a5e a q.length else F4 a5f (a.links.zip q) := by
  unfold a1H a5e
  by_cases h : N8 a = 0
  · rw [if_neg (by simp [h])]
    by_cases h2 : q.length = a.links.length
    · simp [h, h2]; rfl
    · have h3 : ¬ (q.length : Int) = a.links.length := by omega
      simp [h, h2, h3]
  · simp [h]
theorem a5z {α β : Type} {l : List α} {m : List β} {i : Nat} {x : α} {y : β} (h : l[i]? = some x) (k : m[i]? = some y) : (l.zip m)[i]? = some (x, y) := by
  rw [List.getElem?_zip_eq_some]; exact ⟨h, k⟩
theorem b6S (a : Am) (q : List Nm.Rt) (hl : Ab 1073741824 a) (hq : Rbs 1073741824 q) : FZ 141 [a.c, rts q] (ints (a1H a q)) := by
  refine q9.of (eff := eff) Tryz.func141 (by conv => { lhs; cbv }) (by exact Nat.le_of_ble_eq_true rfl) fun w O hw => ?_
  have h := c2i a q.length hl
  rw [b2d]
  have hlen : a5e a q.length = 0 -> q.length = a.links.length := by
    unfold a5e
    intro h
    split at h
    · rename_i h1; exact absurd h h1
    · split at h
      · cases h
      · rename_i h1; have := Classical.not_not.1 h1; omega
  generalize a5e a q.length = e at *
  obtain ⟨hqn, hqb⟩ := hq
  obtain ⟨name, ⟨x, y, half, t⟩, links⟩ := a
  obtain ⟨b0, ⟨b1, b2, b3⟩, hn, hb⟩ := hl
  simp only at b0 b1 b2 b3 hn hb hlen
  simp only [l6]
  simp only [Am.c, Am.enc, lks, sb, ints, rts] at *
  (repeat first | refine uA ?_ | (refine uK ?_ ?_; focus first | omega | (intros; simp_all <;> omega)) | simp (disch := omega) only [go_sem, Nat.reduceBEq, Nat.reduceAdd, ww, List.length_map] | (refine uD h ?_ ?_ ?_; exact tz hw; exact rfl))
  refine S.cond rfl (fun hc => ?_) (fun hc => ?_)
  · rw [if_pos (by simpa using hc)]
    (repeat first | refine uA ?_ | (refine uK ?_ ?_; focus first | omega | (intros; simp_all <;> omega)) | simp (disch := omega) only [go_sem, Nat.reduceBEq, Nat.reduceAdd, ww])
    exact S.done (d9.out rfl (Imp.refl rfl) rfl)
  rw [if_neg (by simpa using hc)]
  have hlen := hlen (by simpa using hc)
  (repeat first | refine uA ?_ | (refine uK ?_ ?_; focus first | omega | (intros; simp_all <;> omega)) | simp (disch := omega) only [go_sem, Nat.reduceBEq, Nat.reduceAdd, ww, List.length_map])
  refine S.loop (X := Nat) (fun i => ⟨[(1, rts q), (16, lks links), (17, ints links.length), (18, ints i)], []⟩) (fun i => i <= links.length /\ F4 a5f (links.zip q) = F4 a5f ((links.zip q).drop i)) (fun i => links.length - i) 0 ⟨Nat.zero_le _, rfl⟩ (by (repeat first | refine uA ?_ | (refine ⟨?_, ?_⟩; focus first | rfl | simp [slot]) | rfl | simp)) ?_
  rintro i ⟨hi, hg⟩
  simp only [rts, lks, ints]
  (repeat first | refine uA ?_ | (refine uK ?_ ?_; focus first | omega | (intros; simp_all <;> omega)) | simp (disch := omega) only [go_sem, Nat.reduceBEq, Nat.reduceAdd, ww])
  (refine uJ rfl (fun hc => ?_) fun hc => ?_)
  · have hi' : i < links.length := by omega
    have hgi := List.getElem?_eq_getElem hi'
    have hgq := List.getElem?_eq_getElem (show i < q.length by omega)
    generalize links[i] = x at hgi
    generalize q[i]'_ = v at hgq
    have hz := a5z hgi hgq
    have hst := a0f (f := a5f) hz
    have hnx := a0k (f := a5f) hz
    have bx := hb x (List.mem_of_getElem? hgi)
    have bv := (hqb v (List.mem_of_getElem? hgq)).mono (m := 17179869184) (by decide)
    have h1 := a0J v x.low bv (bx.2.1.mono (by decide))
    have h2 := a0J v x.high bv (bx.2.2.1.mono (by decide))
    unfold a5f at hst hnx
    simp only at hst hnx
    generalize Nm.E5 (Nm.j3 v) (Nm.j3 x.low) = n1 at *
    generalize Nm.E5 (Nm.j3 v) (Nm.j3 x.high) = n2 at *
    have hqi : (i : Int) < q.length := by omega
    simp only [rc, sb, ints] at h1 h2
    (repeat first | refine uA ?_ | (refine uK ?_ ?_; focus first | omega | (intros; simp_all <;> omega)) | simp (disch := omega) only [go_sem, Nat.reduceBEq, Nat.reduceAdd, ww, hgi, hgq, Option.map_some, List.length_map, Lk.enc, rcs, vts, sb, Int.toNat_natCast] | (refine uD h1 ?_ ?_ ?_; exact tz hw; exact rfl) | (refine uD h2 ?_ ?_ ?_; exact tz hw; exact rfl))
    refine S.cond rfl (fun hc2 => ?_) (fun hc2 => ?_)
    · have hp : n1 < 0 \/ 0 < n2 := by simpa using hc2
      rw [if_pos hp] at hst
      rw [hg, show a5f = fun x : Lk × Nm.Rt => if Nm.E5 (Nm.j3 x.2) (Nm.j3 x.1.low) < 0 \/ 0 < Nm.E5 (Nm.j3 x.2) (Nm.j3 x.1.high) then 17 else 0 from rfl, hst (by decide)]
      (repeat first | refine uA ?_ | (refine uK ?_ ?_; focus first | omega | (intros; simp_all <;> omega)) | simp (disch := omega) only [go_sem, Nat.reduceBEq, Nat.reduceAdd, ww])
      exact S.done (d9.out rfl (Imp.refl rfl) rfl)
    · have hp : ¬ (n1 < 0 \/ 0 < n2) := by simpa using hc2
      rw [if_neg hp] at hnx
      (repeat first | refine uA ?_ | (refine uK ?_ ?_; focus first | omega | (intros; simp_all <;> omega)) | simp (disch := omega) only [go_sem, Nat.reduceBEq, Nat.reduceAdd, ww])
      refine S.next (i + 1) ⟨by omega, ?_⟩ (by omega) (by (repeat first | refine uA ?_ | (refine ⟨?_, ?_⟩; focus first | rfl | simp [slot]) | rfl | simp))
      rw [hg, show a5f = fun x : Lk × Nm.Rt => if Nm.E5 (Nm.j3 x.2) (Nm.j3 x.1.low) < 0 \/ 0 < Nm.E5 (Nm.j3 x.2) (Nm.j3 x.1.high) then 17 else 0 from rfl, hnx rfl]
  · rw [hg, a0H (by rw [List.length_zip]; omega)]
    (repeat first | refine uA ?_ | (refine uK ?_ ?_; focus first | omega | (intros; simp_all <;> omega)) | simp (disch := omega) only [go_sem, Nat.reduceBEq, Nat.reduceAdd, ww])
    exact S.done (d9.out rfl (Imp.refl rfl) rfl)
theorem c2R (n : Nms) (s : List UInt8) : (a0X (.string (bs s)) (nmE n)).getD (.bool false) = .bool (n.contains s) := by
  rw [c1k]; cases n.contains s <;> rfl
theorem b1V {E : Ctx} (hP : E.P = Tryz.prog) (n : Nms) (s : List UInt8) (hs : s.length <= 1099511627776) :
    j6 E [.map true (nmE n)] 88 [.mp 0, sb s] (ints (F8 n s).1) [.map true (nmE (F8 n s).2)] [] := by
  obtain ⟨P, eff', N, w0, p9, av0, nu0, pk0⟩ := E
  simp only at hP
  subst hP
  refine j6.of (eff := eff) a6P a7a (by exact Nat.le_of_ble_eq_true rfl) fun w own av ν hν => ?_
  have hν0 : ν.length <= 1 := by rw [hν]; exact Nat.le_refl _
  have h1 := c1y s hs
  have hk := c2R n s
  have hp := c1L n s
  unfold F8
  generalize Z6 s = q at *
  generalize n.contains s = c at *
  simp only [a3s, l6, TT, II, OA, OB, OC, MM, LL, VV, FF, MG, LG, VG, FG]
  simp only [sb, ints] at *
  (repeat first | refine uA ?_ | (refine uK ?_ ?_; focus first | omega | (intros; simp_all <;> omega)) | simp (disch := omega) only [go_sem, Nat.reduceBEq, Nat.reduceAdd, ww] | (refine uB h1 ?_ ?_; exact rfl))
  refine S.cond rfl (fun hc => ?_) (fun hc => ?_)
  · rw [if_pos (by simpa using hc)]
    (repeat first | refine uA ?_ | (refine uK ?_ ?_; focus first | omega | (intros; simp_all <;> omega)) | simp (disch := omega) only [go_sem, Nat.reduceBEq, Nat.reduceAdd, ww])
    (refine S.done ?_; simp only [D8, x9, go_sem, Nat.reduceBEq, Nat.reduceAdd, Nat.reduceLeDiff, Int.reduceToNat, Int.reducePow]; (repeat (refine ⟨?_, ?_⟩; focus first | trivial | omega | simp)); exact d9.M9 (Imp.refl rfl) (by (repeat first | refine uA ?_ | (refine ⟨?_, ?_⟩; focus first | rfl | simp [slot]) | rfl | simp)) (Nat.le_trans hν0 (by simp)))
  rw [if_neg (by simpa using hc)]
  (repeat first | refine uA ?_ | (refine uK ?_ ?_; focus first | omega | (intros; simp_all <;> omega)) | simp (disch := omega) only [go_sem, Nat.reduceBEq, Nat.reduceAdd, ww, hk])
  refine S.cond rfl (fun hc => ?_) (fun hc => ?_)
  · rw [if_pos hc]
    (repeat first | refine uA ?_ | (refine uK ?_ ?_; focus first | omega | (intros; simp_all <;> omega)) | simp (disch := omega) only [go_sem, Nat.reduceBEq, Nat.reduceAdd, ww])
    (refine S.done ?_; simp only [D8, x9, go_sem, Nat.reduceBEq, Nat.reduceAdd, Nat.reduceLeDiff, Int.reduceToNat, Int.reducePow]; (repeat (refine ⟨?_, ?_⟩; focus first | trivial | omega | simp)); exact d9.M9 (Imp.refl rfl) (by (repeat first | refine uA ?_ | (refine ⟨?_, ?_⟩; focus first | rfl | simp [slot]) | rfl | simp)) (Nat.le_trans hν0 (by simp)))
  · rw [if_neg (by rw [hc]; decide)]
    have hp := hp hc
    (repeat first | refine uA ?_ | (refine uK ?_ ?_; focus first | omega | (intros; simp_all <;> omega)) | simp (disch := omega) only [go_sem, Nat.reduceBEq, Nat.reduceAdd, ww, hp])
    (refine S.done ?_; simp only [D8, x9, go_sem, Nat.reduceBEq, Nat.reduceAdd, Nat.reduceLeDiff, Int.reduceToNat, Int.reducePow]; (repeat (refine ⟨?_, ?_⟩; focus first | trivial | omega | simp)); exact d9.M9 (Imp.refl rfl) (by (repeat first | refine uA ?_ | (refine ⟨?_, ?_⟩; focus first | rfl | simp [slot]) | rfl | simp)) (Nat.le_trans hν0 (by simp)))
theorem c2z {E : Ctx} (hP : E.P = Tryz.prog) (ht0 : Tz E) (n : Nms) (p : Pt) (hb : Pb 1073741824 p) :
    j6 E [.map true (nmE n)] 93 [.mp 0, p.c] (ints (R9 n p).1) [.map true (nmE (R9 n p).2)] [] := by
  obtain ⟨P, eff', N, w0, p9, av0, nu0, pk0⟩ := E
  simp only at hP
  subst hP
  refine j6.ofT (eff := eff) ht0 Tryz.func93 (by conv => { lhs; cbv }) (by exact Nat.le_of_ble_eq_true rfl) fun w own av ν hν ht => ?_
  have hν0 : ν.length <= 1 := by rw [hν]; exact Nat.le_refl _
  obtain ⟨name, shape, ⟨x, y, half, t⟩⟩ := p
  obtain ⟨b0, b1, b2, b3, b4⟩ := hb
  simp only at b0 b1 b2 b3 b4
  have h1 := fun (E : Ctx) (hP : E.P = Tryz.prog) => b1V hP n name (by omega)
  have h2 := b1Y shape b1
  have h3 := b2v ⟨x, y, half, t⟩ ⟨b2.mono (by decide), b3.mono (by decide), b4.mono (by decide)⟩
  unfold R9
  simp only
  generalize F8 n name = r at *
  obtain ⟨e1, m⟩ := r
  generalize G6 shape = e2 at *
  generalize okF ⟨x, y, half, t⟩ = q at *
  simp only [l6]
  simp only [Pt.c, Pt.enc, Fr.c, Fr.enc, vts, sb, ints] at *
  (repeat first | refine uA ?_ | (refine uK ?_ ?_; focus first | omega | (intros; simp_all <;> omega)) | simp (disch := omega) only [go_sem, Nat.reduceBEq, Nat.reduceAdd, ww] | refine l9.t (j6.lift (k := 0) rfl (h1 _ rfl) rfl rfl rfl) ?_)
  refine S.cond rfl (fun hc => ?_) (fun hc => ?_)
  · rw [if_pos (by simpa using hc)]
    (repeat first | refine uA ?_ | (refine uK ?_ ?_; focus first | omega | (intros; simp_all <;> omega)) | simp (disch := omega) only [go_sem, Nat.reduceBEq, Nat.reduceAdd, ww])
    (refine S.done ?_; simp only [D8, x9, go_sem, Nat.reduceBEq, Nat.reduceAdd, Nat.reduceLeDiff, Int.reduceToNat, Int.reducePow]; (repeat (refine ⟨?_, ?_⟩; focus first | trivial | omega | simp)); exact d9.M9 (Imp.refl rfl) (by (repeat first | refine uA ?_ | (refine ⟨?_, ?_⟩; focus first | rfl | simp [slot]) | rfl | simp)) (Nat.le_trans hν0 (by simp)))
  rw [if_neg (by simpa using hc)]
  (repeat first | refine uA ?_ | (refine uK ?_ ?_; focus first | omega | (intros; simp_all <;> omega)) | simp (disch := omega) only [go_sem, Nat.reduceBEq, Nat.reduceAdd, ww] | (refine uD h2 ?_ ?_ ?_; exact ht; exact rfl))
  refine S.cond rfl (fun hc => ?_) (fun hc => ?_)
  · rw [if_pos (by simpa using hc)]
    (repeat first | refine uA ?_ | (refine uK ?_ ?_; focus first | omega | (intros; simp_all <;> omega)) | simp (disch := omega) only [go_sem, Nat.reduceBEq, Nat.reduceAdd, ww])
    (refine S.done ?_; simp only [D8, x9, go_sem, Nat.reduceBEq, Nat.reduceAdd, Nat.reduceLeDiff, Int.reduceToNat, Int.reducePow]; (repeat (refine ⟨?_, ?_⟩; focus first | trivial | omega | simp)); exact d9.M9 (Imp.refl rfl) (by (repeat first | refine uA ?_ | (refine ⟨?_, ?_⟩; focus first | rfl | simp [slot]) | rfl | simp)) (Nat.le_trans hν0 (by simp)))
  rw [if_neg (by simpa using hc)]
  (repeat first | refine uA ?_ | (refine uK ?_ ?_; focus first | omega | (intros; simp_all <;> omega)) | simp (disch := omega) only [go_sem, Nat.reduceBEq, Nat.reduceAdd, ww] | (refine uD h3 ?_ ?_ ?_; exact ht; exact rfl))
  refine S.cond rfl (fun hc => ?_) (fun hc => ?_)
  · rw [if_neg (by simpa using hc)]
    (repeat first | refine uA ?_ | (refine uK ?_ ?_; focus first | omega | (intros; simp_all <;> omega)) | simp (disch := omega) only [go_sem, Nat.reduceBEq, Nat.reduceAdd, ww])
    (refine S.done ?_; simp only [D8, x9, go_sem, Nat.reduceBEq, Nat.reduceAdd, Nat.reduceLeDiff, Int.reduceToNat, Int.reducePow]; (repeat (refine ⟨?_, ?_⟩; focus first | trivial | omega | simp)); exact d9.M9 (Imp.refl rfl) (by (repeat first | refine uA ?_ | (refine ⟨?_, ?_⟩; focus first | rfl | simp [slot]) | rfl | simp)) (Nat.le_trans hν0 (by simp)))
  · rw [if_pos (by simpa using hc)]
    (repeat first | refine uA ?_ | (refine uK ?_ ?_; focus first | omega | (intros; simp_all <;> omega)) | simp (disch := omega) only [go_sem, Nat.reduceBEq, Nat.reduceAdd, ww])
    (refine S.done ?_; simp only [D8, x9, go_sem, Nat.reduceBEq, Nat.reduceAdd, Nat.reduceLeDiff, Int.reduceToNat, Int.reducePow]; (repeat (refine ⟨?_, ?_⟩; focus first | trivial | omega | simp)); exact d9.M9 (Imp.refl rfl) (by (repeat first | refine uA ?_ | (refine ⟨?_, ?_⟩; focus first | rfl | simp [slot]) | rfl | simp)) (Nat.le_trans hν0 (by simp)))
theorem c1R {E : Ctx} (hP : E.P = Tryz.prog) (ht0 : Tz E) (n : Nms) (s : Sl) (hb : Sb 1073741824 s) :
    j6 E [.map true (nmE n)] 95 [.mp 0, s.c] (ints (P5 n s).1) [.map true (nmE (P5 n s).2)] [] := by
  obtain ⟨P, eff', N, w0, p9, av0, nu0, pk0⟩ := E
  simp only at hP
  subst hP
  refine j6.ofT (eff := eff) ht0 Tryz.func95 (by conv => { lhs; cbv }) (by exact Nat.le_of_ble_eq_true rfl) fun w own av ν hν ht => ?_
  have hν0 : ν.length <= 1 := by rw [hν]; exact Nat.le_refl _
  obtain ⟨name, ⟨x, y, half, t⟩, within⟩ := s
  obtain ⟨b0, ⟨b2, b3, b4⟩, b5⟩ := hb
  simp only at b0 b2 b3 b4 b5
  have h1 := fun (E : Ctx) (hP : E.P = Tryz.prog) => b1V hP n name (by omega)
  have h3 := b2v ⟨x, y, half, t⟩ ⟨b2.mono (by decide), b3.mono (by decide), b4.mono (by decide)⟩
  have h4 := a1x within (b5.mono (by decide))
  have h5 := a2Q within (b5.mono (by decide))
  have h6 := O3 within (b5.mono (by decide))
  unfold P5
  simp only
  generalize F8 n name = r at *
  obtain ⟨e1, m⟩ := r
  generalize okF ⟨x, y, half, t⟩ = q1 at *
  generalize decide within.F3 = q2 at *
  generalize j4 within = q3 at *
  generalize A8 (Nm.j3 within) = n4 at *
  simp only [l6]
  simp only [Sl.c, Sl.enc, Fr.c, Fr.enc, vts, rc, sb, ints] at *
  (repeat first | refine uA ?_ | (refine uK ?_ ?_; focus first | omega | (intros; simp_all <;> omega)) | simp (disch := omega) only [go_sem, Nat.reduceBEq, Nat.reduceAdd, ww] | refine l9.t (j6.lift (k := 0) rfl (h1 _ rfl) rfl rfl rfl) ?_)
  refine S.cond rfl (fun hc => ?_) (fun hc => ?_)
  · rw [if_pos (by simpa using hc)]
    (repeat first | refine uA ?_ | (refine uK ?_ ?_; focus first | omega | (intros; simp_all <;> omega)) | simp (disch := omega) only [go_sem, Nat.reduceBEq, Nat.reduceAdd, ww])
    (refine S.done ?_; simp only [D8, x9, go_sem, Nat.reduceBEq, Nat.reduceAdd, Nat.reduceLeDiff, Int.reduceToNat, Int.reducePow]; (repeat (refine ⟨?_, ?_⟩; focus first | trivial | omega | simp)); exact d9.M9 (Imp.refl rfl) (by (repeat first | refine uA ?_ | (refine ⟨?_, ?_⟩; focus first | rfl | simp [slot]) | rfl | simp)) (Nat.le_trans hν0 (by simp)))
  rw [if_neg (by simpa using hc)]
  (repeat first | refine uA ?_ | (refine uK ?_ ?_; focus first | omega | (intros; simp_all <;> omega)) | simp (disch := omega) only [go_sem, Nat.reduceBEq, Nat.reduceAdd, ww] | (refine uD h3 ?_ ?_ ?_; exact ht; exact rfl) | (refine uD h4 ?_ ?_ ?_; exact ht; exact rfl) | (refine uD h5 ?_ ?_ ?_; exact ht; exact rfl) | (refine uD h6 ?_ ?_ ?_; exact ht; exact rfl))
  refine S.cond rfl (fun hc => ?_) (fun hc => ?_)
  · rw [if_neg (by simp only [Bool.or_eq_true, Bool.not_eq_true', decide_eq_true_eq] at hc; simp only [Bool.and_eq_true, decide_eq_true_eq]; rintro ⟨⟨⟨h7, h8⟩, h9⟩, h10⟩; rcases hc with ((hc | hc) | hc) | hc <;> first | (rw [hc] at h7; cases h7; done) | (rw [hc] at h8; cases h8; done) | (rw [hc] at h9; cases h9; done) | omega)]
    (repeat first | refine uA ?_ | (refine uK ?_ ?_; focus first | omega | (intros; simp_all <;> omega)) | simp (disch := omega) only [go_sem, Nat.reduceBEq, Nat.reduceAdd, ww])
    (refine S.done ?_; simp only [D8, x9, go_sem, Nat.reduceBEq, Nat.reduceAdd, Nat.reduceLeDiff, Int.reduceToNat, Int.reducePow]; (repeat (refine ⟨?_, ?_⟩; focus first | trivial | omega | simp)); exact d9.M9 (Imp.refl rfl) (by (repeat first | refine uA ?_ | (refine ⟨?_, ?_⟩; focus first | rfl | simp [slot]) | rfl | simp)) (Nat.le_trans hν0 (by simp)))
  · rw [if_pos (by simp only [Bool.or_eq_false_iff, Bool.not_eq_false', decide_eq_false_iff_not] at hc; simp only [Bool.and_eq_true, decide_eq_true_eq]; obtain ⟨⟨⟨h7, h8⟩, h9⟩, h10⟩ := hc; exact ⟨⟨⟨h7, h8⟩, h9⟩, by omega⟩)]
    (repeat first | refine uA ?_ | (refine uK ?_ ?_; focus first | omega | (intros; simp_all <;> omega)) | simp (disch := omega) only [go_sem, Nat.reduceBEq, Nat.reduceAdd, ww])
    (refine S.done ?_; simp only [D8, x9, go_sem, Nat.reduceBEq, Nat.reduceAdd, Nat.reduceLeDiff, Int.reduceToNat, Int.reducePow]; (repeat (refine ⟨?_, ?_⟩; focus first | trivial | omega | simp)); exact d9.M9 (Imp.refl rfl) (by (repeat first | refine uA ?_ | (refine ⟨?_, ?_⟩; focus first | rfl | simp [slot]) | rfl | simp)) (Nat.le_trans hν0 (by simp)))
theorem c2n {E : Ctx} (hP : E.P = Tryz.prog) (ht0 : Tz E) (n : Nms) (g : Gt) (hb : Gb 1073741824 g) :
    j6 E [.map true (nmE n)] 97 [.mp 0, g.c] (ints (U8 n g).1) [.map true (nmE (U8 n g).2)] [] := by
  obtain ⟨P, eff', N, w0, p9, av0, nu0, pk0⟩ := E
  simp only at hP
  subst hP
  refine j6.ofT (eff := eff) ht0 Tryz.func97 (by conv => { lhs; cbv }) (by exact Nat.le_of_ble_eq_true rfl) fun w own av ν hν ht => ?_
  have hν0 : ν.length <= 1 := by rw [hν]; exact Nat.le_refl _
  obtain ⟨name, ⟨lx, ly⟩, ⟨hx, hy⟩⟩ := g
  obtain ⟨b0, ⟨b1, b2⟩, ⟨b3, b4⟩⟩ := hb
  simp only at b0 b1 b2 b3 b4
  have h1 := fun (E : Ctx) (hP : E.P = Tryz.prog) => b1V hP n name (by omega)
  have h3 := a8B [⟨lx, ly⟩, ⟨hx, hy⟩] (Vbs.two (by decide) ⟨b1.mono (by decide), b2.mono (by decide)⟩ ⟨b3.mono (by decide), b4.mono (by decide)⟩)
  rw [a5H] at h3
  have h4 := a0J lx hx (b1.mono (by decide)) (b3.mono (by decide))
  have h5 := a0J ly hy (b2.mono (by decide)) (b4.mono (by decide))
  unfold U8
  simp only
  generalize F8 n name = r at *
  obtain ⟨e1, m⟩ := r
  generalize (okV ⟨lx, ly⟩ && okV ⟨hx, hy⟩) = q1 at *
  generalize Nm.E5 (Nm.j3 lx) (Nm.j3 hx) = n1 at *
  generalize Nm.E5 (Nm.j3 ly) (Nm.j3 hy) = n2 at *
  simp only [l6]
  simp only [Gt.c, Gt.enc, vts, Vt.enc, rc, sb, ints, List.map_cons, List.map_nil] at *
  (repeat first | refine uA ?_ | (refine uK ?_ ?_; focus first | omega | (intros; simp_all <;> omega)) | simp (disch := omega) only [go_sem, Nat.reduceBEq, Nat.reduceAdd, ww] | refine l9.t (j6.lift (k := 0) rfl (h1 _ rfl) rfl rfl rfl) ?_)
  refine S.cond rfl (fun hc => ?_) (fun hc => ?_)
  · rw [if_pos (by simpa using hc)]
    (repeat first | refine uA ?_ | (refine uK ?_ ?_; focus first | omega | (intros; simp_all <;> omega)) | simp (disch := omega) only [go_sem, Nat.reduceBEq, Nat.reduceAdd, ww])
    (refine S.done ?_; simp only [D8, x9, go_sem, Nat.reduceBEq, Nat.reduceAdd, Nat.reduceLeDiff, Int.reduceToNat, Int.reducePow]; (repeat (refine ⟨?_, ?_⟩; focus first | trivial | omega | simp)); exact d9.M9 (Imp.refl rfl) (by (repeat first | refine uA ?_ | (refine ⟨?_, ?_⟩; focus first | rfl | simp [slot]) | rfl | simp)) (Nat.le_trans hν0 (by simp)))
  rw [if_neg (by simpa using hc)]
  (repeat first | refine uA ?_ | (refine uK ?_ ?_; focus first | omega | (intros; simp_all <;> omega)) | simp (disch := omega) only [go_sem, Nat.reduceBEq, Nat.reduceAdd, ww] | (refine uD h4 ?_ ?_ ?_; exact ht; exact rfl) | (refine uD h5 ?_ ?_ ?_; exact ht; exact rfl) | (refine uE h3 ?_ ?_ ?_ ?_; exact ht; exact rfl; focus (repeat' first | exact p8.nil | exact Imp.refl rfl | exact Imp.frz rfl rfl rfl | (refine Imp.P6 rfl rfl ?_ ?_; (focus ((try simp only [List.length_append]); omega)); (focus first | rfl | assumption)) | refine p8.cons ?_ ?_); done))
  refine S.cond rfl (fun hc => ?_) (fun hc => ?_)
  · rw [if_neg (by simp only [Bool.or_eq_true, Bool.not_eq_true', decide_eq_true_eq] at hc; simp only [Bool.and_eq_true, decide_eq_true_eq]; rintro ⟨⟨h7, h8⟩, h9⟩; rcases hc with (hc | hc) | hc <;> first | (rw [hc] at h7; cases h7; done) | omega)]
    (repeat first | refine uA ?_ | (refine uK ?_ ?_; focus first | omega | (intros; simp_all <;> omega)) | simp (disch := omega) only [go_sem, Nat.reduceBEq, Nat.reduceAdd, ww])
    (refine S.done ?_; simp only [D8, x9, go_sem, Nat.reduceBEq, Nat.reduceAdd, Nat.reduceLeDiff, Int.reduceToNat, Int.reducePow]; (repeat (refine ⟨?_, ?_⟩; focus first | trivial | omega | simp)); exact d9.M9 (Imp.refl rfl) (by (repeat first | refine uA ?_ | (refine ⟨?_, ?_⟩; focus first | rfl | simp [slot]) | rfl | simp)) (Nat.le_trans hν0 (by simp)))
  · rw [if_pos (by simp only [Bool.or_eq_false_iff, Bool.not_eq_false', decide_eq_false_iff_not] at hc; simp only [Bool.and_eq_true, decide_eq_true_eq]; obtain ⟨⟨h7, h8⟩, h9⟩ := hc; exact ⟨⟨h7, by omega⟩, by omega⟩)]
    (repeat first | refine uA ?_ | (refine uK ?_ ?_; focus first | omega | (intros; simp_all <;> omega)) | simp (disch := omega) only [go_sem, Nat.reduceBEq, Nat.reduceAdd, ww])
    (refine S.done ?_; simp only [D8, x9, go_sem, Nat.reduceBEq, Nat.reduceAdd, Nat.reduceLeDiff, Int.reduceToNat, Int.reducePow]; (repeat (refine ⟨?_, ?_⟩; focus first | trivial | omega | simp)); exact d9.M9 (Imp.refl rfl) (by (repeat first | refine uA ?_ | (refine ⟨?_, ?_⟩; focus first | rfl | simp [slot]) | rfl | simp)) (Nat.le_trans hν0 (by simp)))
theorem b6j {E : Ctx} (hP : E.P = Tryz.prog) (ht0 : Tz E) (n : Nms) (l : List Pt) (hn : l.length <= 1073741824) (hb : ∀ x ∈ l, Pb 1073741824 x) :
    j6 E [.map true (nmE n)] 92 [pts l, .bnd 93 (.mp 0)] (ints (r9 R9 n l).1) [.map true (nmE (r9 R9 n l).2)] [] := by
  obtain ⟨P, eff', N, w0, p9, av0, nu0, pk0⟩ := E
  simp only at hP
  subst hP
  refine j6.ofT (eff := eff) ht0 Tryz.func92 (by conv => { lhs; cbv }) (by exact Nat.le_of_ble_eq_true rfl) fun w own av ν hν ht => ?_
  have hν0 : ν.length <= 1 := by rw [hν]; exact Nat.le_refl _
  simp only [l6, pts, ints]
  (repeat first | refine uA ?_ | (apply S.exit; exact rfl) | (refine uK ?_ ?_; focus first | omega | trivial | exact id | (intros; simp_all <;> omega)) | simp (disch := omega) only [go_sem, Nat.reduceBEq, Nat.reduceAdd, Nat.reduceLeDiff, Int.reduceToNat, Int.reducePow, ww, List.length_map])
  refine S.loop (X := Nat × Nms) (fun x => ⟨[(1, .bnd 93 (.mp 0)), (8, pts l), (9, ints l.length), (10, ints x.1)], [.map true (nmE x.2)]⟩) (fun x => x.1 <= l.length /\ r9 R9 n l = r9 R9 x.2 (l.drop x.1)) (fun x => l.length - x.1) (0, n) ⟨Nat.zero_le _, rfl⟩ (by (repeat first | refine uA ?_ | (refine ⟨?_, ?_⟩; focus first | rfl | trivial | (simp [slot]; done)) | rfl | trivial | simp | exact Nat.le_trans hν0 (by simp))) ?_
  rintro ⟨i, m⟩ ⟨hi, hg⟩
  simp only [pts, ints] at hi hg ⊢
  (repeat first | refine uA ?_ | (apply S.exit; exact rfl) | (refine uK ?_ ?_; focus first | omega | trivial | exact id | (intros; simp_all <;> omega)) | simp (disch := omega) only [go_sem, Nat.reduceBEq, Nat.reduceAdd, Nat.reduceLeDiff, Int.reduceToNat, Int.reducePow, ww])
  (refine uJ rfl (fun hc => ?_) fun hc => ?_)
  · have hi' : i < l.length := by omega
    have hgi := List.getElem?_eq_getElem hi'
    generalize l[i] = x at hgi
    have hst := U1 (f := R9) (s := m) hgi
    have hnx := U2 (f := R9) (s := m) hgi
    have hs := fun (E : Ctx) (hP : E.P = Tryz.prog) (ht : Tz E) => c2z hP ht m x (hb x (List.mem_of_getElem? hgi))
    generalize R9 m x = r at *
    obtain ⟨e, m'⟩ := r
    simp only [Pt.c, Pt.enc, vts, sb, ints] at hs hst hnx
    (repeat first | refine uA ?_ | (apply S.exit; exact rfl) | (refine uK ?_ ?_; focus first | omega | trivial | exact id | (intros; simp_all <;> omega)) | simp (disch := omega) only [go_sem, Nat.reduceBEq, Nat.reduceAdd, Nat.reduceLeDiff, Int.reduceToNat, Int.reducePow, ww, hgi, Option.map_some, List.length_map, Pt.c, Pt.enc, vts, sb] | refine l9.t (j6.lift (k := 0) rfl (hs _ rfl ht) rfl rfl rfl) ?_)
    refine S.cond rfl (fun hc2 => ?_) (fun hc2 => ?_)
    · rw [hg, hst (by simpa using hc2)]
      (repeat first | refine uA ?_ | (apply S.exit; exact rfl) | (refine uK ?_ ?_; focus first | omega | trivial | exact id | (intros; simp_all <;> omega)) | simp (disch := omega) only [go_sem, Nat.reduceBEq, Nat.reduceAdd, Nat.reduceLeDiff, Int.reduceToNat, Int.reducePow, ww])
      (refine S.done ?_; simp only [D8, x9, go_sem, Nat.reduceBEq, Nat.reduceAdd, Nat.reduceLeDiff, Int.reduceToNat, Int.reducePow]; (repeat (refine ⟨?_, ?_⟩; focus first | trivial | omega | simp)); exact d9.M9 (Imp.refl rfl) (by (repeat first | refine uA ?_ | (refine ⟨?_, ?_⟩; focus first | rfl | trivial | (simp [slot]; done)) | rfl | trivial | simp)) (Nat.le_trans hν0 (by simp)))
    · have hc3 : e = 0 := by simpa using hc2
      (repeat first | refine uA ?_ | (apply S.exit; exact rfl) | (refine uK ?_ ?_; focus first | omega | trivial | exact id | (intros; simp_all <;> omega)) | simp (disch := omega) only [go_sem, Nat.reduceBEq, Nat.reduceAdd, Nat.reduceLeDiff, Int.reduceToNat, Int.reducePow, ww])
      refine S.next (x := (i, m)) (i + 1, m') ⟨by simp only; omega, by simp only; rw [hg, hnx hc3]⟩ (by simp only; omega) (by (repeat first | refine uA ?_ | (refine ⟨?_, ?_⟩; focus first | rfl | trivial | (simp [slot]; done)) | rfl | trivial | simp | exact Nat.le_trans hν0 (by simp)))
  · rw [hg, X6 (by omega)]
    (repeat first | refine uA ?_ | (apply S.exit; exact rfl) | (refine uK ?_ ?_; focus first | omega | trivial | exact id | (intros; simp_all <;> omega)) | simp (disch := omega) only [go_sem, Nat.reduceBEq, Nat.reduceAdd, Nat.reduceLeDiff, Int.reduceToNat, Int.reducePow, ww])
    (refine S.done ?_; simp only [D8, x9, go_sem, Nat.reduceBEq, Nat.reduceAdd, Nat.reduceLeDiff, Int.reduceToNat, Int.reducePow]; (repeat (refine ⟨?_, ?_⟩; focus first | trivial | omega | simp)); exact d9.M9 (Imp.refl rfl) (by (repeat first | refine uA ?_ | (refine ⟨?_, ?_⟩; focus first | rfl | trivial | (simp [slot]; done)) | rfl | trivial | simp)) (Nat.le_trans hν0 (by simp)))
theorem b6n {E : Ctx} (hP : E.P = Tryz.prog) (ht0 : Tz E) (n : Nms) (l : List Sl) (hn : l.length <= 1073741824) (hb : ∀ x ∈ l, Sb 1073741824 x) :
    j6 E [.map true (nmE n)] 94 [sls l, .bnd 95 (.mp 0)] (ints (r9 P5 n l).1) [.map true (nmE (r9 P5 n l).2)] [] := by
  obtain ⟨P, eff', N, w0, p9, av0, nu0, pk0⟩ := E
  simp only at hP
  subst hP
  refine j6.ofT (eff := eff) ht0 Tryz.func94 (by conv => { lhs; cbv }) (by exact Nat.le_of_ble_eq_true rfl) fun w own av ν hν ht => ?_
  have hν0 : ν.length <= 1 := by rw [hν]; exact Nat.le_refl _
  simp only [l6, sls, ints]
  (repeat first | refine uA ?_ | (apply S.exit; exact rfl) | (refine uK ?_ ?_; focus first | omega | trivial | exact id | (intros; simp_all <;> omega)) | simp (disch := omega) only [go_sem, Nat.reduceBEq, Nat.reduceAdd, Nat.reduceLeDiff, Int.reduceToNat, Int.reducePow, ww, List.length_map])
  refine S.loop (X := Nat × Nms) (fun x => ⟨[(1, .bnd 95 (.mp 0)), (8, sls l), (9, ints l.length), (10, ints x.1)], [.map true (nmE x.2)]⟩) (fun x => x.1 <= l.length /\ r9 P5 n l = r9 P5 x.2 (l.drop x.1)) (fun x => l.length - x.1) (0, n) ⟨Nat.zero_le _, rfl⟩ (by (repeat first | refine uA ?_ | (refine ⟨?_, ?_⟩; focus first | rfl | trivial | (simp [slot]; done)) | rfl | trivial | simp | exact Nat.le_trans hν0 (by simp))) ?_
  rintro ⟨i, m⟩ ⟨hi, hg⟩
  simp only [sls, ints] at hi hg ⊢
  (repeat first | refine uA ?_ | (apply S.exit; exact rfl) | (refine uK ?_ ?_; focus first | omega | trivial | exact id | (intros; simp_all <;> omega)) | simp (disch := omega) only [go_sem, Nat.reduceBEq, Nat.reduceAdd, Nat.reduceLeDiff, Int.reduceToNat, Int.reducePow, ww])
  (refine uJ rfl (fun hc => ?_) fun hc => ?_)
  · have hi' : i < l.length := by omega
    have hgi := List.getElem?_eq_getElem hi'
    generalize l[i] = x at hgi
    have hst := U1 (f := P5) (s := m) hgi
    have hnx := U2 (f := P5) (s := m) hgi
    have hs := fun (E : Ctx) (hP : E.P = Tryz.prog) (ht : Tz E) => c1R hP ht m x (hb x (List.mem_of_getElem? hgi))
    generalize P5 m x = r at *
    obtain ⟨e, m'⟩ := r
    simp only [Sl.c, Sl.enc, sb, ints] at hs hst hnx
    (repeat first | refine uA ?_ | (apply S.exit; exact rfl) | (refine uK ?_ ?_; focus first | omega | trivial | exact id | (intros; simp_all <;> omega)) | simp (disch := omega) only [go_sem, Nat.reduceBEq, Nat.reduceAdd, Nat.reduceLeDiff, Int.reduceToNat, Int.reducePow, ww, hgi, Option.map_some, List.length_map, Sl.c, Sl.enc, sb] | refine l9.t (j6.lift (k := 0) rfl (hs _ rfl ht) rfl rfl rfl) ?_)
    refine S.cond rfl (fun hc2 => ?_) (fun hc2 => ?_)
    · rw [hg, hst (by simpa using hc2)]
      (repeat first | refine uA ?_ | (apply S.exit; exact rfl) | (refine uK ?_ ?_; focus first | omega | trivial | exact id | (intros; simp_all <;> omega)) | simp (disch := omega) only [go_sem, Nat.reduceBEq, Nat.reduceAdd, Nat.reduceLeDiff, Int.reduceToNat, Int.reducePow, ww])
      (refine S.done ?_; simp only [D8, x9, go_sem, Nat.reduceBEq, Nat.reduceAdd, Nat.reduceLeDiff, Int.reduceToNat, Int.reducePow]; (repeat (refine ⟨?_, ?_⟩; focus first | trivial | omega | simp)); exact d9.M9 (Imp.refl rfl) (by (repeat first | refine uA ?_ | (refine ⟨?_, ?_⟩; focus first | rfl | trivial | (simp [slot]; done)) | rfl | trivial | simp)) (Nat.le_trans hν0 (by simp)))
    · have hc3 : e = 0 := by simpa using hc2
      (repeat first | refine uA ?_ | (apply S.exit; exact rfl) | (refine uK ?_ ?_; focus first | omega | trivial | exact id | (intros; simp_all <;> omega)) | simp (disch := omega) only [go_sem, Nat.reduceBEq, Nat.reduceAdd, Nat.reduceLeDiff, Int.reduceToNat, Int.reducePow, ww])
      refine S.next (x := (i, m)) (i + 1, m') ⟨by simp only; omega, by simp only; rw [hg, hnx hc3]⟩ (by simp only; omega) (by (repeat first | refine uA ?_ | (refine ⟨?_, ?_⟩; focus first | rfl | trivial | (simp [slot]; done)) | rfl | trivial | simp | exact Nat.le_trans hν0 (by simp)))
  · rw [hg, X6 (by omega)]
    (repeat first | refine uA ?_ | (apply S.exit; exact rfl) | (refine uK ?_ ?_; focus first | omega | trivial | exact id | (intros; simp_all <;> omega)) | simp (disch := omega) only [go_sem, Nat.reduceBEq, Nat.reduceAdd, Nat.reduceLeDiff, Int.reduceToNat, Int.reducePow, ww])
    (refine S.done ?_; simp only [D8, x9, go_sem, Nat.reduceBEq, Nat.reduceAdd, Nat.reduceLeDiff, Int.reduceToNat, Int.reducePow]; (repeat (refine ⟨?_, ?_⟩; focus first | trivial | omega | simp)); exact d9.M9 (Imp.refl rfl) (by (repeat first | refine uA ?_ | (refine ⟨?_, ?_⟩; focus first | rfl | trivial | (simp [slot]; done)) | rfl | trivial | simp)) (Nat.le_trans hν0 (by simp)))
theorem b6b {E : Ctx} (hP : E.P = Tryz.prog) (ht0 : Tz E) (n : Nms) (l : List Gt) (hn : l.length <= 1073741824) (hb : ∀ x ∈ l, Gb 1073741824 x) :
    j6 E [.map true (nmE n)] 96 [gts l, .bnd 97 (.mp 0)] (ints (r9 U8 n l).1) [.map true (nmE (r9 U8 n l).2)] [] := by
  obtain ⟨P, eff', N, w0, p9, av0, nu0, pk0⟩ := E
  simp only at hP
  subst hP
  refine j6.ofT (eff := eff) ht0 Tryz.func96 (by conv => { lhs; cbv }) (by exact Nat.le_of_ble_eq_true rfl) fun w own av ν hν ht => ?_
  have hν0 : ν.length <= 1 := by rw [hν]; exact Nat.le_refl _
  simp only [l6, gts, ints]
  (repeat first | refine uA ?_ | (apply S.exit; exact rfl) | (refine uK ?_ ?_; focus first | omega | trivial | exact id | (intros; simp_all <;> omega)) | simp (disch := omega) only [go_sem, Nat.reduceBEq, Nat.reduceAdd, Nat.reduceLeDiff, Int.reduceToNat, Int.reducePow, ww, List.length_map])
  refine S.loop (X := Nat × Nms) (fun x => ⟨[(1, .bnd 97 (.mp 0)), (8, gts l), (9, ints l.length), (10, ints x.1)], [.map true (nmE x.2)]⟩) (fun x => x.1 <= l.length /\ r9 U8 n l = r9 U8 x.2 (l.drop x.1)) (fun x => l.length - x.1) (0, n) ⟨Nat.zero_le _, rfl⟩ (by (repeat first | refine uA ?_ | (refine ⟨?_, ?_⟩; focus first | rfl | trivial | (simp [slot]; done)) | rfl | trivial | simp | exact Nat.le_trans hν0 (by simp))) ?_
  rintro ⟨i, m⟩ ⟨hi, hg⟩
  simp only [gts, ints] at hi hg ⊢
  (repeat first | refine uA ?_ | (apply S.exit; exact rfl) | (refine uK ?_ ?_; focus first | omega | trivial | exact id | (intros; simp_all <;> omega)) | simp (disch := omega) only [go_sem, Nat.reduceBEq, Nat.reduceAdd, Nat.reduceLeDiff, Int.reduceToNat, Int.reducePow, ww])
  (refine uJ rfl (fun hc => ?_) fun hc => ?_)
  · have hi' : i < l.length := by omega
    have hgi := List.getElem?_eq_getElem hi'
    generalize l[i] = x at hgi
    have hst := U1 (f := U8) (s := m) hgi
    have hnx := U2 (f := U8) (s := m) hgi
    have hs := fun (E : Ctx) (hP : E.P = Tryz.prog) (ht : Tz E) => c2n hP ht m x (hb x (List.mem_of_getElem? hgi))
    generalize U8 m x = r at *
    obtain ⟨e, m'⟩ := r
    simp only [Gt.c, Gt.enc, sb, ints] at hs hst hnx
    (repeat first | refine uA ?_ | (apply S.exit; exact rfl) | (refine uK ?_ ?_; focus first | omega | trivial | exact id | (intros; simp_all <;> omega)) | simp (disch := omega) only [go_sem, Nat.reduceBEq, Nat.reduceAdd, Nat.reduceLeDiff, Int.reduceToNat, Int.reducePow, ww, hgi, Option.map_some, List.length_map, Gt.c, Gt.enc, sb] | refine l9.t (j6.lift (k := 0) rfl (hs _ rfl ht) rfl rfl rfl) ?_)
    refine S.cond rfl (fun hc2 => ?_) (fun hc2 => ?_)
    · rw [hg, hst (by simpa using hc2)]
      (repeat first | refine uA ?_ | (apply S.exit; exact rfl) | (refine uK ?_ ?_; focus first | omega | trivial | exact id | (intros; simp_all <;> omega)) | simp (disch := omega) only [go_sem, Nat.reduceBEq, Nat.reduceAdd, Nat.reduceLeDiff, Int.reduceToNat, Int.reducePow, ww])
      (refine S.done ?_; simp only [D8, x9, go_sem, Nat.reduceBEq, Nat.reduceAdd, Nat.reduceLeDiff, Int.reduceToNat, Int.reducePow]; (repeat (refine ⟨?_, ?_⟩; focus first | trivial | omega | simp)); exact d9.M9 (Imp.refl rfl) (by (repeat first | refine uA ?_ | (refine ⟨?_, ?_⟩; focus first | rfl | trivial | (simp [slot]; done)) | rfl | trivial | simp)) (Nat.le_trans hν0 (by simp)))
    · have hc3 : e = 0 := by simpa using hc2
      (repeat first | refine uA ?_ | (apply S.exit; exact rfl) | (refine uK ?_ ?_; focus first | omega | trivial | exact id | (intros; simp_all <;> omega)) | simp (disch := omega) only [go_sem, Nat.reduceBEq, Nat.reduceAdd, Nat.reduceLeDiff, Int.reduceToNat, Int.reducePow, ww])
      refine S.next (x := (i, m)) (i + 1, m') ⟨by simp only; omega, by simp only; rw [hg, hnx hc3]⟩ (by simp only; omega) (by (repeat first | refine uA ?_ | (refine ⟨?_, ?_⟩; focus first | rfl | trivial | (simp [slot]; done)) | rfl | trivial | simp | exact Nat.le_trans hν0 (by simp)))
  · rw [hg, X6 (by omega)]
    (repeat first | refine uA ?_ | (apply S.exit; exact rfl) | (refine uK ?_ ?_; focus first | omega | trivial | exact id | (intros; simp_all <;> omega)) | simp (disch := omega) only [go_sem, Nat.reduceBEq, Nat.reduceAdd, Nat.reduceLeDiff, Int.reduceToNat, Int.reducePow, ww])
    (refine S.done ?_; simp only [D8, x9, go_sem, Nat.reduceBEq, Nat.reduceAdd, Nat.reduceLeDiff, Int.reduceToNat, Int.reducePow]; (repeat (refine ⟨?_, ?_⟩; focus first | trivial | omega | simp)); exact d9.M9 (Imp.refl rfl) (by (repeat first | refine uA ?_ | (refine ⟨?_, ?_⟩; focus first | rfl | trivial | (simp [slot]; done)) | rfl | trivial | simp)) (Nat.le_trans hν0 (by simp)))
theorem b5M (l : List (List Vt)) (hn : l.length <= 1073741824) (hb : ∀ x ∈ l, Vbs 1073741824 x) : FZ 90 [wls l, .v (.func (.func 91) #[] #[])] (ints (F4 G6 l)) := by
  refine q9.of (eff := eff) Tryz.func90 (by conv => { lhs; cbv }) (by exact Nat.le_of_ble_eq_true rfl) fun w O hw => ?_
  have hcal : callable Tryz.prog 91 = true := by kernel_rfl
  simp only [l6, wls, ints]
  (repeat first | refine uA ?_ | (apply S.exit; exact rfl) | (refine uK ?_ ?_; focus first | omega | trivial | exact id | (intros; simp_all <;> omega)) | simp (disch := omega) only [go_sem, Nat.reduceBEq, Nat.reduceAdd, Nat.reduceLeDiff, Int.reduceToNat, Int.reducePow, ww, List.length_map])
  refine S.loop (X := Nat) (fun i => ⟨[(1, .v (.func (.func 91) #[] #[])), (8, wls l), (9, ints l.length), (10, ints i)], []⟩) (fun i => i <= l.length /\ F4 G6 l = F4 G6 (l.drop i)) (fun i => l.length - i) 0 ⟨Nat.zero_le _, rfl⟩ (by (repeat first | refine uA ?_ | (refine ⟨?_, ?_⟩; focus first | rfl | trivial | (simp [slot]; done)) | rfl | trivial | simp)) ?_
  rintro i ⟨hi, hg⟩
  simp only [wls, ints] at hi hg ⊢
  (repeat first | refine uA ?_ | (apply S.exit; exact rfl) | (refine uK ?_ ?_; focus first | omega | trivial | exact id | (intros; simp_all <;> omega)) | simp (disch := omega) only [go_sem, Nat.reduceBEq, Nat.reduceAdd, Nat.reduceLeDiff, Int.reduceToNat, Int.reducePow, ww])
  (refine uJ rfl (fun hc => ?_) fun hc => ?_)
  · have hi' : i < l.length := by omega
    have hgi := List.getElem?_eq_getElem hi'
    generalize l[i] = x at hgi
    have hst := a0f (f := G6) hgi
    have hnx := a0k (f := G6) hgi
    have hs := b1Y x (hb x (List.mem_of_getElem? hgi))
    generalize G6 x = e at *
    simp only [ints] at hs
    (repeat first | refine uA ?_ | (apply S.exit; exact rfl) | (refine uK ?_ ?_; focus first | omega | trivial | exact id | (intros; simp_all <;> omega)) | simp (disch := omega) only [go_sem, Nat.reduceBEq, Nat.reduceAdd, Nat.reduceLeDiff, Int.reduceToNat, Int.reducePow, ww, hgi, Option.map_some, List.length_map, hcal] | (refine uD hs ?_ ?_ ?_; exact tz hw; exact rfl))
    refine S.cond rfl (fun hc2 => ?_) (fun hc2 => ?_)
    · rw [hg, hst (by simpa using hc2)]
      (repeat first | refine uA ?_ | (apply S.exit; exact rfl) | (refine uK ?_ ?_; focus first | omega | trivial | exact id | (intros; simp_all <;> omega)) | simp (disch := omega) only [go_sem, Nat.reduceBEq, Nat.reduceAdd, Nat.reduceLeDiff, Int.reduceToNat, Int.reducePow, ww])
      exact S.done (d9.out rfl (Imp.refl rfl) rfl)
    · have hc3 : e = 0 := by simpa using hc2
      (repeat first | refine uA ?_ | (apply S.exit; exact rfl) | (refine uK ?_ ?_; focus first | omega | trivial | exact id | (intros; simp_all <;> omega)) | simp (disch := omega) only [go_sem, Nat.reduceBEq, Nat.reduceAdd, Nat.reduceLeDiff, Int.reduceToNat, Int.reducePow, ww])
      refine S.next (i + 1) ⟨by omega, by rw [hg, hnx hc3]⟩ (by omega) (by (repeat first | refine uA ?_ | (refine ⟨?_, ?_⟩; focus first | rfl | trivial | (simp [slot]; done)) | rfl | trivial | simp))
  · rw [hg, a0H (by omega)]
    (repeat first | refine uA ?_ | (apply S.exit; exact rfl) | (refine uK ?_ ?_; focus first | omega | trivial | exact id | (intros; simp_all <;> omega)) | simp (disch := omega) only [go_sem, Nat.reduceBEq, Nat.reduceAdd, Nat.reduceLeDiff, Int.reduceToNat, Int.reducePow, ww])
    exact S.done (d9.out rfl (Imp.refl rfl) rfl)
def rsW (w : Wk) (n : Nms) : List Res := [.box 31 w.enc, .map true (nmE n), .box 140 [.mp 1]]
theorem b8J {E : Ctx} (hP : E.P = Tryz.prog) (ht0 : Tz E) (w : Wk) (n : Nms) (a : Am) (hb : Ab 1073741824 a) :
    j6 E (rsW w n) 86 [a.c, .bp 2 0] (ints (V3 n a).1) (rsW w (V3 n a).2) [] := by
  obtain ⟨P, eff', N, w0, p9, av0, nu0, pk0⟩ := E
  simp only at hP
  subst hP
  refine j6.ofT (eff := eff) ht0 a8M a8J (by exact Nat.le_of_ble_eq_true rfl) fun w' own av ν hν ht => ?_
  have hν0 : ν.length <= 3 := by rw [hν]; exact Nat.le_refl _
  have b0 := hb.1
  have h2 := b2V a hb
  have h1 := fun (E : Ctx) (hP : E.P = Tryz.prog) => b1V hP n a.name (by omega)
  unfold V3
  generalize F8 n a.name = r at *
  obtain ⟨e1, m⟩ := r
  generalize N8 a = e2 at *
  obtain ⟨name, ⟨x, y, half, t⟩, links⟩ := a
  obtain ⟨arms, walls, parts, slots, gates, walk⟩ := w
  simp only [a4C, l6, TT, II, OA, OB, OC, MM, LL, VV, FF, MG, LG, VG, FG]
  simp only [Am.c, Am.enc, lks, sb, ints, rsW, Wk.enc, ams, wls, pts, sls, gts] at *
  (repeat first | refine uA ?_ | (refine uK ?_ ?_; focus first | omega | (intros; simp_all <;> omega)) | simp (disch := omega) only [go_sem, Nat.reduceBEq, Nat.reduceAdd, ww] | (refine uD h2 ?_ ?_ ?_; exact ht; exact rfl))
  refine S.cond rfl (fun hc => ?_) (fun hc => ?_)
  · rw [if_pos (by simpa using hc)]
    (repeat first | refine uA ?_ | (refine uK ?_ ?_; focus first | omega | (intros; simp_all <;> omega)) | simp (disch := omega) only [go_sem, Nat.reduceBEq, Nat.reduceAdd, ww])
    (refine S.done ?_; simp only [D8, x9, go_sem, Nat.reduceBEq, Nat.reduceAdd, Nat.reduceLeDiff, Int.reduceToNat, Int.reducePow]; (repeat (refine ⟨?_, ?_⟩; focus first | trivial | omega | simp)); exact d9.M9 (Imp.refl rfl) (by (repeat first | refine uA ?_ | (refine ⟨?_, ?_⟩; focus first | rfl | simp [slot]) | rfl | simp)) (Nat.le_trans hν0 (by simp)))
  rw [if_neg (by simpa using hc)]
  (repeat first | refine uA ?_ | (refine uK ?_ ?_; focus first | omega | (intros; simp_all <;> omega)) | simp (disch := omega) only [go_sem, Nat.reduceBEq, Nat.reduceAdd, ww] | refine l9.t (j6.lift (k := 1) rfl (h1 _ rfl) rfl rfl rfl) ?_)
  (refine S.done ?_; simp only [D8, x9, go_sem, Nat.reduceBEq, Nat.reduceAdd, Nat.reduceLeDiff, Int.reduceToNat, Int.reducePow]; (repeat (refine ⟨?_, ?_⟩; focus first | trivial | omega | simp)); exact d9.M9 (Imp.refl rfl) (by (repeat first | refine uA ?_ | (refine ⟨?_, ?_⟩; focus first | rfl | simp [slot]) | rfl | simp)) (Nat.le_trans hν0 (by simp)))
theorem b6R {E : Ctx} (hP : E.P = Tryz.prog) (ht0 : Tz E) (w : Wk) (n : Nms) (l : List Am) (hn : l.length <= 1073741824) (hb : ∀ x ∈ l, Ab 1073741824 x) :
    j6 E (rsW w n) 89 [ams l, .clo 86 [.bp 2 0]] (ints (r9 V3 n l).1) (rsW w (r9 V3 n l).2) [] := by
  obtain ⟨P, eff', N, w0, p9, av0, nu0, pk0⟩ := E
  simp only at hP
  subst hP
  refine j6.ofT (eff := eff) ht0 Tryz.func89 (by conv => { lhs; cbv }) (by exact Nat.le_of_ble_eq_true rfl) fun w' own av ν hν ht => ?_
  have hν0 : ν.length <= 3 := by rw [hν]; exact Nat.le_refl _
  have hcal : callable Tryz.prog 86 = true := by kernel_rfl
  simp only [l6, ams, ints]
  simp only [rsW, Wk.enc, ams, wls, pts, sls, gts]
  (repeat first | refine uA ?_ | (refine uK ?_ ?_; focus first | omega | (intros; simp_all <;> omega)) | simp (disch := omega) only [go_sem, Nat.reduceBEq, Nat.reduceAdd, ww, List.length_map])
  refine S.loop (X := Nat × Nms) (fun x => ⟨[(1, .clo 86 [.bp 2 0]), (8, ams l), (9, ints l.length), (10, ints x.1)], rsW w x.2⟩) (fun x => x.1 <= l.length /\ r9 V3 n l = r9 V3 x.2 (l.drop x.1)) (fun x => l.length - x.1) (0, n) ⟨Nat.zero_le _, rfl⟩ (by simp only [rsW, Wk.enc, ams, wls, pts, sls, gts]; exact (by (repeat first | refine uA ?_ | (refine ⟨?_, ?_⟩; focus first | rfl | simp [slot]) | rfl | simp | exact Nat.le_trans hν0 (by simp)))) ?_
  rintro ⟨i, m⟩ ⟨hi, hg⟩
  simp only [ams, ints, rsW, Wk.enc, wls, pts, sls, gts] at hi hg ⊢
  (repeat first | refine uA ?_ | (refine uK ?_ ?_; focus first | omega | (intros; simp_all <;> omega)) | simp (disch := omega) only [go_sem, Nat.reduceBEq, Nat.reduceAdd, ww])
  (refine uJ rfl (fun hc => ?_) fun hc => ?_)
  · have hi' : i < l.length := by omega
    have hgi := List.getElem?_eq_getElem hi'
    generalize l[i] = x at hgi
    have hst := U1 (f := V3) (s := m) hgi
    have hnx := U2 (f := V3) (s := m) hgi
    have hs := fun (E : Ctx) (hP : E.P = Tryz.prog) (ht : Tz E) => b8J hP ht w m x (hb x (List.mem_of_getElem? hgi))
    generalize V3 m x = r at *
    obtain ⟨e, m'⟩ := r
    simp only [Am.c, Am.enc, lks, sb, ints, rsW, Wk.enc, ams, wls, pts, sls, gts] at hs hst hnx
    (repeat first | refine uA ?_ | (refine uK ?_ ?_; focus first | omega | (intros; simp_all <;> omega)) | simp (disch := omega) only [go_sem, Nat.reduceBEq, Nat.reduceAdd, ww, hgi, Option.map_some, List.length_map, Am.enc, lks, sb, hcal] | refine l9.t (j6.ext _ (hs _ rfl ht) rfl rfl rfl) ?_)
    refine S.cond rfl (fun hc2 => ?_) (fun hc2 => ?_)
    · rw [hg, hst (by simpa using hc2)]
      (repeat first | refine uA ?_ | (refine uK ?_ ?_; focus first | omega | (intros; simp_all <;> omega)) | simp (disch := omega) only [go_sem, Nat.reduceBEq, Nat.reduceAdd, ww])
      (refine S.done ?_; simp only [D8, x9, go_sem, Nat.reduceBEq, Nat.reduceAdd, Nat.reduceLeDiff, Int.reduceToNat, Int.reducePow]; (repeat (refine ⟨?_, ?_⟩; focus first | trivial | omega | simp)); exact d9.M9 (Imp.refl rfl) (by (repeat first | refine uA ?_ | (refine ⟨?_, ?_⟩; focus first | rfl | simp [slot]) | rfl | simp)) (Nat.le_trans hν0 (by simp)))
    · have hc3 : e = 0 := by simpa using hc2
      (repeat first | refine uA ?_ | (refine uK ?_ ?_; focus first | omega | (intros; simp_all <;> omega)) | simp (disch := omega) only [go_sem, Nat.reduceBEq, Nat.reduceAdd, ww])
      refine S.next (x := (i, m)) (i + 1, m') ⟨by simp only; omega, by simp only; rw [hg, hnx hc3]⟩ (by simp only; omega) (by (repeat first | refine uA ?_ | (refine ⟨?_, ?_⟩; focus first | rfl | simp [slot]) | rfl | simp | exact Nat.le_trans hν0 (by simp)))
  · rw [hg, X6 (by omega)]
    (repeat first | refine uA ?_ | (refine uK ?_ ?_; focus first | omega | (intros; simp_all <;> omega)) | simp (disch := omega) only [go_sem, Nat.reduceBEq, Nat.reduceAdd, ww])
    (refine S.done ?_; simp only [D8, x9, go_sem, Nat.reduceBEq, Nat.reduceAdd, Nat.reduceLeDiff, Int.reduceToNat, Int.reducePow]; (repeat (refine ⟨?_, ?_⟩; focus first | trivial | omega | simp)); exact d9.M9 (Imp.refl rfl) (by (repeat first | refine uA ?_ | (refine ⟨?_, ?_⟩; focus first | rfl | simp [slot]) | rfl | simp)) (Nat.le_trans hν0 (by simp)))
theorem a8V (w : Wk) (hb : Wb 1073741824 w) : FZ 23 [w.c] (ints (I9 w)) := by
  refine q9.of b0u b0j (by exact Nat.le_of_ble_eq_true rfl) fun w' O hw => ?_
  have ht : Tz ⟨Tryz.prog, eff, a2G.ntmps, w', fun _ => False, O, [], []⟩ := tz hw
  obtain ⟨⟨n1, b1⟩, ⟨n2, b2⟩, ⟨n3, b3⟩, ⟨n4, b4⟩, ⟨n5, b5⟩, b6⟩ := hb
  have h1 := fun (E : Ctx) (hP : E.P = Tryz.prog) (ht : Tz E) => b6R hP ht w [] w.arms n1 b1
  have h2 := b5M w.walls n2 b2
  unfold I9 a1y
  generalize r9 V3 [] w.arms = r1 at *
  obtain ⟨e1, m1⟩ := r1
  have h3 := fun (E : Ctx) (hP : E.P = Tryz.prog) (ht : Tz E) => b6j hP ht m1 w.parts n3 b3
  simp only at h3 ⊢
  generalize r9 R9 m1 w.parts = r3 at *
  obtain ⟨e3, m3⟩ := r3
  have h4 := fun (E : Ctx) (hP : E.P = Tryz.prog) (ht : Tz E) => b6n hP ht m3 w.slots n4 b4
  simp only at h4 ⊢
  generalize r9 P5 m3 w.slots = r4 at *
  obtain ⟨e4, m4⟩ := r4
  have h5 := fun (E : Ctx) (hP : E.P = Tryz.prog) (ht : Tz E) => b6b hP ht m4 w.gates n5 b5
  simp only at h5 ⊢
  generalize r9 U8 m4 w.gates = r5 at *
  obtain ⟨e5, m5⟩ := r5
  generalize F4 G6 w.walls = e2 at *
  simp only
  have h6 := a1x w.walk (b6.mono (by decide))
  have h7 := a2Q w.walk (b6.mono (by decide))
  have h8 := O3 w.walk (b6.mono (by decide))
  unfold a7K
  generalize decide w.walk.F3 = q1 at *
  generalize j4 w.walk = q2 at *
  generalize A8 (Nm.j3 w.walk) = s8 at *
  obtain ⟨arms, walls, parts, slots, gates, walk⟩ := w
  simp only [a2G, l6, TT, II, OA, OB, OC, MM, LL, VV, FF, MG, LG, VG, FG] at ht ⊢
  simp only [Wk.c, Wk.enc, rsW, ams, wls, pts, sls, gts, rc, sb, ints] at *
  (repeat first | refine uA ?_ | (refine uK ?_ ?_; focus first | omega | (intros; simp_all <;> omega)) | simp (disch := omega) only [go_sem, Nat.reduceBEq, Nat.reduceAdd, ww, List.length_map])
  refine S.cond rfl (fun hc => ?_) (fun hc => ?_)
  · rw [if_pos (by simp only [Bool.or_eq_true, decide_eq_true_eq] at hc; omega)]
    (repeat first | refine uA ?_ | (refine uK ?_ ?_; focus first | omega | (intros; simp_all <;> omega)) | simp (disch := omega) only [go_sem, Nat.reduceBEq, Nat.reduceAdd, ww])
    exact S.done (d9.out rfl (Imp.refl rfl) rfl)
  rw [if_neg (by simp only [Bool.or_eq_false_iff, decide_eq_false_iff_not] at hc; omega)]
  (repeat first | refine uA ?_ | (refine uK ?_ ?_; focus first | omega | (intros; simp_all <;> omega)) | simp (disch := omega) only [go_sem, Nat.reduceBEq, Nat.reduceAdd, ww, List.length_map])
  refine S.cond rfl (fun hc => ?_) (fun hc => ?_)
  · rw [if_pos (by simp only [decide_eq_true_eq] at hc; omega)]
    (repeat first | refine uA ?_ | (refine uK ?_ ?_; focus first | omega | (intros; simp_all <;> omega)) | simp (disch := omega) only [go_sem, Nat.reduceBEq, Nat.reduceAdd, ww])
    exact S.done (d9.out rfl (Imp.refl rfl) rfl)
  rw [if_neg (by simp only [decide_eq_false_iff_not] at hc; omega)]
  (repeat first | refine uI ?_ | (refine uK ?_ ?_; focus first | omega | (intros; simp_all <;> omega)) | simp (disch := omega) only [go_sem, Nat.reduceBEq, Nat.reduceAdd, ww])
  refine S.K3 [.box 31 [.sl 12 (arms.map Am.enc), .sl 1 (walls.map fun s => [vts s]), .sl 12 (parts.map Pt.enc), .sl 14 (slots.map Sl.enc), .sl 13 (gates.map Gt.enc), .v (.bool walk.neg), .v (.string (bs walk.num)), .v (.string (bs walk.den))], .gone, .box 140 [.mp 1]] (by simp [Eng.F9, Eng.a0h]) ?_
  (repeat first | refine uA ?_ | (refine uK ?_ ?_; focus first | omega | (intros; simp_all <;> omega)) | simp (disch := omega) only [go_sem, Nat.reduceBEq, Nat.reduceAdd, ww, List.length_map, F9] | refine l9.t (h1 _ rfl ht) ?_ | refine l9.t (j6.lift (k := 1) rfl (h3 _ rfl ht) rfl rfl rfl) ?_ | refine l9.t (j6.lift (k := 1) rfl (h4 _ rfl ht) rfl rfl rfl) ?_ | refine l9.t (j6.lift (k := 1) rfl (h5 _ rfl ht) rfl rfl rfl) ?_ | (refine uD h2 ?_ ?_ ?_; exact tz hw; exact rfl))
  generalize hL : [e1, e2, e3, e4, e5] = L
  have hl5 : L.length = 5 := by rw [<- hL]; rfl
  have e63 : [[C.v (Value.int IntKind.i64 e1)], [C.v (Value.int IntKind.i64 e2)], [C.v (Value.int IntKind.i64 e3)], [C.v (Value.int IntKind.i64 e4)], [C.v (Value.int IntKind.i64 e5)]] = L.map fun e => [C.v (Value.int IntKind.i64 e)] := by rw [<- hL]; rfl
  simp only [e63]
  refine S.loop (X := Nat) (fun i => ⟨[(1, .bp 0 0), (63, .sl 1 (L.map fun e => [.v (.int .i64 e)])), (64, ints 5), (65, ints i)], [.box 31 [.sl 12 (arms.map Am.enc), .sl 1 (walls.map fun s => [vts s]), .sl 12 (parts.map Pt.enc), .sl 14 (slots.map Sl.enc), .sl 13 (gates.map Gt.enc), .v (.bool walk.neg), .v (.string (bs walk.num)), .v (.string (bs walk.den))]]⟩) (fun i => i <= 5 /\ F4 id L = F4 id (L.drop i)) (fun i => 5 - i) 0 ⟨Nat.zero_le _, rfl⟩ (by (repeat first | refine uA ?_ | (refine ⟨?_, ?_⟩; focus first | rfl | simp [slot]) | rfl | simp)) ?_
  rintro i ⟨hi, hg⟩
  simp only [ints] at hi hg ⊢
  (repeat first | refine uA ?_ | (refine uK ?_ ?_; focus first | omega | (intros; simp_all <;> omega)) | simp (disch := omega) only [go_sem, Nat.reduceBEq, Nat.reduceAdd, ww])
  (refine uJ rfl (fun hc => ?_) fun hc => ?_)
  · have hi' : i < L.length := by omega
    have hgi := List.getElem?_eq_getElem hi'
    generalize L[i] = x at hgi
    have hst := a0f (f := id) hgi
    have hnx := a0k (f := id) hgi
    simp only [id] at hst hnx
    (repeat first | refine uA ?_ | (refine uK ?_ ?_; focus first | omega | (intros; simp_all <;> omega)) | simp (disch := omega) only [go_sem, Nat.reduceBEq, Nat.reduceAdd, ww, hgi, Option.map_some, List.length_map, hl5])
    refine S.cond rfl (fun hc2 => ?_) (fun hc2 => ?_)
    · have h0 : x ≠ 0 := by simpa using hc2
      rw [hg, hst h0, if_pos h0]
      (repeat first | refine uA ?_ | (refine uK ?_ ?_; focus first | omega | (intros; simp_all <;> omega)) | simp (disch := omega) only [go_sem, Nat.reduceBEq, Nat.reduceAdd, ww])
      exact S.done (d9.out rfl (Imp.refl rfl) rfl)
    · have hc3 : x = 0 := by simpa using hc2
      (repeat first | refine uA ?_ | (refine uK ?_ ?_; focus first | omega | (intros; simp_all <;> omega)) | simp (disch := omega) only [go_sem, Nat.reduceBEq, Nat.reduceAdd, ww])
      refine S.next (i + 1) ⟨by omega, by rw [hg]; exact hnx hc3⟩ (by omega) (by (repeat first | refine uA ?_ | (refine ⟨?_, ?_⟩; focus first | rfl | simp [slot]) | rfl | simp))
  · rw [hg, a0H (by omega), if_neg (by decide)]
    (repeat first | refine uA ?_ | (refine uK ?_ ?_; focus first | omega | (intros; simp_all <;> omega)) | simp (disch := omega) only [go_sem, Nat.reduceBEq, Nat.reduceAdd, ww] | (refine uD h6 ?_ ?_ ?_; exact tz hw; exact rfl) | (refine uD h7 ?_ ?_ ?_; exact tz hw; exact rfl) | (refine uD h8 ?_ ?_ ?_; exact tz hw; exact rfl))
    refine S.cond rfl (fun hc => ?_) (fun hc => ?_)
    · rw [if_neg (by simp only [Bool.or_eq_true, Bool.not_eq_true', decide_eq_true_eq] at hc; simp only [Bool.and_eq_true, decide_eq_true_eq]; rintro ⟨⟨g7, g8⟩, g9⟩; rcases hc with (hc | hc) | hc <;> first | (rw [hc] at g7; cases g7; done) | (rw [hc] at g8; cases g8; done) | omega)]
      (repeat first | refine uA ?_ | (refine uK ?_ ?_; focus first | omega | (intros; simp_all <;> omega)) | simp (disch := omega) only [go_sem, Nat.reduceBEq, Nat.reduceAdd, ww])
      exact S.done (d9.out rfl (Imp.refl rfl) rfl)
    · rw [if_pos (by simp only [Bool.or_eq_false_iff, Bool.not_eq_false', decide_eq_false_iff_not] at hc; simp only [Bool.and_eq_true, decide_eq_true_eq]; obtain ⟨⟨g7, g8⟩, g9⟩ := hc; exact ⟨⟨g7, g8⟩, by omega⟩)]
      (repeat first | refine uA ?_ | (refine uK ?_ ?_; focus first | omega | (intros; simp_all <;> omega)) | simp (disch := omega) only [go_sem, Nat.reduceBEq, Nat.reduceAdd, ww])
      exact S.done (d9.out rfl (Imp.refl rfl) rfl)
set_option maxRecDepth 100000
theorem b4J (q : Rat) : Nm.ofQ (a2J q) = ⟨false, Nm.enc q.num.natAbs, Nm.enc q.den⟩ := by
  unfold a2J
  by_cases h : q.num < 0
  · rw [if_pos h, a9Q]
    simp [h]
  · rw [if_neg h]
    unfold Nm.ofQ
    rw [decide_eq_false h]
theorem c2U (a : Nm.Rt) (ha : Rb 17179869184 a) : FZ 75 [rc a] (rq (a2J (Nm.j3 a))) := by
  unfold rq
  rw [b4J]
  exact c2G a ha
theorem c1X {k : Nat} {p : Rat} (h : Rb k (Nm.ofQ p)) : Rb k (Nm.ofQ (a2J p)) := by rw [b4J]; exact h
theorem b8T (a : Nm.Rt) (ha : Rb 68719476736 a) : FZ 211 [rc a] (.v (.bool (!G9 a))) := by
  refine q9.of a9J a9k (by exact Nat.le_of_ble_eq_true rfl) fun w O hw => ?_
  have h := a1x a ha
  unfold G9
  generalize decide a.F3 = q at *
  simp only [a4U, l6, TT, II, OA, OB, OC, MM, LL, VV, FF, MG, LG, VG, FG]
  simp only [rc, sb] at *
  (repeat first | refine uA ?_ | (refine uK ?_ ?_; focus first | omega | (intros; simp_all <;> omega)) | simp (disch := omega) only [go_sem, Nat.reduceBEq, Nat.reduceAdd, ww] | (refine uD h ?_ ?_ ?_; exact tz hw; exact rfl))
  exact S.done (d9.out rfl (Imp.refl rfl) rfl)
theorem a7G (l : List Nm.Rt) (hl : Rbs 68719476736 l) : FZ 139 [rts l] (.v (.bool (l.all G9))) := by
  refine q9.of b1K b1H (by exact Nat.le_of_ble_eq_true rfl) fun w O hw => ?_
  have h := a8W 211 (by kernel_rfl) (fun a => !G9 a) l (by have := hl.1; omega) (fun a ha => b8T a (hl.2 a ha))
  have e : l.all G9 = !l.any fun a => !G9 a := by rw [List.not_any_eq_all_not]; simp
  rw [e]
  generalize (l.any fun a => !G9 a) = q at *
  simp only [a6y, l6, TT, II, OA, OB, OC, MM, LL, VV, FF, MG, LG, VG, FG]
  simp only [rts] at *
  (repeat first | refine uA ?_ | (refine uK ?_ ?_; focus first | omega | (intros; simp_all <;> omega)) | simp (disch := omega) only [go_sem, Nat.reduceBEq, Nat.reduceAdd, ww] | (refine uD h ?_ ?_ ?_; exact tz hw; exact rfl))
  exact S.done (d9.out rfl (Imp.refl rfl) rfl)
theorem b9q (f : Fr) (hf : Fb 17179869184 f) : FZ 136 [f.c] (.v (.bool (Z8 f))) := by
  refine q9.of (eff := eff) Tryz.func136 (by conv => { lhs; cbv }) (by exact Nat.le_of_ble_eq_true rfl) fun w O hw => ?_
  obtain ⟨x, y, half, t⟩ := f
  obtain ⟨b1, b2, b3⟩ := hf
  simp only at b1 b2 b3
  have h1 := a7G _ (Rbs.three (by decide) (b1.mono (m := 68719476736) (by decide)) (b2.mono (m := 68719476736) (by decide)) (b3.mono (m := 68719476736) (by decide)))
  rw [a4S] at h1
  have h4 := O3 t b3
  unfold Z8 a1F
  simp only
  generalize (G9 x && G9 y && G9 t) = q1 at *
  generalize A8 (Nm.j3 t) = n at *
  simp only [l6]
  simp only [Fr.c, Fr.enc, rts, rcs, rc, sb, ints, List.map_cons, List.map_nil] at *
  (repeat first | refine uA ?_ | (refine uK ?_ ?_; focus first | omega | (intros; simp_all <;> omega)) | simp (disch := omega) only [go_sem, Nat.reduceBEq, Nat.reduceAdd, ww] | (refine uD h4 ?_ ?_ ?_; exact tz hw; exact rfl) | (refine uE h1 ?_ ?_ ?_ ?_; exact tz hw; exact rfl; focus (repeat' first | exact p8.nil | exact Imp.refl rfl | exact Imp.frz rfl rfl rfl | (refine Imp.P6 rfl rfl ?_ ?_; (focus ((try simp only [List.length_append]); omega)); (focus first | rfl | assumption)) | refine p8.cons ?_ ?_); done))
  have e : (q1 && !(half && !decide (n = 0))) = (q1 && (!half || decide (n = 0))) := by cases q1 <;> cases half <;> simp
  rw [e]
  exact S.done (d9.out rfl (Imp.refl (by rfl)) rfl)
theorem c0F (f : Fr) (hf : Fb 17179869184 f) : FZ 135 [f.c] (.v (.bool (!Z8 f))) := by
  refine q9.of a8P a9a (by exact Nat.le_of_ble_eq_true rfl) fun w O hw => ?_
  have h := b9q f hf
  generalize Z8 f = q at *
  simp only [a4a, l6, TT, II, OA, OB, OC, MM, LL, VV, FF, MG, LG, VG, FG]
  simp only [Fr.c, Fr.enc, sb] at *
  (repeat first | refine uA ?_ | (refine uK ?_ ?_; focus first | omega | (intros; simp_all <;> omega)) | simp (disch := omega) only [go_sem, Nat.reduceBEq, Nat.reduceAdd, ww] | (refine uD h ?_ ?_ ?_; exact tz hw; exact rfl))
  exact S.done (d9.out rfl (Imp.refl rfl) rfl)
theorem c1F (v : Vt) (hv : Vb 68719476736 v) : FZ 138 [v.c] (.v (.bool (!a3e v))) := by
  refine q9.of a8O a8D (by exact Nat.le_of_ble_eq_true rfl) fun w O hw => ?_
  have h := a7G _ (Rbs.two (by decide) hv.1 hv.2)
  rw [a5H] at h
  unfold a3e
  generalize (G9 v.x && G9 v.y) = q at *
  simp only [a4x, l6, TT, II, OA, OB, OC, MM, LL, VV, FF, MG, LG, VG, FG]
  simp only [Vt.c, Vt.enc, rts, rcs, sb, List.map_cons, List.map_nil] at *
  (repeat first | refine uA ?_ | (refine uK ?_ ?_; focus first | omega | (intros; simp_all <;> omega)) | simp (disch := omega) only [go_sem, Nat.reduceBEq, Nat.reduceAdd, ww] | (refine uE h ?_ ?_ ?_ ?_; exact tz hw; exact rfl; focus (repeat' first | exact p8.nil | exact Imp.refl rfl | exact Imp.frz rfl rfl rfl | (refine Imp.P6 rfl rfl ?_ ?_; (focus ((try simp only [List.length_append]); omega)); (focus first | rfl | assumption)) | refine p8.cons ?_ ?_); done))
  exact S.done (d9.out rfl (Imp.refl rfl) rfl)
theorem b7a {a : Am} {q : List Nm.Rt} (h : a1H a q = 0) : q.length = a.links.length := by
  unfold a1H at h
  split at h
  · rename_i h1; exact absurd h h1
  · split at h
    · cases h
    · rename_i h2; exact Classical.not_not.1 h2
theorem c2P (a : Am) (x : Ast) (parts : Nat) (ha : Ab 1073741824 a) (hx : Asb 1073741824 x) (hp : parts <= 1073741824) : FZ 133 [a.c, x.c, .v (.int .i64 (parts : Int))] (ints (a1J a x parts)) := by
  refine q9.of (eff := eff) Tryz.func133 (by conv => { lhs; cbv }) (by exact Nat.le_of_ble_eq_true rfl) fun w O hw => ?_
  have h1 := a7G x.q ⟨by have := hx.1.1; omega, fun r hr => (hx.1.2 r hr).mono (by decide)⟩
  have h2 := a7G x.v ⟨by have := hx.2.1; omega, fun r hr => (hx.2.2 r hr).mono (by decide)⟩
  have h3 := b6S a x.q ha hx.1
  have hln := b7a (a := a) (q := x.q)
  unfold a1J
  generalize a1H a x.q = e at *
  obtain ⟨q, v, power, holds⟩ := x
  simp only at h1 h2 h3 hln ⊢
  generalize q.all G9 = g1 at *
  generalize v.all G9 = g2 at *
  obtain ⟨hvn, hvb⟩ := hx.2
  obtain ⟨name, ⟨bx, by', half, t⟩, links⟩ := a
  obtain ⟨b0, ⟨b1, b2, b3⟩, hn, hb⟩ := ha
  simp only at b0 b1 b2 b3 hn hb hln hvn hvb ⊢
  simp only [l6]
  simp only [Am.c, Am.enc, Ast.c, Ast.enc, lks, rts, sb, ints] at *
  (repeat first | refine uA ?_ | (refine uK ?_ ?_; focus first | omega | (intros; simp_all <;> omega)) | simp (disch := omega) only [go_sem, Nat.reduceBEq, Nat.reduceAdd, ww] | (refine uD h1 ?_ ?_ ?_; exact tz hw; exact rfl) | (refine uD h2 ?_ ?_ ?_; exact tz hw; exact rfl))
  refine S.cond rfl (fun hc => ?_) (fun hc => ?_)
  · rw [if_pos (by cases g1 <;> cases g2 <;> simp_all)]
    (repeat first | refine uA ?_ | (refine uK ?_ ?_; focus first | omega | (intros; simp_all <;> omega)) | simp (disch := omega) only [go_sem, Nat.reduceBEq, Nat.reduceAdd, ww])
    exact S.done (d9.out rfl (Imp.refl rfl) rfl)
  rw [if_neg (by cases g1 <;> cases g2 <;> simp_all)]
  (repeat first | refine uA ?_ | (refine uK ?_ ?_; focus first | omega | (intros; simp_all <;> omega)) | simp (disch := omega) only [go_sem, Nat.reduceBEq, Nat.reduceAdd, ww] | (refine uD h3 ?_ ?_ ?_; exact tz hw; exact rfl))
  refine S.cond rfl (fun hc => ?_) (fun hc => ?_)
  · rw [if_pos (by simpa using hc)]
    (repeat first | refine uA ?_ | (refine uK ?_ ?_; focus first | omega | (intros; simp_all <;> omega)) | simp (disch := omega) only [go_sem, Nat.reduceBEq, Nat.reduceAdd, ww])
    exact S.done (d9.out rfl (Imp.refl rfl) rfl)
  rw [if_neg (by simpa using hc)]
  have hln := hln (by simpa using hc)
  (repeat first | refine uA ?_ | (refine uK ?_ ?_; focus first | omega | (intros; simp_all <;> omega)) | simp (disch := omega) only [go_sem, Nat.reduceBEq, Nat.reduceAdd, ww, List.length_map])
  refine S.cond rfl (fun hc => ?_) (fun hc => ?_)
  · rw [if_pos (by simp only [Bool.or_eq_true, Bool.not_eq_true', decide_eq_true_eq, decide_eq_false_iff_not] at hc; omega)]
    (repeat first | refine uA ?_ | (refine uK ?_ ?_; focus first | omega | (intros; simp_all <;> omega)) | simp (disch := omega) only [go_sem, Nat.reduceBEq, Nat.reduceAdd, ww])
    exact S.done (d9.out rfl (Imp.refl rfl) rfl)
  rw [if_neg (by simp only [Bool.or_eq_false_iff, Bool.not_eq_false', decide_eq_true_eq, decide_eq_false_iff_not] at hc; omega)]
  have hvl : v.length = links.length := by simp only [Bool.or_eq_false_iff, Bool.not_eq_false', decide_eq_true_eq, decide_eq_false_iff_not] at hc; omega
  (repeat first | refine uA ?_ | (refine uK ?_ ?_; focus first | omega | (intros; simp_all <;> omega)) | simp (disch := omega) only [go_sem, Nat.reduceBEq, Nat.reduceAdd, ww, List.length_map])
  refine S.loop (X := Nat) (fun i => ⟨[(4, .bp 1 0), (46, lks links), (47, ints links.length), (48, ints i)], [.gone, .box 90 [rts q, rts v, .v (.bool power), ints holds]]⟩) (fun i => i <= links.length /\ F4 V6 (links.zip v) = F4 V6 ((links.zip v).drop i)) (fun i => links.length - i) 0 ⟨Nat.zero_le _, rfl⟩ (by (repeat first | refine uA ?_ | (refine ⟨?_, ?_⟩; focus first | rfl | simp [slot]) | rfl | simp)) ?_
  rintro i ⟨hi, hg⟩
  simp only [lks, ints, rts]
  (repeat first | refine uA ?_ | (refine uK ?_ ?_; focus first | omega | (intros; simp_all <;> omega)) | simp (disch := omega) only [go_sem, Nat.reduceBEq, Nat.reduceAdd, ww])
  (refine uJ rfl (fun hc => ?_) fun hc => ?_)
  · have hi' : i < links.length := by omega
    have hgi := List.getElem?_eq_getElem hi'
    have hgv := List.getElem?_eq_getElem (show i < v.length by omega)
    generalize links[i] = l at hgi
    generalize v[i]'_ = r at hgv
    have hz := a5z hgi hgv
    have hst := a0f (f := V6) hz
    have hnx := a0k (f := V6) hz
    have bl := hb l (List.mem_of_getElem? hgi)
    have br := (hvb r (List.mem_of_getElem? hgv)).mono (m := 17179869184) (by decide)
    have o1 := c2U r br
    have o2 := a0J (Nm.ofQ (a2J (Nm.j3 r))) l.speed (c1X (br.fit (by decide))) (bl.2.2.2.1.mono (by decide))
    rw [Nm.a0b] at o2
    unfold V6 at hst hnx
    simp only at hst hnx
    generalize Nm.E5 (a2J (Nm.j3 r)) (Nm.j3 l.speed) = n1 at *
    unfold rq at o1
    generalize Nm.ofQ (a2J (Nm.j3 r)) = ar at *
    have hvi : (i : Int) < v.length := by omega
    simp only [rc, sb, ints] at o1 o2
    (repeat first | refine uA ?_ | (refine uK ?_ ?_; focus first | omega | (intros; simp_all <;> omega)) | simp (disch := omega) only [go_sem, Nat.reduceBEq, Nat.reduceAdd, ww, hgi, hgv, Option.map_some, List.length_map, Lk.enc, rcs, vts, sb, Int.toNat_natCast] | (refine uD o1 ?_ ?_ ?_; exact tz hw; exact rfl) | (refine uD o2 ?_ ?_ ?_; exact tz hw; exact rfl))
    refine S.cond rfl (fun hc2 => ?_) (fun hc2 => ?_)
    · have hp : 0 < n1 := by simpa using hc2
      rw [if_pos hp] at hst
      rw [hg, show V6 = fun x : Lk × Nm.Rt => if 0 < Nm.E5 (a2J (Nm.j3 x.2)) (Nm.j3 x.1.speed) then 1 else 0 from rfl, hst (by decide)]
      (repeat first | refine uA ?_ | (refine uK ?_ ?_; focus first | omega | (intros; simp_all <;> omega)) | simp (disch := omega) only [go_sem, Nat.reduceBEq, Nat.reduceAdd, ww])
      exact S.done (d9.out rfl (Imp.refl rfl) rfl)
    · have hp : ¬ 0 < n1 := by simpa using hc2
      rw [if_neg hp] at hnx
      (repeat first | refine uA ?_ | (refine uK ?_ ?_; focus first | omega | (intros; simp_all <;> omega)) | simp (disch := omega) only [go_sem, Nat.reduceBEq, Nat.reduceAdd, ww])
      refine S.next (i + 1) ⟨by omega, ?_⟩ (by omega) (by (repeat first | refine uA ?_ | (refine ⟨?_, ?_⟩; focus first | rfl | simp [slot]) | rfl | simp))
      rw [hg, show V6 = fun x : Lk × Nm.Rt => if 0 < Nm.E5 (a2J (Nm.j3 x.2)) (Nm.j3 x.1.speed) then 1 else 0 from rfl, hnx rfl]
  · rw [hg, a0H (by rw [List.length_zip]; omega)]
    (repeat first | refine uA ?_ | (refine uK ?_ ?_; focus first | omega | (intros; simp_all <;> omega)) | simp (disch := omega) only [go_sem, Nat.reduceBEq, Nat.reduceAdd, ww])
    exact S.done (d9.out rfl (Imp.refl rfl) rfl)
set_option maxHeartbeats 16000000
theorem c2M (h : List Int) (n : Int) : (a0X (.int .i64 n) (hdE h)).getD (.bool false) = .bool (h.contains n) := by
  rw [c1z]; cases h.contains n <;> rfl
theorem b4L {α : Type} (p : α -> Bool) (l : List α) : l.all p = !l.any fun x => !p x := by rw [List.not_any_eq_all_not]; simp
theorem a8E (w : Wk) (s : Stt) (hb : Wb 1073741824 w) (hs : Stb 1073741824 s) : FZ 38 [w.c, s.c] (ints (a0u w s)) := by
  refine q9.of (eff := eff) Tryz.func38 (by conv => { lhs; cbv }) (by exact Nat.le_of_ble_eq_true rfl) fun w' O hw => ?_
  have hwk := a8V w hb
  obtain ⟨⟨n1, b1⟩, ⟨n2, b2⟩, ⟨n3, b3⟩, n4⟩ := hs
  have hone := fun (a : Am) (x : Ast) (ha : a ∈ w.arms) (hx : x ∈ s.arms) => c2P a x w.parts.length (hb.arms.2 a ha) (b1 x hx) (by have := hb.parts.1; omega)
  have hfr := b5H 135 (by kernel_rfl) (fun f => !Z8 f) s.parts (by omega) (fun f hf => c0F f ⟨(b2 f hf).1.mono (by decide), (b2 f hf).2.1.mono (by decide), (b2 f hf).2.2.mono (by decide)⟩)
  have hvc := b2n 138 (by kernel_rfl) (fun v => !a3e v) s.people (by omega) (fun v hv => c1F v ((b3 v hv).mono (by decide)))
  have m1 := hb.arms.1
  have m2 := hb.parts.1
  have m3 := hb.gates.1
  unfold a0u
  rw [b4L Z8, b4L a3e]
  generalize I9 w = e0 at *
  generalize (s.parts.any fun f => !Z8 f) = g1 at *
  generalize (s.people.any fun v => !a3e v) = g2 at *
  obtain ⟨arms, walls, parts, slots, gates, walk⟩ := w
  obtain ⟨tick, sarms, sparts, people, sgates⟩ := s
  simp only at *
  simp only [l6]
  simp only [Wk.c, Wk.enc, Stt.c, Stt.enc, ams, wls, pts, sls, gts, I8, frs, vts, bls, sb, ints] at hwk hfr hvc ⊢
  (repeat first | refine uA ?_ | (refine uK ?_ ?_; focus first | omega | (intros; simp_all <;> omega)) | simp (disch := omega) only [go_sem, Nat.reduceBEq, Nat.reduceAdd, ww] | (refine uD hwk ?_ ?_ ?_; exact tz hw; exact rfl))
  refine S.cond rfl (fun hc => ?_) (fun hc => ?_)
  · rw [if_pos (by simpa using hc)]
    (repeat first | refine uA ?_ | (refine uK ?_ ?_; focus first | omega | (intros; simp_all <;> omega)) | simp (disch := omega) only [go_sem, Nat.reduceBEq, Nat.reduceAdd, ww])
    exact S.done (d9.out rfl (Imp.refl rfl) rfl)
  rw [if_neg (by simpa using hc)]
  (repeat first | refine uA ?_ | (refine uK ?_ ?_; focus first | omega | (intros; simp_all <;> omega)) | simp (disch := omega) only [go_sem, Nat.reduceBEq, Nat.reduceAdd, ww, List.length_map])
  refine S.cond rfl (fun hc => ?_) (fun hc => ?_)
  · rw [if_pos (by simp only [decide_eq_true_eq] at hc; omega)]
    (repeat first | refine uA ?_ | (refine uK ?_ ?_; focus first | omega | (intros; simp_all <;> omega)) | simp (disch := omega) only [go_sem, Nat.reduceBEq, Nat.reduceAdd, ww])
    exact S.done (d9.out rfl (Imp.refl rfl) rfl)
  rw [if_neg (by simp only [decide_eq_false_iff_not] at hc; omega)]
  (repeat first | refine uA ?_ | (refine uK ?_ ?_; focus first | omega | (intros; simp_all <;> omega)) | simp (disch := omega) only [go_sem, Nat.reduceBEq, Nat.reduceAdd, ww, List.length_map])
  refine S.cond rfl (fun hc => ?_) (fun hc => ?_)
  · rw [if_pos (by simp only [Bool.or_eq_true, Bool.not_eq_true', decide_eq_true_eq, decide_eq_false_iff_not] at hc; omega)]
    (repeat first | refine uA ?_ | (refine uK ?_ ?_; focus first | omega | (intros; simp_all <;> omega)) | simp (disch := omega) only [go_sem, Nat.reduceBEq, Nat.reduceAdd, ww])
    exact S.done (d9.out rfl (Imp.refl rfl) rfl)
  have hls : sarms.length = arms.length := by simp only [Bool.or_eq_false_iff, Bool.not_eq_false', decide_eq_true_eq, decide_eq_false_iff_not] at hc; omega
  rw [if_neg (by simp only [Bool.or_eq_false_iff, Bool.not_eq_false', decide_eq_true_eq, decide_eq_false_iff_not] at hc; omega)]
  (repeat first | refine uA ?_ | (refine uK ?_ ?_; focus first | omega | (intros; simp_all <;> omega)) | simp (disch := omega) only [go_sem, Nat.reduceBEq, Nat.reduceAdd, ww, List.length_map])
  refine S.loop (X := Nat × List Int) (fun x => ⟨[(2, .bp 0 0), (3, .bp 1 0), (6, .mp 2), (56, I8 sarms), (57, ints sarms.length), (58, ints x.1)], [.box 31 [ams arms, wls walls, pts parts, sls slots, gts gates, .v (.bool walk.neg), sb walk.num, sb walk.den], .box 37 [ints tick, I8 sarms, frs sparts, vts people, bls sgates], .map false (hdE x.2)]⟩)
    (fun x => x.1 <= sarms.length /\ r9 (X0 parts.length) [] (arms.zip sarms) = r9 (X0 parts.length) x.2 ((arms.zip sarms).drop x.1)) (fun x => sarms.length - x.1) (0, []) ⟨Nat.zero_le _, rfl⟩ (by (repeat first | refine uA ?_ | (refine ⟨?_, ?_⟩; focus first | rfl | simp [slot]) | rfl | simp)) ?_
  rintro ⟨i, h⟩ ⟨hi, hg⟩
  simp only [ams, wls, pts, sls, gts, I8, frs, vts, bls, sb, ints] at hi hg ⊢
  (repeat first | refine uA ?_ | (refine uK ?_ ?_; focus first | omega | (intros; simp_all <;> omega)) | simp (disch := omega) only [go_sem, Nat.reduceBEq, Nat.reduceAdd, ww])
  (refine uJ rfl (fun hc => ?_) fun hc => ?_)
  · have hgx := List.getElem?_eq_getElem (show i < sarms.length by omega)
    have hga := List.getElem?_eq_getElem (show i < arms.length by omega)
    generalize sarms[i]'_ = x at hgx
    generalize arms[i]'_ = a at hga
    have hz := a5z hga hgx
    have hst := U1 (f := X0 parts.length) (s := h) hz
    have hnx := U2 (f := X0 parts.length) (s := h) hz
    have ho := hone a x (List.mem_of_getElem? hga) (List.mem_of_getElem? hgx)
    have hlk := c2M h x.holds
    have hpt := c1Q h x.holds
    have hai : (i : Int) < arms.length := by omega
    have hv : X0 parts.length h (a, x) = if a1J a x parts.length ≠ 0 then (a1J a x parts.length, h) else if (decide (0 <= x.holds) && h.contains x.holds) = true then (10, h) else (0, a2z h x.holds) := rfl
    rw [hv] at hst hnx
    clear hv
    generalize a1J a x parts.length = e1 at *
    generalize h.contains x.holds = c1 at *
    simp only [Am.c, Am.enc, Ast.c, Ast.enc, lks, rts, sb, ints] at ho
    (repeat first | refine uA ?_ | (refine uK ?_ ?_; focus first | omega | (intros; simp_all <;> omega)) | simp (disch := omega) only [go_sem, Nat.reduceBEq, Nat.reduceAdd, ww, hga, hgx, Option.map_some, List.length_map, Am.enc, Ast.enc, lks, rts, sb, ints, Int.toNat_natCast] | (refine uD ho ?_ ?_ ?_; exact tz hw; exact rfl))
    refine S.cond rfl (fun hc2 => ?_) (fun hc2 => ?_)
    · have h0 : e1 ≠ 0 := by simpa using hc2
      rw [if_pos h0] at hst
      rw [hg, hst h0, if_pos h0]
      (repeat first | refine uA ?_ | (refine uK ?_ ?_; focus first | omega | (intros; simp_all <;> omega)) | simp (disch := omega) only [go_sem, Nat.reduceBEq, Nat.reduceAdd, ww])
      exact S.done (d9.out rfl (Imp.refl rfl) rfl)
    have h0 : e1 = 0 := by simpa using hc2
    rw [if_neg (by simp [h0])] at hst hnx
    (repeat first | refine uA ?_ | (refine uK ?_ ?_; focus first | omega | (intros; simp_all <;> omega)) | simp (disch := omega) only [go_sem, Nat.reduceBEq, Nat.reduceAdd, ww, hlk])
    refine S.cond rfl (fun hc3 => ?_) (fun hc3 => ?_)
    · rw [if_pos hc3] at hst
      rw [hg, hst (by simp), if_pos (by simp)]
      (repeat first | refine uA ?_ | (refine uK ?_ ?_; focus first | omega | (intros; simp_all <;> omega)) | simp (disch := omega) only [go_sem, Nat.reduceBEq, Nat.reduceAdd, ww])
      exact S.done (d9.out rfl (Imp.refl rfl) rfl)
    · rw [if_neg (by rw [hc3]; decide)] at hnx
      (repeat first | refine uA ?_ | (refine uK ?_ ?_; focus first | omega | (intros; simp_all <;> omega)) | simp (disch := omega) only [go_sem, Nat.reduceBEq, Nat.reduceAdd, ww, hpt])
      refine S.next (x := (i, h)) (i + 1, a2z h x.holds) ⟨by simp only; omega, by simp only; rw [hg, hnx rfl]⟩ (by simp only; omega) (by (repeat first | refine uA ?_ | (refine ⟨?_, ?_⟩; focus first | rfl | simp [slot]) | rfl | simp))
  · rw [hg, X6 (by rw [List.length_zip]; omega), if_neg (by simp)]
    (repeat first | refine uA ?_ | (refine uK ?_ ?_; focus first | omega | (intros; simp_all <;> omega)) | simp (disch := omega) only [go_sem, Nat.reduceBEq, Nat.reduceAdd, ww] | (refine uD hfr ?_ ?_ ?_; exact tz hw; exact rfl) | (refine uD hvc ?_ ?_ ?_; exact tz hw; exact rfl))
    refine S.cond rfl (fun hc => ?_) (fun hc => ?_)
    · rw [if_neg (by cases g1 <;> cases g2 <;> simp_all)]
      (repeat first | refine uA ?_ | (refine uK ?_ ?_; focus first | omega | (intros; simp_all <;> omega)) | simp (disch := omega) only [go_sem, Nat.reduceBEq, Nat.reduceAdd, ww])
      exact S.done (d9.out rfl (Imp.refl rfl) rfl)
    · rw [if_pos (by cases g1 <;> cases g2 <;> simp_all)]
      (repeat first | refine uA ?_ | (refine uK ?_ ?_; focus first | omega | (intros; simp_all <;> omega)) | simp (disch := omega) only [go_sem, Nat.reduceBEq, Nat.reduceAdd, ww])
      exact S.done (d9.out rfl (Imp.refl rfl) rfl)
theorem b0l : Rb 8 (Nm.ofQ 0) := ⟨Nm.L6 (by decide), Nm.L6 (by decide)⟩
theorem b6G : FZ 71 [.v (.int .i64 0)] (rq 0) := by
  have := c2T 0 (by decide) (by decide)
  rwa [show ((0 : Int) : Rat) = 0 from rfl] at this
theorem b5k : FZ 154 [] a1s.c := by
  refine q9.of (eff := eff) Tryz.func154 (by conv => { lhs; cbv }) (by exact Nat.le_of_ble_eq_true rfl) fun w O hw => ?_
  have h1 := b6G
  have h2 := c3b (Nm.ofQ 0) (b0l.mono (by decide))
  rw [Nm.a0b] at h2
  unfold tq rq at *
  unfold a1s
  generalize Nm.ofQ 0 = r at *
  simp only [l6]
  simp only [Fr.c, Fr.enc, rc, tc, sb] at *
  (repeat first | refine uA ?_ | (refine uK ?_ ?_; focus first | omega | (intros; simp_all <;> omega)) | simp (disch := omega) only [go_sem, Nat.reduceBEq, Nat.reduceAdd, ww] | (refine uD h1 ?_ ?_ ?_; exact tz hw; exact rfl) | (refine uD h2 ?_ ?_ ?_; exact tz hw; exact rfl))
  (refine S.done ?_; simp only [D8, x9, go_sem, Nat.reduceBEq, Nat.reduceAdd, Nat.reduceLeDiff, Int.reduceToNat, Int.reducePow]; (repeat (refine ⟨?_, ?_⟩; focus first | trivial | omega | simp)); exact d9.out rfl (Imp.refl rfl) rfl)
theorem b4G (w : Wk) (hwb : Wb 1073741824 w) (h : I9 w = 0) : FZ 46 [w.c] (.tup [(H8 w).c, ints 0]) := by
  refine q9.of a5P a5K (by exact Nat.le_of_ble_eq_true rfl) fun w' O hw => ?_
  have hck := a8V w hwb
  rw [h] at hck
  obtain ⟨n1, b1⟩ := hwb.arms
  have n3 := hwb.parts.1
  have n4 := hwb.slots.1
  have n5 := hwb.gates.1
  have hz := b6G
  have hfz := b5k
  have hpe : ∀ i, a4n w i = if h : i < w.slots.length then (w.slots[i]).frame else a1s := fun _ => rfl
  unfold H8
  generalize hfp : a4n w = fP at *
  obtain ⟨arms, walls, parts, slots, gates, walk⟩ := w
  simp only at n1 b1 n3 n4 n5 hpe ⊢
  simp only [a2C, l6, TT, II, OA, OB, OC, MM, LL, VV, FF, MG, LG, VG, FG]
  simp only [Wk.c, Wk.enc, Stt.c, Stt.enc, ams, wls, pts, sls, gts, I8, frs, vts, bls, rc, sb, ints] at hck ⊢
  (repeat first | refine uA ?_ | (refine uK ?_ ?_; focus first | omega | (intros; simp_all <;> omega)) | simp (disch := omega) only [go_sem, Nat.reduceBEq, Nat.reduceAdd, ww] | (refine uD hck ?_ ?_ ?_; exact tz hw; exact rfl))
  refine S.cond rfl (fun hc => by simp at hc) (fun hc => ?_)
  (repeat first | refine uA ?_ | (refine uK ?_ ?_; focus first | omega | (intros; simp_all <;> omega)) | simp (disch := omega) only [go_sem, Nat.reduceBEq, Nat.reduceAdd, ww, List.length_map])
  refine S.loop (X := Nat) (fun i => ⟨[(1, .bp 0 0), (2, .bp 1 0), (5, .bp 2 0), (20, ams arms), (21, ints arms.length), (22, ints i)], [.box 31 [ams arms, wls walls, pts parts, sls slots, gts gates, .v (.bool walk.neg), sb walk.num, sb walk.den], .box 37 [.v (.int .i64 0), .v (.slice none 0 0), .v (.slice none 0 0), .v (.slice none 0 0), .v (.slice none 0 0)], .box 37 [.v (.int .i64 0), .rv 3, .rv 4, .v (.slice none 0 0), .v (.slice none 0 0)], .row 90 4 (((arms.take i).map M7).map Ast.enc), .row 55 10 []]⟩) (fun i => i <= arms.length) (fun i => arms.length - i) 0 (Nat.zero_le _)
    (Ent.trans (Ent.a0n 2 1 90 4 rfl rfl rfl) (Ent.trans (Ent.a0n 2 2 55 10 rfl rfl rfl) (by (repeat first | refine uA ?_ | (refine ⟨?_, ?_⟩; focus first | rfl | simp [slot]) | rfl | simp)))) ?_
  intro i hi
  simp only [ams, wls, pts, sls, gts, vts, sb, ints]
  (repeat first | refine uA ?_ | (refine uK ?_ ?_; focus first | omega | (intros; simp_all <;> omega)) | simp (disch := omega) only [go_sem, Nat.reduceBEq, Nat.reduceAdd, ww])
  (refine uJ rfl (fun hc => ?_) fun hc => ?_)
  · have hi' : i < arms.length := by omega
    have hgi := List.getElem?_eq_getElem hi'
    have hap : arms.take (i + 1) = arms.take i ++ [arms[i]] := List.take_succ_eq_append_getElem hi'
    have htl : (arms.take i).length = i := by rw [List.length_take]; omega
    generalize arms[i] = a at hgi hap
    obtain ⟨b0, _, nl, bl⟩ := b1 a (List.mem_of_getElem? hgi)
    (repeat first | refine uA ?_ | (refine uK ?_ ?_; focus first | omega | (intros; simp_all <;> omega)) | simp (disch := omega) only [go_sem, Nat.reduceBEq, Nat.reduceAdd, ww, hgi, Option.map_some, List.length_map, Am.enc, lks, sb])
    refine S.loop (X := Nat) (fun k => ⟨[(1, .bp 0 0), (2, .bp 1 0), (5, .bp 2 0), (8, .bp 6 0), (20, ams arms), (21, ints arms.length), (22, ints i), (28, lks a.links), (29, ints a.links.length), (30, ints k)], [.box 31 [ams arms, wls walls, pts parts, sls slots, gts gates, .v (.bool walk.neg), sb walk.num, sb walk.den], .box 37 [.v (.int .i64 0), .v (.slice none 0 0), .v (.slice none 0 0), .v (.slice none 0 0), .v (.slice none 0 0)], .box 37 [.v (.int .i64 0), .rv 3, .rv 4, .v (.slice none 0 0), .v (.slice none 0 0)], .row 90 4 (((arms.take i).map M7).map Ast.enc), .row 55 10 [], .gone, .box 90 [.rv 7, .rv 8, .v (.bool false), .v (.int .i64 (-1))], .row 29 3 (((a.links.take k).map Y3).map rcs), .row 29 3 (((a.links.take k).map fun _ => Nm.ofQ 0).map rcs)]⟩) (fun k => k <= a.links.length) (fun k => a.links.length - k) 0 (Nat.zero_le _)
      (Ent.trans (Ent.a0n 6 0 29 3 rfl rfl rfl) (Ent.trans (Ent.a0n 6 1 29 3 rfl rfl rfl) (by (repeat first | refine uA ?_ | (refine ⟨?_, ?_⟩; focus first | rfl | simp [slot]) | rfl | simp)))) ?_
    intro k hk
    simp only [ams, wls, pts, sls, gts, lks, vts, sb, ints]
    (repeat first | refine uA ?_ | (refine uK ?_ ?_; focus first | omega | (intros; simp_all <;> omega)) | simp (disch := omega) only [go_sem, Nat.reduceBEq, Nat.reduceAdd, ww])
    (refine uJ rfl (fun hc => ?_) fun hc => ?_)
    · have hk' : k < a.links.length := by omega
      have hgk := List.getElem?_eq_getElem hk'
      have hak : a.links.take (k + 1) = a.links.take k ++ [a.links[k]] := List.take_succ_eq_append_getElem hk'
      have htk : (a.links.take k).length = k := by rw [List.length_take]; omega
      generalize a.links[k] = l at hgk hak
      obtain ⟨_, l2, l3, _⟩ := bl l (List.mem_of_getElem? hgk)
      have z1 := b0l
      have z2 := l3.fit (by decide)
      have o1 := b7k l.high (Nm.ofQ 0) (l3.mono (by decide)) (b0l.mono (by decide))
      rw [Nm.a0b] at o1
      have z3 : Rb 1073741824 (Nm.ofQ (a1Q (Nm.j3 l.high) 0)) := by unfold a1Q; split; exact z2; exact z1.mono (by decide)
      have o2 := c2I l.low (Nm.ofQ (a1Q (Nm.j3 l.high) 0)) (l2.mono (by decide)) (z3.mono (by decide))
      rw [Nm.a0b] at o2
      have hq : Y3 l = Nm.ofQ (a6s (Nm.j3 l.low) (a1Q (Nm.j3 l.high) 0)) := rfl
      unfold rq at o1 o2 hz
      generalize Nm.ofQ (a6s (Nm.j3 l.low) (a1Q (Nm.j3 l.high) 0)) = r2 at *
      generalize Nm.ofQ (a1Q (Nm.j3 l.high) 0) = r1 at *
      generalize Nm.ofQ 0 = r0 at *
      simp only [rc, sb] at o1 o2 hz
      (repeat first | refine uA ?_ | (refine uK ?_ ?_; focus first | omega | (intros; simp_all <;> omega)) | simp (disch := omega) only [go_sem, Nat.reduceBEq, Nat.reduceAdd, ww, hgk, Option.map_some, List.length_map, htk, Lk.enc, vts, sb] | (refine uD hz ?_ ?_ ?_; exact tz hw; exact rfl) | (refine uD o1 ?_ ?_ ?_; exact tz hw; exact rfl) | (refine uD o2 ?_ ?_ ?_; exact tz hw; exact rfl))
      refine S.next (k + 1) (by omega) (by omega) (by simp only [hak, hq, List.map_append, List.map_cons, List.map_nil, rcs, sb]; exact (by (repeat first | refine uA ?_ | (refine ⟨?_, ?_⟩; focus first | rfl | simp [slot]) | rfl | simp)))
    · have hk' : k = a.links.length := by omega
      subst hk'
      rw [List.take_length]
      refine S.exit rfl ?_
      refine S.weaken (st' := ⟨[(1, .bp 0 0), (2, .bp 1 0), (5, .bp 2 0), (8, .bp 6 0), (20, ams arms), (21, ints arms.length), (22, ints i)], [.box 31 [ams arms, wls walls, pts parts, sls slots, gts gates, .v (.bool walk.neg), sb walk.num, sb walk.den], .box 37 [.v (.int .i64 0), .v (.slice none 0 0), .v (.slice none 0 0), .v (.slice none 0 0), .v (.slice none 0 0)], .box 37 [.v (.int .i64 0), .rv 3, .rv 4, .v (.slice none 0 0), .v (.slice none 0 0)], .row 90 4 (((arms.take i).map M7).map Ast.enc), .row 55 10 [], .gone, .box 90 (M7 a).enc]⟩) (Ent.mk _ _ (by (repeat first | refine uA ?_ | (refine ⟨?_, ?_⟩; focus first | rfl | simp [slot]) | rfl | simp)) (by (repeat' (first | exact M8.nil | exact RI.gone _ | exact RI.row _ _ _ _ rfl | exact RI.map _ _ _ rfl | exact RI.box _ _ _ (p8.refl rfl) | (refine RI.box _ _ _ ?_; (repeat' (first | exact p8.nil | exact Imp.refl rfl | exact Imp.frz rfl rfl rfl | exact Imp.a1I | refine p8.cons ?_ ?_))) | refine M8.cons ?_ ?_))) (Nat.zero_le _)) ?_
      simp only [ams, wls, pts, sls, gts, vts, sb, ints, Ast.enc, rts]
      (repeat first | refine uA ?_ | (refine uK ?_ ?_; focus first | omega | (intros; simp_all <;> omega)) | simp (disch := omega) only [go_sem, Nat.reduceBEq, Nat.reduceAdd, ww, List.length_map, htl])
      refine S.next (i + 1) (by omega) (by omega) (by simp only [hap, List.map_append, List.map_cons, List.map_nil, Ast.enc, rts, ints]; exact (by (repeat first | refine uA ?_ | (refine ⟨?_, ?_⟩; focus first | rfl | simp [slot]) | rfl | simp)))
  · have hi' : i = arms.length := by omega
    subst hi'
    rw [List.take_length]
    (repeat first | refine uA ?_ | (refine uK ?_ ?_; focus first | omega | (intros; simp_all <;> omega)) | simp (disch := omega) only [go_sem, Nat.reduceBEq, Nat.reduceAdd, ww, List.length_map])
    refine S.loop (X := Nat) (fun i => ⟨[(1, .bp 0 0), (2, .bp 1 0), (5, .bp 2 0), (62, ints parts.length), (63, ints i)], [.box 31 [ams arms, wls walls, pts parts, sls slots, gts gates, .v (.bool walk.neg), sb walk.num, sb walk.den], .box 37 [.v (.int .i64 0), .v (.slice none 0 0), .v (.slice none 0 0), .v (.slice none 0 0), .v (.slice none 0 0)], .box 37 [.v (.int .i64 0), .rv 3, .rv 4, .v (.slice none 0 0), .v (.slice none 0 0)], .row 90 4 ((arms.map M7).map Ast.enc), .row 55 10 (((List.range i).map fP).map Fr.enc)]⟩) (fun i => i <= parts.length) (fun i => parts.length - i) 0 (Nat.zero_le _) (by (repeat first | refine uA ?_ | (refine ⟨?_, ?_⟩; focus first | rfl | simp [slot]) | rfl | simp)) ?_
    intro i hi
    simp only [ams, wls, pts, sls, gts, vts, sb, ints]
    (repeat first | refine uA ?_ | (refine uK ?_ ?_; focus first | omega | (intros; simp_all <;> omega)) | simp (disch := omega) only [go_sem, Nat.reduceBEq, Nat.reduceAdd, ww])
    (refine uJ rfl (fun hc => ?_) fun hc => ?_)
    · have hrl : ((List.range i).map fP).length = i := by simp
      simp only [a1s, Fr.c, Fr.enc, sb] at hfz
      (repeat first | refine uA ?_ | (refine uK ?_ ?_; focus first | omega | (intros; simp_all <;> omega)) | simp (disch := omega) only [go_sem, Nat.reduceBEq, Nat.reduceAdd, ww] | (refine uD hfz ?_ ?_ ?_; exact tz hw; exact rfl))
      refine S.join (Y := Fr) (fun f => ⟨[(1, .bp 0 0), (2, .bp 1 0), (5, .bp 2 0), (12, .bp 5 0), (62, ints parts.length), (63, ints i)], [.box 31 [ams arms, wls walls, pts parts, sls slots, gts gates, .v (.bool walk.neg), sb walk.num, sb walk.den], .box 37 [.v (.int .i64 0), .v (.slice none 0 0), .v (.slice none 0 0), .v (.slice none 0 0), .v (.slice none 0 0)], .box 37 [.v (.int .i64 0), .rv 3, .rv 4, .v (.slice none 0 0), .v (.slice none 0 0)], .row 90 4 ((arms.map M7).map Ast.enc), .row 55 10 (((List.range i).map fP).map Fr.enc), .box 55 f.enc]⟩) (fun f => f = fP i) ?_ ?_
      · refine S.cond rfl (fun hc => ?_) (fun hc => ?_)
        · have hsi : i < slots.length := by simp at hc; omega
          have hgs := List.getElem?_eq_getElem hsi
          have hf : fP i = (slots[i]).frame := by rw [hpe i, dif_pos hsi]
          generalize slots[i] = s at hgs hf
          (repeat first | refine uA ?_ | (refine uK ?_ ?_; focus first | omega | (intros; simp_all <;> omega)) | simp (disch := omega) only [go_sem, Nat.reduceBEq, Nat.reduceAdd, ww, hgs, Option.map_some, List.length_map, Sl.enc, sb, Int.toNat_natCast])
          exact S.met s.frame hf.symm (by simp only [ams, wls, pts, sls, gts, vts, sb, ints, Fr.enc]; exact (by (repeat first | refine uA ?_ | (refine ⟨?_, ?_⟩; focus first | rfl | simp [slot]) | rfl | simp)))
        · have hf : fP i = a1s := by rw [hpe i, dif_neg (by simp at hc; omega)]
          (repeat first | refine uA ?_ | (refine uK ?_ ?_; focus first | omega | (intros; simp_all <;> omega)) | simp (disch := omega) only [go_sem, Nat.reduceBEq, Nat.reduceAdd, ww])
          exact S.met a1s hf.symm (by simp only [ams, wls, pts, sls, gts, vts, sb, ints, Fr.enc, a1s]; exact (by (repeat first | refine uA ?_ | (refine ⟨?_, ?_⟩; focus first | rfl | simp [slot]) | rfl | simp)))
      rintro f hf
      simp only [ams, wls, pts, sls, gts, vts, sb, ints, Fr.enc]
      (repeat first | refine uA ?_ | (refine uK ?_ ?_; focus first | omega | (intros; simp_all <;> omega)) | simp (disch := omega) only [go_sem, Nat.reduceBEq, Nat.reduceAdd, ww, List.length_map, hrl, List.length_range])
      refine S.next (i + 1) (by omega) (by omega) (by simp only [List.range_succ, List.map_append, List.map_cons, List.map_nil, <- hf, Fr.enc, sb]; exact (by (repeat first | refine uA ?_ | (refine ⟨?_, ?_⟩; focus first | rfl | simp [slot]) | rfl | simp)))
    · have hi' : i = parts.length := by omega
      subst hi'
      simp only [List.map_replicate]
      (repeat first | refine uA ?_ | (refine uK ?_ ?_; focus first | omega | (intros; simp_all <;> omega)) | simp (disch := omega) only [go_sem, Nat.reduceBEq, Nat.reduceAdd, ww, List.length_map, Int.toNat_natCast])
      (refine S.done ?_; simp only [D8, x9, go_sem, Nat.reduceBEq, Nat.reduceAdd, Nat.reduceLeDiff, Int.reduceToNat, Int.reducePow]; (repeat (refine ⟨?_, ?_⟩; focus first | trivial | omega | simp)); exact d9.out rfl (Imp.tup (by (repeat' (first | exact p8.nil | exact Imp.refl rfl | exact Imp.frz rfl rfl rfl | exact Imp.a1I | refine Imp.agg ?_ | refine p8.cons ?_ ?_)))) rfl)
set_option maxRecDepth 10000
set_option maxHeartbeats 4000000
open Go Eng
def nx (l : List Int) (n : Int) : Int := l.headD 0 % n
abbrev Q (n d : Int) : Nm.Rt := Nm.ofQ (mkRat n d.toNat)
def atV (x y : Int) : Vt := ⟨Q x 4, Q y 4⟩
def a4N (x y u v : Int) : List Vt := [atV x y, atV u y, atV u v, atV x v]
def a1t (w h k s : Int) : List Vt :=
  if k = 0 then [atV (-w) (-h), atV w (-h), atV w h, atV (-w) h] else
  if k = 1 then [atV (-w) (-h), atV w (-h), atV (s - w) h] else
  if k = 2 then [atV (-w - 1) (-h - 1), atV w (-h - 1), atV (w + 1) (-h), atV (w + 1) h, atV (-w - 1) h] else
  [atV (-w) 0, atV 0 (-h), atV w 0, atV 0 h]
def a1j (l : List Int) : List Vt × List Int :=
  let w := 1 + nx l 6
  let h := 1 + nx (l.drop 1) 6
  let k := nx (l.drop 2) 4
  if k = 1 then (a1t w h k (nx (l.drop 3) (2 * w + 1)), l.drop 4) else (a1t w h k 0, l.drop 3)
def a4P (a lo hi sp br tri : Int) : Lk :=
  ⟨Q (4 + 2 * a) 4, Q (-1 - lo) 3, Q (1 + hi) 3, Q 1 (4 + sp), Q 1 (10 + br), if tri = 2 then [atV (-1) (-1), atV (4 + 2 * a + 1) 0, atV (-1) 1] else a4N (-1) (-1) (4 + 2 * a + 1) 1⟩
def b5r (l : List Int) : Lk := a4P (nx l 4) (nx (l.drop 1) 6) (nx (l.drop 2) 6) (nx (l.drop 3) 8) (nx (l.drop 4) 20) (nx (l.drop 5) 3)
def a2l : Nat -> List Int -> List Lk
  | 0, _ => []
  | n + 1, l => b5r l :: a2l n (l.drop 6)
def a3d (k : Int) : Int := if k = 0 then 0 else if k = 2 then -1 else 1
def a3Z (n : Nat) : List UInt8 := [[111, 110, 101], [116, 119, 111], [116, 104, 114, 101, 101], [102, 111, 117, 114]].getD n []
def a3E (l : List Int) : Nat := (1 + nx (l.drop 2) 3).toNat
def b0i (l : List Int) (n : Nat) : Am := ⟨a3Z n, ⟨Q (40 * n) 4, Q 0 4, false, Q (a3d (nx l 4)) (1 + nx (l.drop 1) 3)⟩, a2l (a3E l) (l.drop 3)⟩
def b0t (l : List Int) : List Int := l.drop (3 + 6 * a3E l)
def a1D : Nat -> Nat -> List Int -> List Am
  | 0, _, _ => []
  | k + 1, n, l => b0i l n :: a1D k (n + 1) (b0t l)
def a6t : Nat -> List Int -> List Int
  | 0, l => l
  | k + 1, l => a6t k (b0t l)
def a0T (l : List Int) : Int := if nx (l.drop 2) 2 = 1 then -(12 + nx (l.drop 1) 30) - 6 else 12 + nx (l.drop 1) 30
def b1U (l : List Int) : List Vt :=
  a4N (nx l 80 - 30) (a0T l) (nx l 80 - 30 + 1 + nx (l.drop 3) 20) (a0T l + 1 + nx (l.drop 4) 5)
def a1A : Nat -> List Int -> List (List Vt)
  | 0, _ => []
  | k + 1, l => b1U l :: a1A k (l.drop 5)
def a3G (n : Nat) : List UInt8 := [[98, 111, 108, 116], [110, 117, 116]].getD n []
def c0j (l : List Int) (n : Nat) : Pt := ⟨a3G n, (a1j l).1, ⟨Q 0 4, Q 0 4, false, Q 0 1⟩⟩
def a0s : Nat -> Nat -> List Int -> List Pt
  | 0, _, _ => []
  | k + 1, n, l => c0j l n :: a0s k (n + 1) (a1j l).2
def a4m : Nat -> List Int -> List Int
  | 0, l => l
  | k + 1, l => a4m k (a1j l).2
def a4I (n : Nat) : List UInt8 := [[104, 101, 114, 101], [116, 104, 101, 114, 101], [98, 101, 121, 111, 110, 100]].getD n []
def b5L (l : List Int) (n : Nat) : Sl := ⟨a4I n, ⟨Q (nx l 40 - 20) 4, Q (nx (l.drop 1) 24 - 12) 4, false, Q (nx (l.drop 2) 5 - 2) 2⟩, Q 1 (8 + nx (l.drop 3) 20)⟩
def a0q : Nat -> Nat -> List Int -> List Sl
  | 0, _, _ => []
  | k + 1, n, l => b5L l n :: a0q k (n + 1) (l.drop 4)
def b6v (l : List Int) : Gt := ⟨[100, 111, 111, 114], atV (nx l 60 - 30) (nx (l.drop 1) 60 - 30), atV (nx l 60 - 30 + nx (l.drop 2) 12) (nx (l.drop 1) 60 - 30 + nx (l.drop 3) 12)⟩
def a0x : Nat -> List Int -> List Gt
  | 0, _ => []
  | k + 1, l => b6v l :: a0x k (l.drop 4)
def nA (l : List Int) : Nat := (1 + nx l 2).toNat
def l1 (l : List Int) : List Int := a6t (nA l) (l.drop 1)
def nW (l : List Int) : Nat := (nx (l1 l) 3).toNat
def l2 (l : List Int) : List Int := (l1 l).drop (1 + 5 * nW l)
def nP (l : List Int) : Nat := (nx (l2 l) 3).toNat
def l3 (l : List Int) : List Int := a4m (nP l) ((l2 l).drop 1)
def nS (l : List Int) : Nat := nP l + (nx (l3 l) 2).toNat
def l4 (l : List Int) : List Int := (l3 l).drop (1 + 4 * nS l)
def nG (l : List Int) : Nat := (nx (l4 l) 2).toNat
def l5 (l : List Int) : List Int := (l4 l).drop (1 + 4 * nG l)
def J3 (l : List Int) : Wk :=
  ⟨a1D (nA l) 0 (l.drop 1), a1A (nW l) ((l1 l).drop 1), a0s (nP l) 0 ((l2 l).drop 1), a0q (nS l) 0 ((l3 l).drop 1), a0x (nG l) ((l4 l).drop 1), Q (nx (l5 l) 4) 8⟩
theorem l8 (l : List Int) {n : Int} (h : 0 < n) : 0 <= nx l n := Int.emod_nonneg _ (by omega)
theorem D9 (l : List Int) {n : Int} (h : 0 < n) : nx l n < n := Int.emod_lt_of_pos _ h
set_option maxRecDepth 100000
theorem b3E (n d : Int) (hd : 1 <= d) : ∃ g : Nat, 0 < g /\ (∃ k : Int, n = g * k /\ (mkRat n d.toNat).num = k) /\ (mkRat n d.toNat).den <= d.toNat := by
  have hd0 : d.toNat ≠ 0 := by omega
  rw [Rat.num_mkRat, Rat.den_mkRat, if_neg hd0, if_neg hd0]
  have hg : 0 < Nat.gcd d.toNat n.natAbs := Nat.gcd_pos_of_pos_left _ (by omega)
  refine ⟨Nat.gcd d.toNat n.natAbs, hg, ?_, Nat.div_le_self _ _⟩
  have hdv : ((Nat.gcd d.toNat n.natAbs : Nat) : Int) ∣ n := Int.ofNat_dvd_left.2 (Nat.gcd_dvd_right ..)
  obtain ⟨k, hk⟩ := hdv
  refine ⟨k, hk, ?_⟩
  conv => lhs; arg 1; rw [hk]
  exact Int.mul_ediv_cancel_left _ (by omega)
theorem b9v (q : Rat) : A8 q = q.num.sign := by
  unfold A8
  by_cases h : q.num = 0
  · rw [if_pos h, h]; rfl
  · rw [if_neg h]
    by_cases h2 : q.num < 0
    · rw [if_pos h2, Int.sign_eq_neg_one_of_neg h2]
    · rw [if_neg h2, Int.sign_eq_one_of_pos (by omega)]
theorem a5E (n d : Int) (hd : 1 <= d) : A8 (mkRat n d.toNat) = n.sign := by
  obtain ⟨g, hg, ⟨k, h1, h2⟩, _⟩ := b3E n d hd
  rw [b9v, h2, h1, Int.sign_mul, Int.sign_eq_one_of_pos (show (0 : Int) < (g : Int) by omega), Int.one_mul]
theorem Q7 (n d : Int) (hn : -1000000 <= n /\ n <= 1000000) (hd : 1 <= d /\ d <= 1000) : j4 (Q n d) = true := by
  obtain ⟨g, hg, ⟨k, h1, h2⟩, h3⟩ := b3E n d hd.1
  have hk : k.natAbs <= 1000000 := by
    have : n.natAbs = g * k.natAbs := by rw [h1, Int.natAbs_mul]; simp
    have : k.natAbs <= g * k.natAbs := Nat.le_mul_of_pos_left _ hg
    omega
  unfold j4
  simp only [Bool.and_eq_true, decide_eq_true_eq]
  have e1 : (Q n d).num = Nm.enc k.natAbs := by unfold Q Nm.ofQ; rw [h2]
  have e2 : (Q n d).den = Nm.enc (mkRat n d.toNat).den := rfl
  rw [e1, e2, Nm.J5, Nm.J5]
  exact ⟨⟨⟨⟨Nm.L6 (by omega), Nm.L6 (by omega)⟩, Nm.a3S _⟩, hk⟩, by omega⟩
theorem a4z (n d : Int) : (Q n d).F3 := Nm.a3S _
theorem a2Z (n d : Int) : Nm.j3 (Q n d) = mkRat n d.toNat := Nm.a0b _
theorem a5q (a b : Int) {n : Nat} (hn : n ≠ 0) : mkRat a n - mkRat b n = mkRat (a - b) n := by
  rw [Rat.sub_eq_add_neg, Rat.neg_mkRat, Rat.mkRat_add_mkRat _ _ hn hn, <- Int.add_mul, Rat.mkRat_mul_right hn]
  rw [Int.sub_eq_add_neg]
theorem mk_pos (a : Int) {n : Nat} (hn : n ≠ 0) : 0 < mkRat a n <-> 0 < a := by
  have h := a5E a (n : Int) (by omega)
  rw [Int.toNat_natCast] at h
  have hnp : 0 < mkRat a n <-> 0 < (mkRat a n).num := by
    rw [<- Rat.not_le, <- Int.not_le]
    refine not_congr ?_
    rw [Rat.le_iff]
    simp
  rw [hnp]
  unfold A8 at h
  rcases Int.lt_trichotomy a 0 with h1 | h1 | h1
  · rw [Int.sign_eq_neg_one_of_neg h1] at h
    split at h
    · cases h
    · split at h
      · omega
      · cases h
  · subst h1
    simp at h ⊢
  · rw [Int.sign_eq_one_of_pos h1] at h
    split at h
    · cases h
    · split at h
      · cases h
      · omega
theorem b8f {a b : Int} {n : Nat} (hn : n ≠ 0) (h : a < b) : Nm.E5 (mkRat a n) (mkRat b n) = -1 := by
  unfold Nm.E5
  rw [if_pos]
  have h1 := (mk_pos (b - a) hn).2 (by omega)
  rw [<- a5q b a hn] at h1
  grind
theorem b8r {a b : Int} {n : Nat} (hn : n ≠ 0) (h : a <= b) : Nm.E5 (mkRat a n) (mkRat b n) <= 0 := by
  rcases Int.lt_or_eq_of_le h with h1 | h1
  · rw [b8f hn h1]; decide
  · subst h1
    unfold Nm.E5
    rw [if_neg (Rat.lt_irrefl), if_pos rfl]
    exact Int.le_refl _
def a6T (p q r : Int × Int) : Int := (q.1 - p.1) * (r.2 - p.2) - (q.2 - p.2) * (r.1 - p.1)
theorem left_at (p q r : Int × Int) : a7F (atV p.1 p.2) (atV q.1 q.2) (atV r.1 r.2) = (a6T p q r).sign := by
  unfold a7F atV a6T
  simp only [a2Z]
  rw [show Int.toNat 4 = 4 from rfl, a5q _ _ (by decide), a5q _ _ (by decide), a5q _ _ (by decide), a5q _ _ (by decide), Rat.mkRat_mul_mkRat, Rat.mkRat_mul_mkRat, a5q _ _ (by decide)]
  exact a5E _ 16 (by decide)
def a7M (l : List (Int × Int)) : Bool := (List.range l.length).all fun i => (List.range l.length).all fun k => decide (k < 2) || decide (0 < a6T (l.getD i (0, 0)) (l.getD ((i + 1) % l.length) (0, 0)) (l.getD ((i + k) % l.length) (0, 0)))
def a4h (l : List (Int × Int)) : List Vt := l.map fun p => atV p.1 p.2
theorem a8Y (l : List (Int × Int)) (i : Nat) (h : i < l.length) : (a4h l).getD i Vt.zero = atV (l.getD i (0, 0)).1 (l.getD i (0, 0)).2 := by
  rw [List.getD_eq_getElem?_getD, List.getD_eq_getElem?_getD, a4h, List.getElem?_map, List.getElem?_eq_getElem h]
  rfl
theorem c1D (l : List (Int × Int)) (h3 : 3 <= l.length) (h8 : l.length <= 8) (h : a7M l = true) : Q5 (a4h l) 8 = 0 := by
  have hl : (a4h l).length = l.length := by simp [a4h]
  unfold Q5
  rw [if_neg (by omega), if_neg (by omega), if_pos]
  rw [hl, <- h]
  unfold a7M
  have key : ∀ i, i < l.length -> ∀ k, decide (0 < a2s (a4h l) i k) = decide (0 < a6T (l.getD i (0, 0)) (l.getD ((i + 1) % l.length) (0, 0)) (l.getD ((i + k) % l.length) (0, 0))) := by
    intro i hi k
    unfold a2s
    rw [hl, a8Y l i hi, a8Y l _ (Nat.mod_lt _ (by omega)), a8Y l _ (Nat.mod_lt _ (by omega)), left_at]
    refine decide_eq_decide.2 ?_
    exact Int.sign_pos_iff
  rw [Bool.eq_iff_iff, List.all_eq_true, List.all_eq_true]
  refine forall_congr' fun i => ?_
  refine imp_congr_right fun hi => ?_
  rw [List.all_eq_true, List.all_eq_true]
  refine forall_congr' fun k => ?_
  refine imp_congr_right fun hk => ?_
  rw [key i (List.mem_range.1 hi) k]
theorem b7G (x y u v : Int) (h1 : x < u) (h2 : y < v) : a7M [(x, y), (u, y), (u, v), (x, v)] = true := by
  have hp : 0 < (u - x) * (v - y) := Int.mul_pos (by omega) (by omega)
  unfold a7M
  simp only [List.length_cons, List.length_nil, show List.range (0 + 1 + 1 + 1 + 1) = [0, 1, 2, 3] from rfl, List.all_cons, List.all_nil, Bool.and_true, Bool.and_eq_true, Bool.or_eq_true, decide_eq_true_eq]
  refine ⟨⟨.inl (by decide), .inl (by decide), .inr ?_, .inr ?_⟩, ⟨.inl (by decide), .inl (by decide), .inr ?_, .inr ?_⟩, ⟨.inl (by decide), .inl (by decide), .inr ?_, .inr ?_⟩, ⟨.inl (by decide), .inl (by decide), .inr ?_, .inr ?_⟩⟩ <;>
  · simp [a6T]
    grind
theorem a8G (l : List (Int × Int)) (h3 : 3 <= l.length) (h8 : l.length <= 8) (h : a7M l = true) (hb : ∀ p ∈ l, (-1000000 <= p.1 /\ p.1 <= 1000000) /\ -1000000 <= p.2 /\ p.2 <= 1000000) : G6 (a4h l) = 0 /\ (a4h l).all (fun v => j4 v.x && j4 v.y) = true := by
  have hs : ∀ v ∈ a4h l, j4 v.x = true /\ j4 v.y = true /\ v.x.F3 /\ v.y.F3 := by
    intro v hv
    obtain ⟨p, hp, rfl⟩ := List.mem_map.1 hv
    have := hb p hp
    exact ⟨Q7 _ _ this.1 (by decide), Q7 _ _ this.2 (by decide), a4z _ _, a4z _ _⟩
  refine ⟨?_, ?_⟩
  · unfold G6
    rw [c1D l h3 h8 h, if_neg (by decide), if_pos]
    rw [List.all_eq_true]
    intro v hv
    obtain ⟨a1, a2, a3, a4⟩ := hs v hv
    unfold okV
    simp [a1, a2, a3, a4]
  · rw [List.all_eq_true]
    intro v hv
    obtain ⟨a1, a2, a3, a4⟩ := hs v hv
    simp [a1, a2]
def a1T (w h k s : Int) : List (Int × Int) :=
  if k = 0 then [(-w, -h), (w, -h), (w, h), (-w, h)] else
  if k = 1 then [(-w, -h), (w, -h), (s - w, h)] else
  if k = 2 then [(-w - 1, -h - 1), (w, -h - 1), (w + 1, -h), (w + 1, h), (-w - 1, h)] else
  [(-w, 0), (0, -h), (w, 0), (0, h)]
theorem b7o (w h k s : Int) : a1t w h k s = a4h (a1T w h k s) := by
  unfold a1t a1T
  split
  · rfl
  split
  · rfl
  split <;> rfl
theorem b7V : ∀ w h : Fin 6, ∀ k : Fin 4, ∀ s : Fin 13, (s : Nat) <= 2 * (w + 1 : Nat) -> a7M (a1T ((w : Nat) + 1 : Int) ((h : Nat) + 1 : Int) ((k : Nat) : Int) ((s : Nat) : Int)) = true := by decide +kernel
theorem b9S (w h k s : Int) : 3 <= (a1T w h k s).length /\ (a1T w h k s).length <= 8 := by
  unfold a1T
  split
  · simp
  split
  · simp
  split <;> simp
theorem b5P {w h k s : Int} (hw : 1 <= w /\ w <= 6) (hh : 1 <= h /\ h <= 6) (hs : 0 <= s /\ s <= 12) : ∀ p ∈ a1T w h k s, (-1000000 <= p.1 /\ p.1 <= 1000000) /\ -1000000 <= p.2 /\ p.2 <= 1000000 := by
  unfold a1T
  intro p hp
  split at hp
  · simp at hp; rcases hp with rfl | rfl | rfl | rfl <;> simp only <;> omega
  split at hp
  · simp at hp; rcases hp with rfl | rfl | rfl <;> simp only <;> omega
  split at hp
  · simp at hp; rcases hp with rfl | rfl | rfl | rfl | rfl <;> simp only <;> omega
  · simp at hp; rcases hp with rfl | rfl | rfl | rfl <;> simp only <;> omega
theorem b2H {w h k s : Int} (hw : 1 <= w /\ w <= 6) (hh : 1 <= h /\ h <= 6) (hk : 0 <= k /\ k <= 3) (hs : 0 <= s /\ s <= 2 * w) : G6 (a1t w h k s) = 0 /\ (a1t w h k s).length <= 8 := by
  have hc := b7V ⟨(w - 1).toNat, by omega⟩ ⟨(h - 1).toNat, by omega⟩ ⟨k.toNat, by omega⟩ ⟨s.toNat, by omega⟩ (by simp only; omega)
  simp only at hc
  rw [show (((w - 1).toNat : Nat) + 1 : Int) = w by omega, show (((h - 1).toNat : Nat) + 1 : Int) = h by omega, show ((k.toNat : Nat) : Int) = k by omega, show ((s.toNat : Nat) : Int) = s by omega] at hc
  rw [b7o]
  obtain ⟨l1, l2⟩ := b9S w h k s
  exact ⟨(a8G _ l1 l2 hc (b5P hw hh (by omega))).1, by simpa [a4h] using l2⟩
theorem b3n (l : List Int) : G6 (a1j l).1 = 0 /\ (a1j l).1.length <= 8 := by
  have b1 := l8 l (n := 6) (by decide)
  have b2 := D9 l (n := 6) (by decide)
  have b3 := l8 (l.drop 1) (n := 6) (by decide)
  have b4 := D9 (l.drop 1) (n := 6) (by decide)
  have b5 := l8 (l.drop 2) (n := 4) (by decide)
  have b6 := D9 (l.drop 2) (n := 4) (by decide)
  unfold a1j
  simp only
  split
  · rename_i h
    have b7 := l8 (l.drop 3) (n := 2 * (1 + nx l 6) + 1) (by omega)
    have b8 := D9 (l.drop 3) (n := 2 * (1 + nx l 6) + 1) (by omega)
    exact b2H (by omega) (by omega) (by omega) (by omega)
  · exact b2H (by omega) (by omega) (by omega) (by omega)
theorem b5d {x y u v : Int} (h1 : x < u) (h2 : y < v) (hb : -1000000 <= x /\ u <= 1000000 /\ -1000000 <= y /\ v <= 1000000) : G6 (a4N x y u v) = 0 /\ (a4N x y u v).all (fun v => j4 v.x && j4 v.y) = true :=
  a8G [(x, y), (u, y), (u, v), (x, v)] (by simp) (by simp) (b7G x y u v h1 h2) (fun p hp => by simp at hp; rcases hp with rfl | rfl | rfl | rfl <;> simp only <;> omega)
theorem a5l {l : List Vt} (h : G6 l = 0) : Q5 l 8 = 0 := by
  unfold G6 at h
  split at h
  · rename_i h1; exact absurd h h1
  · rename_i h1; exact Classical.not_not.1 h1
theorem c1i {a lo hi sp br tri : Int} (ha : 0 <= a /\ a < 4) (h1 : 0 <= lo /\ lo < 6) (h2 : 0 <= hi /\ hi < 6) (h3 : 0 <= sp /\ sp < 8) (h4 : 0 <= br /\ br < 20) : X4 (a4P a lo hi sp br tri) = 0 := by
  have hs : ∀ n d : Int, 0 < n -> 1 <= d -> A8 (Nm.j3 (Q n d)) = 1 := fun n d hn hd => by rw [a2Z, a5E _ _ hd, Int.sign_eq_one_of_pos hn]
  have hsh : G6 (a4P a lo hi sp br tri).shape = 0 /\ (a4P a lo hi sp br tri).shape.all (fun v => j4 v.x && j4 v.y) = true := by
    unfold a4P
    simp only
    split
    · refine a8G [(-1, -1), (4 + 2 * a + 1, 0), (-1, 1)] (by simp) (by simp) ?_ (fun p hp => by simp at hp; rcases hp with rfl | rfl | rfl <;> simp only <;> omega)
      have : a = 0 \/ a = 1 \/ a = 2 \/ a = 3 := by omega
      rcases this with rfl | rfl | rfl | rfl <;> decide
    · exact b5d (by omega) (by omega) (by omega)
  have hpe := a5l hsh.1
  unfold X4
  rw [hpe, hsh.2, if_neg, if_neg, if_neg (by decide), if_pos rfl]
  · unfold a4P
    simp only
    rw [hs 1 (4 + sp) (by decide) (by omega), hs 1 (10 + br) (by decide) (by omega)]
    decide
  · unfold a4P
    simp only
    rw [Q7 _ _ (by omega) (by omega), Q7 _ _ (by omega) (by omega), Q7 _ _ (by omega) (by omega), Q7 _ _ (by omega) (by omega), Q7 _ _ (by omega) (by omega), hs (4 + 2 * a) 4 (by omega) (by decide), a2Z, a2Z, b8f (by decide) (by omega)]
    decide
theorem a8S : ∀ (n : Nat) (l : List Int), F4 X4 (a2l n l) = 0 /\ (a2l n l).length = n
  | 0, _ => ⟨rfl, rfl⟩
  | n + 1, l => by
    have h := c1i (a := nx l 4) (lo := nx (l.drop 1) 6) (hi := nx (l.drop 2) 6) (sp := nx (l.drop 3) 8) (br := nx (l.drop 4) 20) (tri := nx (l.drop 5) 3)
      ⟨l8 _ (by decide), D9 _ (by decide)⟩ ⟨l8 _ (by decide), D9 _ (by decide)⟩ ⟨l8 _ (by decide), D9 _ (by decide)⟩ ⟨l8 _ (by decide), D9 _ (by decide)⟩ ⟨l8 _ (by decide), D9 _ (by decide)⟩
    have e : X4 (b5r l) = 0 := h
    simp only [a2l, F4, List.length_cons]
    rw [if_pos e]
    exact ⟨(a8S n _).1, by rw [(a8S n _).2]⟩
theorem b5D (k : Int) : -1 <= a3d k /\ a3d k <= 1 := by unfold a3d; split; omega; split <;> omega
theorem c2h (l : List Int) (n : Nat) (hn : n <= 3) : N8 (b0i l n) = 0 := by
  have a3 := l8 (l.drop 1) (n := 3) (by decide)
  have a4 := D9 (l.drop 1) (n := 3) (by decide)
  have a5 := l8 (l.drop 2) (n := 3) (by decide)
  have a6 := D9 (l.drop 2) (n := 3) (by decide)
  have ht := b5D (nx l 4)
  obtain ⟨g1, g2⟩ := a8S (a3E l) (l.drop 3)
  have hc : a3E l = (1 + nx (l.drop 2) 3).toNat := rfl
  have hnm : Z6 (a3Z n) = true := by
    have : n = 0 \/ n = 1 \/ n = 2 \/ n = 3 := by omega
    rcases this with rfl | rfl | rfl | rfl <;> decide
  unfold N8 b0i
  simp only
  rw [g1, hnm, if_neg (by decide), if_neg (by rw [g2]; omega), if_neg]
  rw [g2, Q7 _ _ (by omega) (by decide), Q7 _ _ (by omega) (by decide), Q7 _ _ (by omega) (by omega)]
  rintro (h | h | h)
  · omega
  · cases h
  · cases h
theorem b3o : ∀ (l : List Am) (n : Nms), (∀ a ∈ l, N8 a = 0) -> r9 V3 n l = r9 F8 n (l.map Am.name)
  | [], _, _ => rfl
  | a :: l, n, h => by
    have h0 := h a (by simp)
    have e : V3 n a = F8 n a.name := by unfold V3; rw [h0, if_neg (by decide)]
    simp only [r9, List.map_cons, e]
    split
    · exact b3o l _ fun x hx => h x (by simp [hx])
    · rfl
theorem b1i : ∀ (l : List Pt) (n : Nms), (∀ a ∈ l, G6 a.shape = 0 /\ okF a.X5 = true) -> r9 R9 n l = r9 F8 n (l.map Pt.name)
  | [], _, _ => rfl
  | a :: l, n, h => by
    obtain ⟨h0, h1⟩ := h a (by simp)
    have e : R9 n a = F8 n a.name := by
      unfold R9
      by_cases h2 : (F8 n a.name).1 = 0
      · rw [if_neg (by rw [h2]; decide), h0, if_neg (by decide), h1, if_pos rfl]
        rw [<- h2]
      · rw [if_pos h2]
    simp only [r9, List.map_cons, e]
    split
    · exact b1i l _ fun x hx => h x (by simp [hx])
    · rfl
theorem b1j : ∀ (l : List Sl) (n : Nms), (∀ s ∈ l, (okF s.frame && decide s.within.F3 && j4 s.within && decide (0 < A8 (Nm.j3 s.within))) = true) -> r9 P5 n l = r9 F8 n (l.map Sl.name)
  | [], _, _ => rfl
  | a :: l, n, h => by
    have h1 := h a (by simp)
    have e : P5 n a = F8 n a.name := by
      unfold P5
      by_cases h2 : (F8 n a.name).1 = 0
      · rw [if_neg (by rw [h2]; decide), h1, if_pos rfl]
        rw [<- h2]
      · rw [if_pos h2]
    simp only [r9, List.map_cons, e]
    split
    · exact b1j l _ fun x hx => h x (by simp [hx])
    · rfl
theorem b1z : ∀ (l : List Gt) (n : Nms), (∀ g ∈ l, (okV g.low && okV g.high && decide (Nm.E5 (Nm.j3 g.low.x) (Nm.j3 g.high.x) <= 0) && decide (Nm.E5 (Nm.j3 g.low.y) (Nm.j3 g.high.y) <= 0)) = true) -> r9 U8 n l = r9 F8 n (l.map Gt.name)
  | [], _, _ => rfl
  | a :: l, n, h => by
    have h1 := h a (by simp)
    have e : U8 n a = F8 n a.name := by
      unfold U8
      by_cases h2 : (F8 n a.name).1 = 0
      · rw [if_neg (by rw [h2]; decide), h1, if_pos rfl]
        rw [<- h2]
      · rw [if_pos h2]
    simp only [r9, List.map_cons, e]
    split
    · exact b1z l _ fun x hx => h x (by simp [hx])
    · rfl
theorem a3N {α : Type} {f : α -> Int} : ∀ {l : List α}, (∀ x ∈ l, f x = 0) -> F4 f l = 0
  | [], _ => rfl
  | x :: l, h => by rw [F4, if_pos (h x (by simp))]; exact a3N fun y hy => h y (by simp [hy])
theorem a6j : ∀ (c n : Nat) (l : List Int), n + c <= 4 -> ∀ a ∈ a1D c n l, N8 a = 0
  | 0, _, _, _, a, ha => by cases ha
  | c + 1, n, l, h, a, ha => by
    rcases List.mem_cons.1 ha with rfl | ha
    · exact c2h l n (by omega)
    · exact a6j c (n + 1) _ (by omega) a ha
theorem a8k : ∀ (c n : Nat) (l : List Int), (a1D c n l).map Am.name = (List.range c).map fun i => a3Z (n + i)
  | 0, _, _ => rfl
  | c + 1, n, l => by
    rw [a1D, List.map_cons, a8k c, List.range_succ_eq_map, List.map_cons, List.map_map]
    congr 1
    refine List.map_congr_left fun i _ => ?_
    simp only [Function.comp]
    congr 1
    omega
theorem a7c : ∀ (c n : Nat) (l : List Int), (a1D c n l).length = c
  | 0, _, _ => rfl
  | c + 1, n, l => by rw [a1D, List.length_cons, a7c]
theorem b9c (l : List Int) : G6 (b1U l) = 0 /\ (b1U l).all (fun v => j4 v.x && j4 v.y) = true := by
  have a1 := l8 l (n := 80) (by decide)
  have a2 := D9 l (n := 80) (by decide)
  have a3 := l8 (l.drop 1) (n := 30) (by decide)
  have a4 := D9 (l.drop 1) (n := 30) (by decide)
  have a5 := l8 (l.drop 3) (n := 20) (by decide)
  have a6 := D9 (l.drop 3) (n := 20) (by decide)
  have a7 := l8 (l.drop 4) (n := 5) (by decide)
  have a8 := D9 (l.drop 4) (n := 5) (by decide)
  have hy : -1000 <= a0T l /\ a0T l <= 1000 := by unfold a0T; split <;> omega
  exact b5d (by omega) (by omega) (by omega)
theorem a4L : ∀ (c : Nat) (l : List Int), (∀ x ∈ a1A c l, G6 x = 0 /\ x.all (fun v => j4 v.x && j4 v.y) = true) /\ (a1A c l).length = c
  | 0, _ => ⟨fun x hx => (by cases hx), rfl⟩
  | c + 1, l => by
    refine ⟨fun x hx => ?_, by rw [a1A, List.length_cons, (a4L c _).2]⟩
    rcases List.mem_cons.1 hx with rfl | hx
    · exact b9c l
    · exact (a4L c _).1 x hx
theorem b5s {a b c d : Int} (ha : -1000000 <= a /\ a <= 1000000) (hb : 1 <= b /\ b <= 1000) (hc : -1000000 <= c /\ c <= 1000000) (hd : 1 <= d /\ d <= 1000) : okV ⟨Q a b, Q c d⟩ = true := by
  unfold okV
  simp only [Q7 _ _ ha hb, Q7 _ _ hc hd, decide_eq_true (a4z a b), decide_eq_true (a4z c d), Bool.and_self]
theorem c0p {a c e f : Int} (ha : -1000000 <= a /\ a <= 1000000) (hc : -1000000 <= c /\ c <= 1000000) (he : -1000000 <= e /\ e <= 1000000) (hf : 1 <= f /\ f <= 1000) : okF ⟨Q a 4, Q c 4, false, Q e f⟩ = true := by
  unfold okF a1F
  simp only [b5s ha (show (1 : Int) <= 4 /\ (4 : Int) <= 1000 by decide) hc (show (1 : Int) <= 4 /\ (4 : Int) <= 1000 by decide), Q7 _ _ he hf, decide_eq_true (a4z e f), Bool.false_and, Bool.not_false, Bool.and_self]
theorem a6I : ∀ (c n : Nat) (l : List Int), (∀ p ∈ a0s c n l, (G6 p.shape = 0 /\ okF p.X5 = true) /\ p.shape.length <= 8) /\ (a0s c n l).length = c /\ (a0s c n l).map Pt.name = (List.range c).map fun i => a3G (n + i)
  | 0, _, _ => ⟨fun x hx => (by cases hx), rfl, rfl⟩
  | c + 1, n, l => by
    obtain ⟨h1, h2, h3⟩ := a6I c (n + 1) (a1j l).2
    refine ⟨fun x hx => ?_, by rw [a0s, List.length_cons, h2], ?_⟩
    · rcases List.mem_cons.1 hx with rfl | hx
      · exact ⟨⟨(b3n l).1, c0p (by decide) (by decide) (by decide) (by decide)⟩, (b3n l).2⟩
      · exact h1 x hx
    · rw [a0s, List.map_cons, h3, List.range_succ_eq_map, List.map_cons, List.map_map]
      congr 1
      refine List.map_congr_left fun i _ => ?_
      simp only [Function.comp]
      congr 1
      omega
theorem a4K : ∀ (c n : Nat) (l : List Int), (∀ s ∈ a0q c n l, (okF s.frame && decide s.within.F3 && j4 s.within && decide (0 < A8 (Nm.j3 s.within))) = true) /\ (a0q c n l).length = c /\ (a0q c n l).map Sl.name = (List.range c).map fun i => a4I (n + i)
  | 0, _, _ => ⟨fun x hx => (by cases hx), rfl, rfl⟩
  | c + 1, n, l => by
    obtain ⟨h1, h2, h3⟩ := a4K c (n + 1) (l.drop 4)
    have a1 := l8 l (n := 40) (by decide)
    have a2 := D9 l (n := 40) (by decide)
    have a3 := l8 (l.drop 1) (n := 24) (by decide)
    have a4 := D9 (l.drop 1) (n := 24) (by decide)
    have a5 := l8 (l.drop 2) (n := 5) (by decide)
    have a6 := D9 (l.drop 2) (n := 5) (by decide)
    have a7 := l8 (l.drop 3) (n := 20) (by decide)
    have a8 := D9 (l.drop 3) (n := 20) (by decide)
    refine ⟨fun x hx => ?_, by rw [a0q, List.length_cons, h2], ?_⟩
    · rcases List.mem_cons.1 hx with rfl | hx
      · unfold b5L
        simp only
        rw [c0p (by omega) (by omega) (by omega) (by decide), Q7 _ _ (by decide) (by omega), decide_eq_true (a4z _ _), a2Z, a5E _ _ (by omega)]
        decide
      · exact h1 x hx
    · rw [a0q, List.map_cons, h3, List.range_succ_eq_map, List.map_cons, List.map_map]
      congr 1
      refine List.map_congr_left fun i _ => ?_
      simp only [Function.comp]
      congr 1
      omega
theorem a7m : ∀ (c : Nat) (l : List Int), (∀ g ∈ a0x c l, (okV g.low && okV g.high && decide (Nm.E5 (Nm.j3 g.low.x) (Nm.j3 g.high.x) <= 0) && decide (Nm.E5 (Nm.j3 g.low.y) (Nm.j3 g.high.y) <= 0)) = true) /\ (a0x c l).length = c /\ (a0x c l).map Gt.name = List.replicate c [100, 111, 111, 114]
  | 0, _ => ⟨fun x hx => (by cases hx), rfl, rfl⟩
  | c + 1, l => by
    obtain ⟨h1, h2, h3⟩ := a7m c (l.drop 4)
    have a1 := l8 l (n := 60) (by decide)
    have a2 := D9 l (n := 60) (by decide)
    have a3 := l8 (l.drop 1) (n := 60) (by decide)
    have a4 := D9 (l.drop 1) (n := 60) (by decide)
    have a5 := l8 (l.drop 2) (n := 12) (by decide)
    have a6 := D9 (l.drop 2) (n := 12) (by decide)
    have a7 := l8 (l.drop 3) (n := 12) (by decide)
    have a8 := D9 (l.drop 3) (n := 12) (by decide)
    refine ⟨fun x hx => ?_, by rw [a0x, List.length_cons, h2], ?_⟩
    · rcases List.mem_cons.1 hx with rfl | hx
      · unfold b6v atV
        simp only
        rw [b5s (by omega) (by decide) (by omega) (by decide), b5s (by omega) (by decide) (by omega) (by decide), a2Z, a2Z, a2Z, a2Z, decide_eq_true (b8r (by decide) (by omega)), decide_eq_true (b8r (by decide) (by omega))]
        decide
      · exact h1 x hx
    · rw [a0x, List.map_cons, h3, List.replicate_succ]
      rfl
theorem counts (l : List Int) : (1 <= nA l /\ nA l <= 2) /\ nW l <= 2 /\ nP l <= 2 /\ (nP l <= nS l /\ nS l <= nP l + 1) /\ nG l <= 1 := by
  have a1 := l8 l (n := 2) (by decide)
  have a2 := D9 l (n := 2) (by decide)
  have a3 := l8 (l1 l) (n := 3) (by decide)
  have a4 := D9 (l1 l) (n := 3) (by decide)
  have a5 := l8 (l2 l) (n := 3) (by decide)
  have a6 := D9 (l2 l) (n := 3) (by decide)
  have a7 := l8 (l3 l) (n := 2) (by decide)
  have a8 := D9 (l3 l) (n := 2) (by decide)
  have a9 := l8 (l4 l) (n := 2) (by decide)
  have a10 := D9 (l4 l) (n := 2) (by decide)
  unfold nS
  unfold nA nW nP nG
  omega
theorem b9p : ∀ a w p s g : Nat, (1 <= a /\ a <= 2) -> p <= 2 -> (p <= s /\ s <= p + 1) -> g <= 1 ->
    (r9 F8 [] ((List.range a).map fun i => a3Z (0 + i))).1 = 0 /\
    (r9 F8 (r9 F8 [] ((List.range a).map fun i => a3Z (0 + i))).2 ((List.range p).map fun i => a3G (0 + i))).1 = 0 /\
    (r9 F8 (r9 F8 (r9 F8 [] ((List.range a).map fun i => a3Z (0 + i))).2 ((List.range p).map fun i => a3G (0 + i))).2 ((List.range s).map fun i => a4I (0 + i))).1 = 0 /\
    (r9 F8 (r9 F8 (r9 F8 (r9 F8 [] ((List.range a).map fun i => a3Z (0 + i))).2 ((List.range p).map fun i => a3G (0 + i))).2 ((List.range s).map fun i => a4I (0 + i))).2 (List.replicate g [100, 111, 111, 114])).1 = 0 := by
  intro a w p s g ha hp hs hg
  have h1 : a = 1 \/ a = 2 := by omega
  have h2 : p = 0 \/ p = 1 \/ p = 2 := by omega
  have h3 : s = p \/ s = p + 1 := by omega
  have h4 : g = 0 \/ g = 1 := by omega
  rcases h1 with rfl | rfl <;> rcases h2 with rfl | rfl | rfl <;> rcases h3 with rfl | rfl <;> rcases h4 with rfl | rfl <;> decide
theorem b2e (l : List Int) : I9 (J3 l) = 0 := by
  obtain ⟨c1, c2, c3, c4, c5⟩ := counts l
  have x1 := a6j (nA l) 0 (l.drop 1) (by omega)
  have x2 := a4L (nW l) ((l1 l).drop 1)
  have x3 := a6I (nP l) 0 ((l2 l).drop 1)
  have x4 := a4K (nS l) 0 ((l3 l).drop 1)
  have x5 := a7m (nG l) ((l4 l).drop 1)
  have hn := b9p (nA l) 0 (nP l) (nS l) (nG l) c1 c3 c4 c5
  have a1 := l8 (l5 l) (n := 4) (by decide)
  have a2 := D9 (l5 l) (n := 4) (by decide)
  have hw : a7K (Q (nx (l5 l) 4) 8) = 0 := by
    unfold a7K
    rw [Q7 _ _ (by omega) (by decide), decide_eq_true (a4z _ _), a2Z, a5E _ _ (by decide)]
    have : 0 <= (nx (l5 l) 4).sign := by
      rcases Int.lt_or_eq_of_le a1 with h | h
      · rw [Int.sign_eq_one_of_pos h]; decide
      · rw [<- h]; decide
    simp [this]
  have hL : a1y (J3 l) = [0, 0, 0, 0, 0] := by
    unfold a1y J3
    simp only
    rw [b3o _ _ x1, a8k, b1i _ _ (fun a ha => (x3.1 a ha).1), x3.2.2, b1j _ _ x4.1, x4.2.2, b1z _ _ x5.1, x5.2.2, a3N (fun a ha => (x2.1 a ha).1), hn.1, hn.2.1, hn.2.2.1, hn.2.2.2]
  unfold I9
  rw [hL]
  have l1' : (J3 l).arms.length = nA l := a7c ..
  have l2' : (J3 l).walls.length = nW l := x2.2
  have l3' : (J3 l).parts.length = nP l := x3.2.1
  have l4' : (J3 l).slots.length = nS l := x4.2.1
  have l5' : (J3 l).gates.length = nG l := x5.2.1
  rw [if_neg (by omega), if_neg (by omega), if_neg (by decide)]
  exact hw
theorem b8H {a : Nm.Rt} (h : j4 a = true) : Rb 3 a := by
  unfold j4 at h
  simp only [Bool.and_eq_true, decide_eq_true_eq] at h
  exact ⟨h.1.1.1.1, by have := h.1.1.1.2; omega⟩
theorem H7 {a : Nm.Rt} (h : j4 a = true) : Rb 1048576 a := (b8H h).mono (by decide)
theorem a7u {α : Type} {f : α -> Int} : ∀ {l : List α}, F4 f l = 0 -> ∀ x ∈ l, f x = 0
  | [], _, x, hx => by cases hx
  | y :: l, h, x, hx => by
    rw [F4] at h
    split at h
    · rename_i h0
      rcases List.mem_cons.1 hx with rfl | hx
      · exact h0
      · exact a7u h x hx
    · rename_i h0; exact absurd h h0
theorem b1u {l : List Vt} (h : Q5 l 8 = 0) : l.length <= 8 := by
  unfold Q5 at h
  split at h
  · cases h
  · omega
theorem b0X {l : List Vt} (h : G6 l = 0) : Vbs 1048576 l := by
  have hl := b1u (a5l h)
  unfold G6 at h
  rw [a5l h, if_neg (by decide)] at h
  split at h
  · rename_i ha
    rw [List.all_eq_true] at ha
    refine ⟨by omega, fun v hv => ?_⟩
    have := ha v hv
    unfold okV at this
    simp only [Bool.and_eq_true] at this
    exact ⟨H7 this.1.2, H7 this.2⟩
  · cases h
theorem a3P {l : Lk} (h : X4 l = 0) : Lb 1048576 l /\ Nm.E5 (Nm.j3 l.low) (Nm.j3 l.high) < 0 /\ 0 < A8 (Nm.j3 l.speed) := by
  unfold X4 at h
  split at h
  · cases h
  rename_i h1
  split at h
  · cases h
  rename_i h2
  split at h
  · rename_i h3; exact absurd h h3
  rename_i h3
  split at h
  · rename_i h4
    have h1a : (j4 l.length && j4 l.low && j4 l.high && j4 l.speed && j4 l.a0E) = true := by
      cases hb : (j4 l.length && j4 l.low && j4 l.high && j4 l.speed && j4 l.a0E) with
      | true => rfl
      | false => exact absurd (.inl hb) h1
    simp only [Bool.and_eq_true] at h1a
    obtain ⟨⟨⟨⟨s1, s2⟩, s3⟩, s4⟩, s5⟩ := h1a
    have hpe := b1u (Classical.not_not.1 h3)
    rw [List.all_eq_true] at h4
    refine ⟨⟨H7 s1, H7 s2, H7 s3, H7 s4, H7 s5, by omega, fun v hv => ?_⟩, ?_, ?_⟩
    · have := h4 v hv
      simp only [Bool.and_eq_true] at this
      exact ⟨H7 this.1, H7 this.2⟩
    · have : ¬ 0 <= Nm.E5 (Nm.j3 l.low) (Nm.j3 l.high) := fun h => h1 (.inr (.inr h))
      omega
    · have : ¬ A8 (Nm.j3 l.speed) <= 0 := fun h => h2 (.inl h)
      omega
  · cases h
theorem a7s {a : Am} (h : N8 a = 0) : Ab 1048576 a /\ ∀ l ∈ a.links, X4 l = 0 := by
  unfold N8 at h
  split at h
  · cases h
  rename_i h1
  split at h
  · cases h
  split at h
  · cases h
  rename_i h2 h3
  have hn : a.name.length <= 12 := by
    have : Z6 a.name = true := by simpa using h1
    unfold Z6 at this
    simp only [Bool.and_eq_true, decide_eq_true_eq] at this
    exact this.2
  have h3a : (j4 a.base.x && j4 a.base.y && j4 a.base.t) = true := by
    cases hb : (j4 a.base.x && j4 a.base.y && j4 a.base.t) with
    | true => rfl
    | false => exact absurd (.inr (.inl hb)) h3
  simp only [Bool.and_eq_true] at h3a
  have hl := a7u h
  exact ⟨⟨by omega, ⟨H7 h3a.1.1, H7 h3a.1.2, H7 h3a.2⟩, by omega, fun l hl' => (a3P (hl l hl')).1⟩, hl⟩
theorem a7H {f : Fr} (h : okF f = true) : Fb 1048576 f /\ Z8 f = true := by
  unfold okF okV at h
  simp only [Bool.and_eq_true, decide_eq_true_eq] at h
  obtain ⟨⟨⟨⟨⟨⟨g1, g2⟩, s1⟩, s2⟩, g3⟩, s3⟩, z⟩ := h
  refine ⟨⟨H7 s1, H7 s2, H7 s3⟩, ?_⟩
  unfold Z8 G9
  simp [g1, g2, g3, z]
theorem b7W {n : Nat} : (a3Z n).length <= 5 /\ (a3G n).length <= 4 /\ (a4I n).length <= 6 := by
  refine ⟨?_, ?_, ?_⟩
  · unfold a3Z
    match n with
    | 0 | 1 | 2 | 3 => decide
    | n + 4 => simp
  · unfold a3G
    match n with
    | 0 | 1 => decide
    | n + 2 => simp
  · unfold a4I
    match n with
    | 0 | 1 | 2 => decide
    | n + 3 => simp
theorem b0G : ∀ (c n : Nat) (l : List Int), ∀ p ∈ a0s c n l, p.name.length <= 4
  | 0, _, _, p, hp => by cases hp
  | c + 1, n, l, p, hp => by
    rcases List.mem_cons.1 hp with rfl | hp
    · exact b7W.2.1
    · exact b0G c _ _ p hp
theorem b1b : ∀ (c n : Nat) (l : List Int), ∀ p ∈ a0q c n l, p.name.length <= 6
  | 0, _, _, p, hp => by cases hp
  | c + 1, n, l, p, hp => by
    rcases List.mem_cons.1 hp with rfl | hp
    · exact b7W.2.2
    · exact b1b c _ _ p hp
theorem b0M : ∀ (c : Nat) (l : List Int), ∀ p ∈ a0x c l, p.name.length <= 4
  | 0, _, p, hp => by cases hp
  | c + 1, l, p, hp => by
    rcases List.mem_cons.1 hp with rfl | hp
    · exact (by decide : ([100, 111, 111, 114] : List UInt8).length <= 4)
    · exact b0M c _ p hp
theorem Fb.mono {k m : Nat} {f : Fr} (h : Fb k f) (hm : k <= m) : Fb m f := ⟨h.1.mono hm, h.2.1.mono hm, h.2.2.mono hm⟩
theorem Vbs.mono {k m : Nat} {l : List Vt} (h : Vbs k l) (hm : k <= m) : Vbs m l := ⟨Nat.le_trans h.1 hm, fun v hv => ⟨(h.2 v hv).1.mono hm, (h.2 v hv).2.mono hm⟩⟩
theorem Ab.mono {k m : Nat} {a : Am} (h : Ab k a) (hm : k <= m) : Ab m a := ⟨Nat.le_trans h.1 hm, h.2.1.mono hm, Nat.le_trans h.2.2.1 hm, fun l hl => by
  obtain ⟨h1, h2, h3, h4, h5, h6⟩ := h.2.2.2 l hl
  exact ⟨h1.mono hm, h2.mono hm, h3.mono hm, h4.mono hm, h5.mono hm, h6.mono hm⟩⟩
theorem Wb.mono {k m : Nat} {w : Wk} (h : Wb k w) (hm : k <= m) : Wb m w :=
  ⟨⟨Nat.le_trans h.arms.1 hm, fun x hx => (h.arms.2 x hx).mono hm⟩, ⟨Nat.le_trans h.walls.1 hm, fun x hx => (h.walls.2 x hx).mono hm⟩, ⟨Nat.le_trans h.parts.1 hm, fun x hx => ⟨Nat.le_trans (h.parts.2 x hx).1 hm, (h.parts.2 x hx).2.1.mono hm, (h.parts.2 x hx).2.2.mono hm⟩⟩,
   ⟨Nat.le_trans h.slots.1 hm, fun x hx => ⟨Nat.le_trans (h.slots.2 x hx).1 hm, (h.slots.2 x hx).2.1.mono hm, (h.slots.2 x hx).2.2.mono hm⟩⟩, ⟨Nat.le_trans h.gates.1 hm, fun x hx => ⟨Nat.le_trans (h.gates.2 x hx).1 hm, ⟨(h.gates.2 x hx).2.1.1.mono hm, (h.gates.2 x hx).2.1.2.mono hm⟩, (h.gates.2 x hx).2.2.1.mono hm, (h.gates.2 x hx).2.2.2.mono hm⟩⟩, h.walk.mono hm⟩
theorem Stb.mono {k m : Nat} {s : Stt} (h : Stb k s) (hm : k <= m) : Stb m s :=
  ⟨⟨Nat.le_trans h.arms.1 hm, fun x hx => ⟨⟨Nat.le_trans (h.arms.2 x hx).1.1 hm, fun r hr => ((h.arms.2 x hx).1.2 r hr).mono hm⟩, Nat.le_trans (h.arms.2 x hx).2.1 hm, fun r hr => ((h.arms.2 x hx).2.2 r hr).mono hm⟩⟩, ⟨Nat.le_trans h.parts.1 hm, fun x hx => (h.parts.2 x hx).mono hm⟩, h.people.mono hm, Nat.le_trans h.gates hm⟩
theorem b8R (l : List Int) : Wb 1048576 (J3 l) := by
  obtain ⟨c1, c2, c3, c4, c5⟩ := counts l
  have x1 := a6j (nA l) 0 (l.drop 1) (by omega)
  have x2 := a4L (nW l) ((l1 l).drop 1)
  have x3 := a6I (nP l) 0 ((l2 l).drop 1)
  have x4 := a4K (nS l) 0 ((l3 l).drop 1)
  have x5 := a7m (nG l) ((l4 l).drop 1)
  have a1 := l8 (l5 l) (n := 4) (by decide)
  have a2 := D9 (l5 l) (n := 4) (by decide)
  refine ⟨⟨?_, fun x hx => (a7s (x1 x hx)).1⟩, ⟨?_, fun x hx => b0X (x2.1 x hx).1⟩, ⟨?_, fun x hx => ?_⟩, ⟨?_, fun x hx => ?_⟩, ⟨?_, fun x hx => ?_⟩, ?_⟩
  · show (a1D _ _ _).length <= _
    rw [a7c]; omega
  · show (a1A _ _).length <= _
    rw [x2.2]; omega
  · show (a0s _ _ _).length <= _
    rw [x3.2.1]; omega
  · obtain ⟨⟨h1, h2⟩, h3⟩ := x3.1 x hx
    have := b0G _ _ _ x hx
    exact ⟨by omega, b0X h1, (a7H h2).1⟩
  · show (a0q _ _ _).length <= _
    rw [x4.2.1]; omega
  · have h := x4.1 x hx
    simp only [Bool.and_eq_true] at h
    have := b1b _ _ _ x hx
    exact ⟨by omega, (a7H h.1.1.1).1, H7 h.1.2⟩
  · show (a0x _ _).length <= _
    rw [x5.2.1]; omega
  · have h := x5.1 x hx
    simp only [Bool.and_eq_true] at h
    have := b0M _ _ x hx
    obtain ⟨⟨⟨h1, h2⟩, _⟩, _⟩ := h
    unfold okV at h1 h2
    simp only [Bool.and_eq_true] at h1 h2
    exact ⟨by omega, ⟨H7 h1.1.2, H7 h1.2⟩, H7 h2.1.2, H7 h2.2⟩
  · exact H7 (Q7 _ _ (by omega) (by decide))
theorem b1r (l : List Int) : Wb 1073741824 (J3 l) := (b8R l).mono (by decide)
theorem a7I {α β : Type} {f : α -> β} : ∀ {l : List α} {x : α × β}, x ∈ l.zip (l.map f) -> x.1 ∈ l /\ x.2 = f x.1
  | [], x, h => by simp at h
  | a :: l, x, h => by
    simp only [List.map_cons, List.zip_cons_cons] at h
    rcases List.mem_cons.1 h with rfl | h
    · exact ⟨List.mem_cons_self .., rfl⟩
    · exact ⟨List.mem_cons_of_mem _ (a7I h).1, (a7I h).2⟩
theorem a3R (p q : Rat) : Nm.E5 p q < 0 <-> p < q := by
  unfold Nm.E5
  split
  · simp_all
  · split
    · simp_all
    · simp_all
theorem a1V (p q : Rat) : 0 < Nm.E5 p q <-> q < p := by
  unfold Nm.E5
  split
  · rename_i h; simp; grind
  · split
    · rename_i h1 h2; simp; grind
    · rename_i h1 h2; simp; grind
theorem b7J {l : Lk} (h : X4 l = 0) : a5f (l, Y3 l) = 0 := by
  have hc := (a3R _ _).1 (a3P h).2.1
  unfold a5f Y3
  simp only [Nm.a0b]
  rw [if_neg]
  rw [a3R, a1V]
  unfold a6s a1Q
  have e1 : ∀ p q : Rat, (Nm.E5 p q >= 0) <-> ¬ p < q := fun p q => by rw [<- a3R]; omega
  have e2 : ∀ p q : Rat, (Nm.E5 p q <= 0) <-> ¬ q < p := fun p q => by rw [<- a1V]; omega
  simp only [e1, e2]
  repeat' split
  all_goals grind
theorem b3U {l : Lk} (h : X4 l = 0) : V6 (l, Nm.ofQ 0) = 0 := by
  have hs := (a3P h).2.2
  unfold V6
  simp only [Nm.a0b]
  rw [if_neg]
  have h0 : a2J 0 = 0 := rfl
  rw [h0, a1V]
  have hn : 0 < (Nm.j3 l.speed).num := by
    unfold A8 at hs
    split at hs
    · omega
    · split at hs <;> omega
  intro hlt
  have := (Rat.lt_iff _ _).1 hlt
  simp at this
  omega
theorem b7q {a : Am} (h : N8 a = 0) (n : Nat) : a1J a (M7 a) n = 0 := by
  have hl := (a7s h).2
  unfold a1J M7
  simp only
  have g1 : (a.links.map Y3).all G9 = true := by
    rw [List.all_eq_true]
    intro x hx
    obtain ⟨l, _, rfl⟩ := List.mem_map.1 hx
    exact decide_eq_true (Nm.a3S _)
  have g2 : (a.links.map fun _ => Nm.ofQ 0).all G9 = true := by
    rw [List.all_eq_true]
    intro x hx
    obtain ⟨l, _, rfl⟩ := List.mem_map.1 hx
    exact decide_eq_true (Nm.a3S _)
  have hf : a1H a (a.links.map Y3) = 0 := by
    rw [b2d]
    have : a5e a (a.links.map Y3).length = 0 := by
      unfold a5e
      rw [h, if_neg (by decide), List.length_map, if_neg (by simp)]
    rw [this, if_neg (by decide)]
    refine a3N fun x hx => ?_
    obtain ⟨h1, h2⟩ := a7I hx
    obtain ⟨x1, x2⟩ := x
    simp only at h1 h2
    rw [h2]
    exact b7J (hl x1 h1)
  rw [g1, g2, if_neg (by decide), hf, if_neg (by decide), if_neg (by simp; omega)]
  refine a3N fun x hx => ?_
  obtain ⟨h1, h2⟩ := a7I hx
  obtain ⟨x1, x2⟩ := x
  simp only at h1 h2
  rw [h2]
  exact b3U (hl x1 h1)
theorem a8w (n : Nat) : ∀ (l : List Am) (h : List Int), (∀ a ∈ l, N8 a = 0) -> (r9 (X0 n) h (l.zip (l.map M7))).1 = 0
  | [], _, _ => rfl
  | a :: l, h, ha => by
    have e : X0 n h (a, M7 a) = (0, a2z h (-1)) := by
      unfold X0
      simp only
      rw [b7q (ha a (by simp)) n, if_neg (by decide), if_neg (by simp [M7])]
      rfl
    simp only [List.map_cons, List.zip_cons_cons, r9, e]
    exact a8w n l _ fun x hx => ha x (by simp [hx])
theorem b2b {w : Wk} (h : I9 w = 0) (ha : ∀ a ∈ w.arms, N8 a = 0) (hs : ∀ s ∈ w.slots, okF s.frame = true) : a0u w (H8 w) = 0 := by
  unfold a0u
  have l1 : (H8 w).arms.length = w.arms.length := by simp [H8]
  have l2 : (H8 w).parts.length = w.parts.length := by simp [H8]
  have l3 : (H8 w).gates.length = w.gates.length := by simp [H8]
  have l4 : (H8 w).people = [] := rfl
  have l5 : (H8 w).tick = 0 := rfl
  have hh : (r9 (X0 w.parts.length) [] (w.arms.zip (H8 w).arms)).1 = 0 := a8w _ w.arms [] ha
  have hp : (H8 w).parts.all Z8 = true := by
    rw [List.all_eq_true]
    intro f hf
    obtain ⟨i, _, rfl⟩ := List.mem_map.1 hf
    unfold a4n
    split
    · exact (a7H (hs _ (List.getElem_mem _))).2
    · unfold a1s Z8 G9 a1F
      simp [Nm.a3S]
  rw [h, if_neg (by decide), l4, if_neg (by decide), l1, l2, l3, l5, if_neg (by simp), hh, if_neg (by decide), hp]
  rfl
theorem a3X : Rb 1048576 (Nm.ofQ 0) := ⟨Nat.le_trans (Nm.L6 (k := 8) (by decide)) (by decide), Nat.le_trans (Nm.L6 (k := 8) (by decide)) (by decide)⟩
theorem b3e {k : Nat} (hk : 1048576 <= k) {w : Wk} (hw : Wb k w) (ha : ∀ a ∈ w.arms, N8 a = 0) (hs : ∀ s ∈ w.slots, okF s.frame = true) : Stb k (H8 w) := by
  refine ⟨⟨?_, fun x hx => ?_⟩, ⟨?_, fun x hx => ?_⟩, ⟨Nat.zero_le _, fun v hv => by cases hv⟩, ?_⟩
  · show (w.arms.map M7).length <= _
    rw [List.length_map]; exact hw.arms.1
  · obtain ⟨a, haa, rfl⟩ := List.mem_map.1 hx
    have hab := hw.arms.2 a haa
    refine ⟨⟨?_, fun r hr => ?_⟩, ?_, fun r hr => ?_⟩
    · show (a.links.map Y3).length <= _
      rw [List.length_map]; exact hab.2.2.1
    · obtain ⟨l, hl, rfl⟩ := List.mem_map.1 hr
      have hlb := hab.2.2.2 l hl
      unfold Y3 a6s a1Q
      repeat' split
      all_goals first | exact hlb.2.1.fit (by omega) | exact hlb.2.2.1.fit (by omega) | exact a3X.mono hk
    · show (a.links.map fun _ => Nm.ofQ 0).length <= _
      rw [List.length_map]; exact hab.2.2.1
    · obtain ⟨l, hl, rfl⟩ := List.mem_map.1 hr
      exact a3X.mono hk
  · show ((List.range _).map _).length <= _
    simp; exact hw.parts.1
  · obtain ⟨i, _, rfl⟩ := List.mem_map.1 hx
    unfold a4n
    split
    · exact (a7H (hs _ (List.getElem_mem _))).1.mono hk
    · exact ⟨a3X.mono hk, a3X.mono hk, a3X.mono hk⟩
  · show (List.replicate _ _).length <= _
    rw [List.length_replicate]; exact hw.gates.1
theorem b1f {w : Wk} (hw : Wb 1073741824 w) (ha : ∀ a ∈ w.arms, N8 a = 0) (hs : ∀ s ∈ w.slots, okF s.frame = true) : Stb 1073741824 (H8 w) := b3e (by decide) hw ha hs
theorem b4n (l : List Int) : (∀ a ∈ (J3 l).arms, N8 a = 0) /\ ∀ s ∈ (J3 l).slots, okF s.frame = true := by
  obtain ⟨c1, c2, c3, c4, c5⟩ := counts l
  refine ⟨a6j (nA l) 0 (l.drop 1) (by omega), fun s hs => ?_⟩
  have h := (a4K (nS l) 0 ((l3 l).drop 1)).1 s hs
  simp only [Bool.and_eq_true] at h
  exact h.1.1.1
theorem b3u {n : Nat} : ∀ {l : List (Am × Ast)} {h : List Int}, (r9 (X0 n) h l).1 = 0 -> ∀ z ∈ l, a1J z.1 z.2 n = 0
  | [], _, _, z, hz => by cases hz
  | y :: l, h, e, z, hz => by
    have hy : (X0 n h y).1 = 0 := by
      unfold r9 at e
      split at e
      · assumption
      · exact e
    unfold r9 at e
    rw [if_pos hy] at e
    rcases List.mem_cons.1 hz with rfl | hz
    · unfold X0 at hy
      split at hy
      · exact hy
      · exact Classical.not_not.1 (by assumption)
    · exact b3u e z hz
theorem b0k {w : Wk} (h : I9 w = 0) : ∀ a ∈ w.arms, N8 a = 0 := by
  have h1 : F4 id (a1y w) = 0 := by
    unfold I9 at h
    split at h
    · cases h
    · split at h
      · cases h
      · split at h
        · rename_i h2; exact absurd h h2
        · exact Classical.not_not.1 (by assumption)
  have h2 : (r9 V3 [] w.arms).1 = 0 := by
    unfold a1y at h1
    simp only [F4, id] at h1
    split at h1
    · assumption
    · exact h1
  have key : ∀ (l : List Am) (n : Nms), (r9 V3 n l).1 = 0 -> ∀ a ∈ l, N8 a = 0 := by
    intro l
    induction l with
    | nil => intro n _ a ha; cases ha
    | cons x l ih =>
      intro n hn a ha
      have hx : (V3 n x).1 = 0 := by
        unfold r9 at hn
        split at hn
        · assumption
        · exact hn
      unfold r9 at hn
      rw [if_pos hx] at hn
      rcases List.mem_cons.1 ha with rfl | ha
      · unfold V3 at hx
        split at hx
        · exact hx
        · exact Classical.not_not.1 (by assumption)
      · exact ih _ hn a ha
  exact key _ _ h2
structure c3r (w : Wk) (s : Stt) : Prop where
  works : I9 w = 0
  people : s.people.length <= 4
  tick : 0 <= s.tick /\ s.tick <= 2000
  arms : s.arms.length = w.arms.length
  parts : s.parts.length = w.parts.length
  gates : s.gates.length = w.gates.length
  one : ∀ z ∈ w.arms.zip s.arms, a1J z.1 z.2 w.parts.length = 0
  big : 1 <= w.arms.length /\ w.arms.length <= 4 /\ w.parts.length <= 6 /\ w.gates.length <= 4
theorem b3C {w : Wk} {s : Stt} (h : a0u w s = 0) : c3r w s := by
  unfold a0u at h
  split at h
  · rename_i h1; exact absurd h h1
  rename_i h1
  split at h
  · cases h
  split at h
  · cases h
  split at h
  · rename_i h2; exact absurd h h2
  rename_i h2 h3 h4
  have h1 := Classical.not_not.1 h1
  have hb := h1
  unfold I9 at hb
  split at hb
  · cases hb
  split at hb
  · cases hb
  exact ⟨h1, by omega, by omega, by omega, by omega, by omega, b3u (Classical.not_not.1 h4), by omega⟩
structure c3F (a : Am) (x : Ast) (n : Nat) : Prop where
  arm : N8 a = 0
  q : x.q.length = a.links.length
  v : x.v.length = a.links.length
  holds : -1 <= x.holds /\ x.holds < n
theorem b6C {a : Am} (h : N8 a = 0) : 1 <= a.links.length /\ a.links.length <= 3 := by
  unfold N8 at h
  split at h
  · cases h
  split at h
  · cases h
  split at h
  · cases h
  · omega
set_option maxHeartbeats 16000000
theorem a8p {a : Nm.Rt} (h : j4 a = true) : a.F3 := by
  rw [W9, Bool.and_eq_true] at h
  exact of_decide_eq_true h.1
theorem b4Z {q : Rat} : 0 < A8 q <-> 0 < q := by
  have h1 := @Rat.num_nonneg q
  have h2 := @Rat.num_eq_zero q
  unfold A8
  constructor
  · intro h
    split at h
    · omega
    · split at h
      · omega
      · rename_i h3 h4
        have h5 : 0 <= q := h1.1 (by omega)
        have h6 : q ≠ 0 := fun e => h3 (h2.2 e)
        grind
  · intro h
    have h5 : 0 <= q.num := h1.2 (by grind)
    have h6 : q.num ≠ 0 := fun e => by have := h2.1 e; grind
    rw [if_neg h6, if_neg (by omega)]; decide
theorem b4U {q : Rat} : A8 q < 0 <-> q < 0 := by
  have h1 := @Rat.num_nonneg q
  have hn : q.num < 0 <-> q < 0 := by rw [<- Rat.not_le, <- h1]; omega
  unfold A8
  constructor
  · intro h
    split at h
    · omega
    · split at h
      · exact hn.1 (by assumption)
      · omega
  · intro h
    have := hn.2 h
    rw [if_neg (by omega), if_pos this]; decide
theorem b7m (p q : Rat) : a6s p q = if p < q then q else p := by
  unfold a6s
  by_cases h : p < q
  · rw [if_pos h, if_neg]
    have := (a3R p q).2 h
    omega
  · rw [if_neg h, if_pos]
    have : ¬ Nm.E5 p q < 0 := fun h2 => h ((a3R p q).1 h2)
    omega
theorem b7Y (p q : Rat) : a1Q p q = if q < p then q else p := by
  unfold a1Q
  by_cases h : q < p
  · rw [if_pos h, if_neg]
    have := (a1V p q).2 h
    omega
  · rw [if_neg h, if_pos]
    have : ¬ 0 < Nm.E5 p q := fun h2 => h ((a1V p q).1 h2)
    omega
theorem c0B {l : Lk} (h : X4 l = 0) : Y3 l = if 0 < A8 (Nm.j3 l.low) then l.low else if A8 (Nm.j3 l.high) < 0 then l.high else Nm.ofQ 0 := by
  have hlt := (a3R _ _).1 (a3P h).2.1
  have hs : j4 l.low = true /\ j4 l.high = true := by
    unfold X4 at h
    split at h
    · cases h
    · rename_i h1
      have h2 : (j4 l.length && j4 l.low && j4 l.high && j4 l.speed && j4 l.a0E) = true := by
        cases hb : (j4 l.length && j4 l.low && j4 l.high && j4 l.speed && j4 l.a0E) with
        | true => rfl
        | false => exact absurd (.inl hb) h1
      simp only [Bool.and_eq_true] at h2
      exact ⟨h2.1.1.1.2, h2.1.1.2⟩
  have g1 := a8p hs.1
  have g2 := a8p hs.2
  unfold Y3
  rw [b7m, b7Y]
  by_cases c1 : 0 < Nm.j3 l.low
  · rw [if_pos (b4Z.2 c1)]
    by_cases c2 : 0 < Nm.j3 l.high
    · rw [if_pos c2, if_neg (by grind), Nm.a7d g1]
    · rw [if_neg c2, if_neg (by grind), Nm.a7d g1]
  · rw [if_neg (fun h => c1 (b4Z.1 h))]
    by_cases c2 : Nm.j3 l.high < 0
    · rw [if_pos (b4U.2 c2), if_neg (show ¬ 0 < Nm.j3 l.high by grind), if_pos hlt, Nm.a7d g2]
    · rw [if_neg (fun h => c2 (b4U.1 h))]
      congr 1
      by_cases c3 : 0 < Nm.j3 l.high
      · rw [if_pos c3]; split <;> grind
      · rw [if_neg c3]; split <;> grind
theorem b2l (w : Wk) (hwb : Wb 1073741824 w) (h : I9 w = 0) : FZ 47 [w.c] (H8 w).c := by
  refine q9.of (eff := eff) Tryz.func47 (by conv => { lhs; cbv }) (by exact Nat.le_of_ble_eq_true rfl) fun w' O hw => ?_
  have hao := b0k h
  obtain ⟨n1, b1⟩ := hwb.arms
  have n3 := hwb.parts.1
  have n4 := hwb.slots.1
  have n5 := hwb.gates.1
  have hz := b6G
  have hfz := b5k
  have hpe : ∀ i, a4n w i = if h : i < w.slots.length then (w.slots[i]).frame else a1s := fun _ => rfl
  unfold H8
  generalize hfp : a4n w = fP at *
  obtain ⟨arms, walls, parts, slots, gates, walk⟩ := w
  simp only at n1 b1 n3 n4 n5 hpe hao ⊢
  simp only [l6]
  simp only [Wk.c, Wk.enc, Stt.c, Stt.enc, ams, wls, pts, sls, gts, I8, frs, vts, bls, rc, sb, ints] at ⊢
  (repeat first | refine uA ?_ | (refine uK ?_ ?_; focus first | omega | (intros; simp_all <;> omega)) | simp (disch := omega) only [go_sem, Nat.reduceBEq, Nat.reduceAdd, ww, List.length_map, Int.toNat_natCast])
  refine S.loop (X := Nat) (fun i => ⟨[(1, .bp 0 0), (2, .bp 1 0), (3, .bp 3 0), (17, ams arms), (18, ints arms.length), (19, ints i)], [.box 31 [ams arms, wls walls, pts parts, sls slots, gts gates, .v (.bool walk.neg), sb walk.num, sb walk.den], .box 37 [.v (.int .i64 0), .v (.slice none 0 0), .v (.slice none 0 0), .v (.slice none 0 0), .v (.slice none 0 0)], .row 4 1 (List.replicate gates.length [.v (.bool false)]), .box 37 [.v (.int .i64 0), .rv 4, .rv 5, .v (.slice none 0 0), .rv 2], .row 90 4 (((arms.take i).map M7).map Ast.enc), .row 55 10 []]⟩) (fun i => i <= arms.length) (fun i => arms.length - i) 0 (Nat.zero_le _)
    (Ent.trans (Ent.a0n 3 1 90 4 rfl rfl rfl) (Ent.trans (Ent.a0n 3 2 55 10 rfl rfl rfl) (by (repeat first | refine uA ?_ | (refine ⟨?_, ?_⟩; focus first | rfl | simp [slot]) | rfl | simp)))) ?_
  intro i hi
  simp only [ams, wls, pts, sls, gts, vts, sb, ints]
  (repeat first | refine uA ?_ | (refine uK ?_ ?_; focus first | omega | (intros; simp_all <;> omega)) | simp (disch := omega) only [go_sem, Nat.reduceBEq, Nat.reduceAdd, ww])
  (refine uJ rfl (fun hc => ?_) fun hc => ?_)
  · have hi' : i < arms.length := by omega
    have hgi := List.getElem?_eq_getElem hi'
    have hap : arms.take (i + 1) = arms.take i ++ [arms[i]] := List.take_succ_eq_append_getElem hi'
    have htl : (arms.take i).length = i := by rw [List.length_take]; omega
    generalize arms[i] = a at hgi hap
    obtain ⟨b0, _, nl, bl⟩ := b1 a (List.mem_of_getElem? hgi)
    have hlo := (a7s (hao a (List.mem_of_getElem? hgi))).2
    (repeat first | refine uA ?_ | (refine uK ?_ ?_; focus first | omega | (intros; simp_all <;> omega)) | simp (disch := omega) only [go_sem, Nat.reduceBEq, Nat.reduceAdd, ww, hgi, Option.map_some, List.length_map, Am.enc, lks, sb])
    refine S.loop (X := Nat) (fun k => ⟨[(1, .bp 0 0), (2, .bp 1 0), (3, .bp 3 0), (6, .bp 7 0), (17, ams arms), (18, ints arms.length), (19, ints i), (25, lks a.links), (26, ints a.links.length), (27, ints k)], [.box 31 [ams arms, wls walls, pts parts, sls slots, gts gates, .v (.bool walk.neg), sb walk.num, sb walk.den], .box 37 [.v (.int .i64 0), .v (.slice none 0 0), .v (.slice none 0 0), .v (.slice none 0 0), .v (.slice none 0 0)], .row 4 1 (List.replicate gates.length [.v (.bool false)]), .box 37 [.v (.int .i64 0), .rv 4, .rv 5, .v (.slice none 0 0), .rv 2], .row 90 4 (((arms.take i).map M7).map Ast.enc), .row 55 10 [], .gone, .box 90 [.rv 8, .rv 9, .v (.bool false), .v (.int .i64 (-1))], .row 29 3 (((a.links.take k).map Y3).map rcs), .row 29 3 (((a.links.take k).map fun _ => Nm.ofQ 0).map rcs)]⟩) (fun k => k <= a.links.length) (fun k => a.links.length - k) 0 (Nat.zero_le _)
      (Ent.trans (Ent.a0n 7 0 29 3 rfl rfl rfl) (Ent.trans (Ent.a0n 7 1 29 3 rfl rfl rfl) (by (repeat first | refine uA ?_ | (refine ⟨?_, ?_⟩; focus first | rfl | simp [slot]) | rfl | simp)))) ?_
    intro k hk
    simp only [ams, wls, pts, sls, gts, lks, vts, sb, ints]
    (repeat first | refine uA ?_ | (refine uK ?_ ?_; focus first | omega | (intros; simp_all <;> omega)) | simp (disch := omega) only [go_sem, Nat.reduceBEq, Nat.reduceAdd, ww])
    (refine uJ rfl (fun hc => ?_) fun hc => ?_)
    · have hk' : k < a.links.length := by omega
      have hgk := List.getElem?_eq_getElem hk'
      have hak : a.links.take (k + 1) = a.links.take k ++ [a.links[k]] := List.take_succ_eq_append_getElem hk'
      have htk : (a.links.take k).length = k := by rw [List.length_take]; omega
      generalize a.links[k] = l at hgk hak
      obtain ⟨_, l2, l3, _⟩ := bl l (List.mem_of_getElem? hgk)
      have o1 := O3 l.low (l2.mono (by decide))
      have o2 := O3 l.high (l3.mono (by decide))
      have hq := c0B (hlo l (List.mem_of_getElem? hgk))
      unfold rq at hz
      generalize A8 (Nm.j3 l.low) = s1 at *
      generalize A8 (Nm.j3 l.high) = s2 at *
      generalize hz0 : Nm.ofQ 0 = r0 at *
      simp only [rc, sb, ints] at o1 o2 hz
      (repeat first | refine uA ?_ | (refine uK ?_ ?_; focus first | omega | (intros; simp_all <;> omega)) | simp (disch := omega) only [go_sem, Nat.reduceBEq, Nat.reduceAdd, ww, hgk, Option.map_some, List.length_map, Lk.enc, vts, sb] | (refine uD hz ?_ ?_ ?_; exact tz hw; exact rfl) | (refine uD o1 ?_ ?_ ?_; exact tz hw; exact rfl))
      refine S.join (Y := Nm.Rt) (fun q => ⟨[(1, .bp 0 0), (2, .bp 1 0), (3, .bp 3 0), (6, .bp 7 0), (9, .bp 11 0), (17, ams arms), (18, ints arms.length), (19, ints i), (25, lks a.links), (26, ints a.links.length), (27, ints k)], [.box 31 [ams arms, wls walls, pts parts, sls slots, gts gates, .v (.bool walk.neg), sb walk.num, sb walk.den], .box 37 [.v (.int .i64 0), .v (.slice none 0 0), .v (.slice none 0 0), .v (.slice none 0 0), .v (.slice none 0 0)], .row 4 1 (List.replicate gates.length [.v (.bool false)]), .box 37 [.v (.int .i64 0), .rv 4, .rv 5, .v (.slice none 0 0), .rv 2], .row 90 4 (((arms.take i).map M7).map Ast.enc), .row 55 10 [], .gone, .box 90 [.rv 8, .rv 9, .v (.bool false), .v (.int .i64 (-1))], .row 29 3 (((a.links.take k).map Y3).map rcs), .row 29 3 (((a.links.take k).map fun _ => r0).map rcs), .gone, .box 29 (rcs q)]⟩) (fun q => q = Y3 l) ?_ ?_
      · refine S.cond rfl (fun hc2 => ?_) (fun hc2 => ?_)
        · rw [if_pos (by simpa using hc2)] at hq
          (repeat first | refine uA ?_ | (refine uK ?_ ?_; focus first | omega | (intros; simp_all <;> omega)) | simp (disch := omega) only [go_sem, Nat.reduceBEq, Nat.reduceAdd, ww])
          exact S.met l.low hq.symm (by simp only [ams, wls, pts, sls, gts, lks, vts, rcs, sb, ints]; exact (by (repeat first | refine uA ?_ | (refine ⟨?_, ?_⟩; focus first | rfl | simp [slot]) | rfl | simp)))
        rw [if_neg (by simpa using hc2)] at hq
        (repeat first | refine uA ?_ | (refine uK ?_ ?_; focus first | omega | (intros; simp_all <;> omega)) | simp (disch := omega) only [go_sem, Nat.reduceBEq, Nat.reduceAdd, ww] | (refine uD o2 ?_ ?_ ?_; exact tz hw; exact rfl))
        refine S.cond rfl (fun hc3 => ?_) (fun hc3 => ?_)
        · rw [if_pos (by simpa using hc3)] at hq
          (repeat first | refine uA ?_ | (refine uK ?_ ?_; focus first | omega | (intros; simp_all <;> omega)) | simp (disch := omega) only [go_sem, Nat.reduceBEq, Nat.reduceAdd, ww])
          exact S.met l.high hq.symm (by simp only [ams, wls, pts, sls, gts, lks, vts, rcs, sb, ints]; exact (by (repeat first | refine uA ?_ | (refine ⟨?_, ?_⟩; focus first | rfl | simp [slot]) | rfl | simp)))
        · rw [if_neg (by simpa using hc3)] at hq
          (repeat first | refine uA ?_ | (refine uK ?_ ?_; focus first | omega | (intros; simp_all <;> omega)) | simp (disch := omega) only [go_sem, Nat.reduceBEq, Nat.reduceAdd, ww])
          exact S.met r0 hq.symm (by simp only [ams, wls, pts, sls, gts, lks, vts, rcs, sb, ints]; exact (by (repeat first | refine uA ?_ | (refine ⟨?_, ?_⟩; focus first | rfl | simp [slot]) | rfl | simp)))
      rintro q rfl
      clear hq
      simp only [ams, wls, pts, sls, gts, lks, vts, rcs, sb, ints]
      (repeat first | refine uI ?_ | (refine uK ?_ ?_; focus first | omega | (intros; simp_all <;> omega)) | simp (disch := omega) only [go_sem, Nat.reduceBEq, Nat.reduceAdd, ww])
      refine S.K3 [.gone, .gone, .gone, .gone, .gone, .gone, .gone, .box 90 [.junk, .rv 9, .v (.bool false), .v (.int .i64 (-1))]] (by simp [Eng.F9, Eng.leC]) ?_
      (repeat first | refine uA ?_ | (refine uK ?_ ?_; focus first | omega | (intros; simp_all <;> omega)) | simp (disch := omega) only [go_sem, Nat.reduceBEq, Nat.reduceAdd, ww, KMd, List.length_map, htk] | (refine uD hz ?_ ?_ ?_; exact tz hw; exact rfl))
      refine S.next (k + 1) (by omega) (by omega) (by simp only [hak, hz0, List.map_append, List.map_cons, List.map_nil, rcs, sb]; exact (by (repeat first | refine uA ?_ | (refine ⟨?_, ?_⟩; focus first | rfl | simp [slot]) | rfl | simp)))
    · have hk' : k = a.links.length := by omega
      subst hk'
      rw [List.take_length]
      refine S.exit rfl ?_
      refine S.weaken (st' := ⟨[(1, .bp 0 0), (2, .bp 1 0), (3, .bp 3 0), (6, .bp 7 0), (17, ams arms), (18, ints arms.length), (19, ints i)], [.box 31 [ams arms, wls walls, pts parts, sls slots, gts gates, .v (.bool walk.neg), sb walk.num, sb walk.den], .box 37 [.v (.int .i64 0), .v (.slice none 0 0), .v (.slice none 0 0), .v (.slice none 0 0), .v (.slice none 0 0)], .row 4 1 (List.replicate gates.length [.v (.bool false)]), .box 37 [.v (.int .i64 0), .rv 4, .rv 5, .v (.slice none 0 0), .rv 2], .row 90 4 (((arms.take i).map M7).map Ast.enc), .row 55 10 [], .gone, .box 90 (M7 a).enc]⟩) (Ent.mk _ _ (by (repeat first | refine uA ?_ | (refine ⟨?_, ?_⟩; focus first | rfl | simp [slot]) | rfl | simp)) (by (repeat' (first | exact M8.nil | exact RI.gone _ | exact RI.row _ _ _ _ rfl | exact RI.map _ _ _ rfl | exact RI.box _ _ _ (p8.refl rfl) | (refine RI.box _ _ _ ?_; (repeat' (first | exact p8.nil | exact Imp.refl rfl | exact Imp.frz rfl rfl rfl | exact Imp.a1I | refine p8.cons ?_ ?_))) | refine M8.cons ?_ ?_))) (Nat.zero_le _)) ?_
      simp only [ams, wls, pts, sls, gts, vts, sb, ints, Ast.enc, rts]
      (repeat first | refine uA ?_ | (refine uK ?_ ?_; focus first | omega | (intros; simp_all <;> omega)) | simp (disch := omega) only [go_sem, Nat.reduceBEq, Nat.reduceAdd, ww, List.length_map, htl])
      refine S.next (i + 1) (by omega) (by omega) (by simp only [hap, List.map_append, List.map_cons, List.map_nil, Ast.enc, rts, ints]; exact (by (repeat first | refine uA ?_ | (refine ⟨?_, ?_⟩; focus first | rfl | simp [slot]) | rfl | simp)))
  · have hi' : i = arms.length := by omega
    subst hi'
    rw [List.take_length]
    (repeat first | refine uA ?_ | (refine uK ?_ ?_; focus first | omega | (intros; simp_all <;> omega)) | simp (disch := omega) only [go_sem, Nat.reduceBEq, Nat.reduceAdd, ww, List.length_map])
    refine S.loop (X := Nat) (fun i => ⟨[(1, .bp 0 0), (2, .bp 1 0), (3, .bp 3 0), (66, ints parts.length), (67, ints i)], [.box 31 [ams arms, wls walls, pts parts, sls slots, gts gates, .v (.bool walk.neg), sb walk.num, sb walk.den], .box 37 [.v (.int .i64 0), .v (.slice none 0 0), .v (.slice none 0 0), .v (.slice none 0 0), .v (.slice none 0 0)], .row 4 1 (List.replicate gates.length [.v (.bool false)]), .box 37 [.v (.int .i64 0), .rv 4, .rv 5, .v (.slice none 0 0), .rv 2], .row 90 4 ((arms.map M7).map Ast.enc), .row 55 10 (((List.range i).map fP).map Fr.enc)]⟩) (fun i => i <= parts.length) (fun i => parts.length - i) 0 (Nat.zero_le _) (by (repeat first | refine uA ?_ | (refine ⟨?_, ?_⟩; focus first | rfl | simp [slot]) | rfl | simp)) ?_
    intro i hi
    simp only [ams, wls, pts, sls, gts, vts, sb, ints]
    (repeat first | refine uA ?_ | (refine uK ?_ ?_; focus first | omega | (intros; simp_all <;> omega)) | simp (disch := omega) only [go_sem, Nat.reduceBEq, Nat.reduceAdd, ww])
    (refine uJ rfl (fun hc => ?_) fun hc => ?_)
    · have hrl : ((List.range i).map fP).length = i := by simp
      simp only [a1s, Fr.c, Fr.enc, sb] at hfz
      (repeat first | refine uA ?_ | (refine uK ?_ ?_; focus first | omega | (intros; simp_all <;> omega)) | simp (disch := omega) only [go_sem, Nat.reduceBEq, Nat.reduceAdd, ww, List.length_map])
      refine S.cond rfl (fun hc => ?_) (fun hc => ?_)
      · have hsi : i < slots.length := by simp at hc; omega
        have hgs := List.getElem?_eq_getElem hsi
        have hf : fP i = (slots[i]).frame := by rw [hpe i, dif_pos hsi]
        generalize slots[i] = s at hgs hf
        (repeat first | refine uA ?_ | (refine uK ?_ ?_; focus first | omega | (intros; simp_all <;> omega)) | simp (disch := omega) only [go_sem, Nat.reduceBEq, Nat.reduceAdd, ww, hgs, Option.map_some, List.length_map, Sl.enc, sb, Int.toNat_natCast, hrl, List.length_range])
        refine S.next (i + 1) (by omega) (by omega) (by simp only [List.range_succ, List.map_append, List.map_cons, List.map_nil, hf, Fr.enc, sb]; exact (by (repeat first | refine uA ?_ | (refine ⟨?_, ?_⟩; focus first | rfl | simp [slot]) | rfl | simp)))
      · have hf : fP i = a1s := by rw [hpe i, dif_neg (by simp at hc; omega)]
        (repeat first | refine uA ?_ | (refine uK ?_ ?_; focus first | omega | (intros; simp_all <;> omega)) | simp (disch := omega) only [go_sem, Nat.reduceBEq, Nat.reduceAdd, ww, List.length_map, hrl, List.length_range] | (refine uD hfz ?_ ?_ ?_; exact tz hw; exact rfl))
        refine S.next (i + 1) (by omega) (by omega) (by simp only [List.range_succ, List.map_append, List.map_cons, List.map_nil, hf, a1s, Fr.enc, sb]; exact (by (repeat first | refine uA ?_ | (refine ⟨?_, ?_⟩; focus first | rfl | simp [slot]) | rfl | simp)))
    · have hi' : i = parts.length := by omega
      subst hi'
      simp only [List.map_replicate]
      (repeat first | refine uA ?_ | (refine uK ?_ ?_; focus first | omega | (intros; simp_all <;> omega)) | simp (disch := omega) only [go_sem, Nat.reduceBEq, Nat.reduceAdd, ww])
      (refine S.done ?_; simp only [D8, x9, go_sem, Nat.reduceBEq, Nat.reduceAdd, Nat.reduceLeDiff, Int.reduceToNat, Int.reducePow]; (repeat (refine ⟨?_, ?_⟩; focus first | trivial | omega | simp)); exact d9.out rfl (Imp.agg (by (repeat' (first | exact p8.nil | exact Imp.refl rfl | exact Imp.frz rfl rfl rfl | exact Imp.a1I | refine p8.cons ?_ ?_)))) rfl)
def a4F : F5 := ⟨6, [.tmp 2], .seq (.reg [OA 1 (.box 90 (TT 0)), OA 2 (.mv (.const (.bool false)))]) (.seq (.reg [FF 3 1 1, VV 4 3, OA 5 (.call 44 [TT 4, .func 151]), MM 2 5]) .ret)⟩
theorem a9n : C8 eff Tryz.prog Tryz.f43 = some a4F := by kernel_rfl
theorem a9e : Tryz.prog.funcs[43]? = some Tryz.f43 := Tryz.func43
def a3A : F5 := ⟨6, [.tmp 2], .seq (.reg [OA 1 (.box 29 (TT 0)), OA 2 (.mv (.const (.bool false)))]) (.seq (.reg [LL 3 3 1, OA 4 (.call 15 [TT 3]), OA 5 (.bin .neq (TT 4) (II 0)), MM 2 5]) .ret)⟩
theorem a7V : C8 eff Tryz.prog Tryz.f151 = some a3A := by kernel_rfl
theorem a8c : Tryz.prog.funcs[151]? = some Tryz.f151 := Tryz.func151
set_option maxRecDepth 10000
set_option maxHeartbeats 8000000
instance : DecidableEq Nm.Rt := fun ⟨a, b, c⟩ ⟨d, e, f⟩ => decidable_of_iff (a = d /\ b = e /\ c = f) ⟨fun ⟨h1, h2, h3⟩ => by rw [h1, h2, h3], fun h => by injection h with h1 h2 h3; exact ⟨h1, h2, h3⟩⟩
instance : DecidableEq Vt := fun ⟨a, b⟩ ⟨d, e⟩ => decidable_of_iff (a = d /\ b = e) ⟨fun ⟨h1, h2⟩ => by rw [h1, h2], fun h => by injection h with h1 h2; exact ⟨h1, h2⟩⟩
instance : DecidableEq Fr := fun ⟨a, b, c, g⟩ ⟨d, e, f, h⟩ => decidable_of_iff (a = d /\ b = e /\ c = f /\ g = h) ⟨fun ⟨h1, h2, h3, h4⟩ => by rw [h1, h2, h3, h4], fun h => by injection h with h1 h2 h3 h4; exact ⟨h1, h2, h3, h4⟩⟩
instance : DecidableEq Ast := fun ⟨a, b, c, g⟩ ⟨d, e, f, h⟩ => decidable_of_iff (a = d /\ b = e /\ c = f /\ g = h) ⟨fun ⟨h1, h2, h3, h4⟩ => by rw [h1, h2, h3, h4], fun h => by injection h with h1 h2 h3 h4; exact ⟨h1, h2, h3, h4⟩⟩
instance : DecidableEq Stt := fun ⟨a, b, c, g, i⟩ ⟨d, e, f, h, j⟩ => decidable_of_iff (a = d /\ b = e /\ c = f /\ g = h /\ i = j) ⟨fun ⟨h1, h2, h3, h4, h5⟩ => by rw [h1, h2, h3, h4, h5], fun h => by injection h with h1 h2 h3 h4 h5; exact ⟨h1, h2, h3, h4, h5⟩⟩
theorem b5g (a b : List Nm.Rt) (hn : a.length <= 1000000000000) (hb : b.length <= 1000000000000) : l7 Tryz.prog 144 [rts a, rts b] (.v (.bool (decide (a = b)))) := by
  refine l7.of (eff := eff) Tryz.func144 (by conv => { lhs; cbv }) (by exact Nat.le_of_ble_eq_true rfl) fun w O => ?_
  simp only [l6, ints, rts]
  (repeat first | refine uA ?_ | (refine uK ?_ ?_; focus first | omega | (intros; simp_all <;> omega)) | simp (disch := omega) only [go_sem, Nat.reduceBEq, Nat.reduceAdd, ww, List.length_map])
  (refine uJ rfl (fun hc => ?_) fun hc => ?_)
  · have hne : ¬ a = b := fun e => hc (by rw [e])
    rw [decide_eq_false hne]
    (repeat first | refine uA ?_ | (refine uK ?_ ?_; focus first | omega | (intros; simp_all <;> omega)) | simp (disch := omega) only [go_sem, Nat.reduceBEq, Nat.reduceAdd, ww])
    exact S.done (d9.out rfl (Imp.refl rfl) rfl)
  have hlen : a.length = b.length := by omega
  (repeat first | refine uA ?_ | (refine uK ?_ ?_; focus first | omega | (intros; simp_all <;> omega)) | simp (disch := omega) only [go_sem, Nat.reduceBEq, Nat.reduceAdd, ww, List.length_map])
  refine S.loop (X := Nat) (fun i => ⟨[(0, rts a), (1, rts b), (12, ints a.length), (13, ints i)], []⟩)
    (fun i => i <= a.length /\ a.take i = b.take i) (fun i => a.length - i) 0 ⟨Nat.zero_le _, by simp⟩ (by (repeat first | refine uA ?_ | (refine ⟨?_, ?_⟩; focus first | rfl | simp [slot]) | rfl | simp)) ?_
  rintro i ⟨hi, he⟩
  simp only [ints, rts] at hi ⊢
  (repeat first | refine uA ?_ | (refine uK ?_ ?_; focus first | omega | (intros; simp_all <;> omega)) | simp (disch := omega) only [go_sem, Nat.reduceBEq, Nat.reduceAdd, ww])
  (refine uJ rfl (fun hc => ?_) fun hc => ?_)
  · have hgi := List.getElem?_eq_getElem (show i < a.length by omega)
    have hgj := List.getElem?_eq_getElem (show i < b.length by omega)
    have hti := List.take_succ_eq_append_getElem (show i < a.length by omega)
    have htj := List.take_succ_eq_append_getElem (show i < b.length by omega)
    generalize a[i]'_ = z at hgi hti
    generalize b[i]'_ = y at hgj htj
    by_cases hzy : z = y
    · subst hzy
      (repeat first | refine uA ?_ | (refine uK ?_ ?_; focus first | omega | (intros; simp_all <;> omega)) | simp (disch := omega) only [go_sem, Nat.reduceBEq, Nat.reduceAdd, ww, hgi, hgj, Option.map_some, List.length_map, rcs, sb, Int.toNat_natCast, a1q, beq_self_eq_true, decide_true])
      refine S.cond rfl (fun hc2 => by simp at hc2) (fun hc2 => ?_)
      (repeat first | refine uA ?_ | (refine uK ?_ ?_; focus first | omega | (intros; simp_all <;> omega)) | simp (disch := omega) only [go_sem, Nat.reduceBEq, Nat.reduceAdd, ww])
      refine S.next (i + 1) ⟨by omega, by rw [hti, htj, he]⟩ (by omega) (by (repeat first | refine uA ?_ | (refine ⟨?_, ?_⟩; focus first | rfl | simp [slot]) | rfl | simp))
    · have hne : ¬ a = b := fun e => by
        subst e
        rw [hgi] at hgj
        injection hgj with hgj
        exact hzy hgj
      obtain ⟨z1, z2, z3⟩ := z
      obtain ⟨y1, y2, y3⟩ := y
      (repeat first | refine uA ?_ | (refine uK ?_ ?_; focus first | omega | (intros; simp_all <;> omega)) | simp (disch := omega) only [go_sem, Nat.reduceBEq, Nat.reduceAdd, ww, hgi, hgj, Option.map_some, List.length_map, rcs, sb, Int.toNat_natCast, a1q])
      refine S.cond rfl (fun hc2 => ?_) (fun hc2 => by simp at hc2 hzy; simp_all)
      rw [decide_eq_false hne]
      (repeat first | refine uA ?_ | (refine uK ?_ ?_; focus first | omega | (intros; simp_all <;> omega)) | simp (disch := omega) only [go_sem, Nat.reduceBEq, Nat.reduceAdd, ww])
      exact S.done (d9.out rfl (Imp.refl rfl) rfl)
  have hi' : i = a.length := by omega
  subst hi'
  have hab : a = b := by
    rw [List.take_length] at he
    rw [hlen, List.take_length] at he
    exact he
  rw [decide_eq_true hab]
  (repeat first | refine uA ?_ | (refine uK ?_ ?_; focus first | omega | (intros; simp_all <;> omega)) | simp (disch := omega) only [go_sem, Nat.reduceBEq, Nat.reduceAdd, ww])
  exact S.done (d9.out rfl (Imp.refl rfl) rfl)
theorem c2A (a b : List Fr) (hn : a.length <= 1000000000000) (hb : b.length <= 1000000000000) : l7 Tryz.prog 146 [frs a, frs b] (.v (.bool (decide (a = b)))) := by
  refine l7.of (eff := eff) Tryz.func146 (by conv => { lhs; cbv }) (by exact Nat.le_of_ble_eq_true rfl) fun w O => ?_
  simp only [l6, ints, frs]
  (repeat first | refine uA ?_ | (refine uK ?_ ?_; focus first | omega | (intros; simp_all <;> omega)) | simp (disch := omega) only [go_sem, Nat.reduceBEq, Nat.reduceAdd, ww, List.length_map])
  (refine uJ rfl (fun hc => ?_) fun hc => ?_)
  · have hne : ¬ a = b := fun e => hc (by rw [e])
    rw [decide_eq_false hne]
    (repeat first | refine uA ?_ | (refine uK ?_ ?_; focus first | omega | (intros; simp_all <;> omega)) | simp (disch := omega) only [go_sem, Nat.reduceBEq, Nat.reduceAdd, ww])
    exact S.done (d9.out rfl (Imp.refl rfl) rfl)
  have hlen : a.length = b.length := by omega
  (repeat first | refine uA ?_ | (refine uK ?_ ?_; focus first | omega | (intros; simp_all <;> omega)) | simp (disch := omega) only [go_sem, Nat.reduceBEq, Nat.reduceAdd, ww, List.length_map])
  refine S.loop (X := Nat) (fun i => ⟨[(0, frs a), (1, frs b), (12, ints a.length), (13, ints i)], []⟩)
    (fun i => i <= a.length /\ a.take i = b.take i) (fun i => a.length - i) 0 ⟨Nat.zero_le _, by simp⟩ (by (repeat first | refine uA ?_ | (refine ⟨?_, ?_⟩; focus first | rfl | simp [slot]) | rfl | simp)) ?_
  rintro i ⟨hi, he⟩
  simp only [ints, frs] at hi ⊢
  (repeat first | refine uA ?_ | (refine uK ?_ ?_; focus first | omega | (intros; simp_all <;> omega)) | simp (disch := omega) only [go_sem, Nat.reduceBEq, Nat.reduceAdd, ww])
  (refine uJ rfl (fun hc => ?_) fun hc => ?_)
  · have hgi := List.getElem?_eq_getElem (show i < a.length by omega)
    have hgj := List.getElem?_eq_getElem (show i < b.length by omega)
    have hti := List.take_succ_eq_append_getElem (show i < a.length by omega)
    have htj := List.take_succ_eq_append_getElem (show i < b.length by omega)
    generalize a[i]'_ = z at hgi hti
    generalize b[i]'_ = y at hgj htj
    by_cases hzy : z = y
    · subst hzy
      (repeat first | refine uA ?_ | (refine uK ?_ ?_; focus first | omega | (intros; simp_all <;> omega)) | simp (disch := omega) only [go_sem, Nat.reduceBEq, Nat.reduceAdd, ww, hgi, hgj, Option.map_some, List.length_map, Fr.enc, sb, Int.toNat_natCast, a1q, beq_self_eq_true, decide_true])
      refine S.cond rfl (fun hc2 => by simp at hc2) (fun hc2 => ?_)
      (repeat first | refine uA ?_ | (refine uK ?_ ?_; focus first | omega | (intros; simp_all <;> omega)) | simp (disch := omega) only [go_sem, Nat.reduceBEq, Nat.reduceAdd, ww])
      refine S.next (i + 1) ⟨by omega, by rw [hti, htj, he]⟩ (by omega) (by (repeat first | refine uA ?_ | (refine ⟨?_, ?_⟩; focus first | rfl | simp [slot]) | rfl | simp))
    · have hne : ¬ a = b := fun e => by
        subst e
        rw [hgi] at hgj
        injection hgj with hgj
        exact hzy hgj
      obtain ⟨⟨z1, z2, z3⟩, ⟨z4, z5, z6⟩, z7, ⟨z8, z9, z10⟩⟩ := z
      obtain ⟨⟨y1, y2, y3⟩, ⟨y4, y5, y6⟩, y7, ⟨y8, y9, y10⟩⟩ := y
      (repeat first | refine uA ?_ | (refine uK ?_ ?_; focus first | omega | (intros; simp_all <;> omega)) | simp (disch := omega) only [go_sem, Nat.reduceBEq, Nat.reduceAdd, ww, hgi, hgj, Option.map_some, List.length_map, Fr.enc, sb, Int.toNat_natCast, a1q])
      refine S.cond rfl (fun hc2 => ?_) (fun hc2 => by simp at hc2 hzy; simp_all)
      rw [decide_eq_false hne]
      (repeat first | refine uA ?_ | (refine uK ?_ ?_; focus first | omega | (intros; simp_all <;> omega)) | simp (disch := omega) only [go_sem, Nat.reduceBEq, Nat.reduceAdd, ww])
      exact S.done (d9.out rfl (Imp.refl rfl) rfl)
  have hi' : i = a.length := by omega
  subst hi'
  have hab : a = b := by
    rw [List.take_length] at he
    rw [hlen, List.take_length] at he
    exact he
  rw [decide_eq_true hab]
  (repeat first | refine uA ?_ | (refine uK ?_ ?_; focus first | omega | (intros; simp_all <;> omega)) | simp (disch := omega) only [go_sem, Nat.reduceBEq, Nat.reduceAdd, ww])
  exact S.done (d9.out rfl (Imp.refl rfl) rfl)
theorem c0J (a b : List Vt) (hn : a.length <= 1000000000000) (hb : b.length <= 1000000000000) : l7 Tryz.prog 147 [vts a, vts b] (.v (.bool (decide (a = b)))) := by
  refine l7.of (eff := eff) Tryz.func147 (by conv => { lhs; cbv }) (by exact Nat.le_of_ble_eq_true rfl) fun w O => ?_
  simp only [l6, ints, vts]
  (repeat first | refine uA ?_ | (refine uK ?_ ?_; focus first | omega | (intros; simp_all <;> omega)) | simp (disch := omega) only [go_sem, Nat.reduceBEq, Nat.reduceAdd, ww, List.length_map])
  (refine uJ rfl (fun hc => ?_) fun hc => ?_)
  · have hne : ¬ a = b := fun e => hc (by rw [e])
    rw [decide_eq_false hne]
    (repeat first | refine uA ?_ | (refine uK ?_ ?_; focus first | omega | (intros; simp_all <;> omega)) | simp (disch := omega) only [go_sem, Nat.reduceBEq, Nat.reduceAdd, ww])
    exact S.done (d9.out rfl (Imp.refl rfl) rfl)
  have hlen : a.length = b.length := by omega
  (repeat first | refine uA ?_ | (refine uK ?_ ?_; focus first | omega | (intros; simp_all <;> omega)) | simp (disch := omega) only [go_sem, Nat.reduceBEq, Nat.reduceAdd, ww, List.length_map])
  refine S.loop (X := Nat) (fun i => ⟨[(0, vts a), (1, vts b), (12, ints a.length), (13, ints i)], []⟩)
    (fun i => i <= a.length /\ a.take i = b.take i) (fun i => a.length - i) 0 ⟨Nat.zero_le _, by simp⟩ (by (repeat first | refine uA ?_ | (refine ⟨?_, ?_⟩; focus first | rfl | simp [slot]) | rfl | simp)) ?_
  rintro i ⟨hi, he⟩
  simp only [ints, vts] at hi ⊢
  (repeat first | refine uA ?_ | (refine uK ?_ ?_; focus first | omega | (intros; simp_all <;> omega)) | simp (disch := omega) only [go_sem, Nat.reduceBEq, Nat.reduceAdd, ww])
  (refine uJ rfl (fun hc => ?_) fun hc => ?_)
  · have hgi := List.getElem?_eq_getElem (show i < a.length by omega)
    have hgj := List.getElem?_eq_getElem (show i < b.length by omega)
    have hti := List.take_succ_eq_append_getElem (show i < a.length by omega)
    have htj := List.take_succ_eq_append_getElem (show i < b.length by omega)
    generalize a[i]'_ = z at hgi hti
    generalize b[i]'_ = y at hgj htj
    by_cases hzy : z = y
    · subst hzy
      (repeat first | refine uA ?_ | (refine uK ?_ ?_; focus first | omega | (intros; simp_all <;> omega)) | simp (disch := omega) only [go_sem, Nat.reduceBEq, Nat.reduceAdd, ww, hgi, hgj, Option.map_some, List.length_map, Vt.enc, sb, Int.toNat_natCast, a1q, beq_self_eq_true, decide_true])
      refine S.cond rfl (fun hc2 => by simp at hc2) (fun hc2 => ?_)
      (repeat first | refine uA ?_ | (refine uK ?_ ?_; focus first | omega | (intros; simp_all <;> omega)) | simp (disch := omega) only [go_sem, Nat.reduceBEq, Nat.reduceAdd, ww])
      refine S.next (i + 1) ⟨by omega, by rw [hti, htj, he]⟩ (by omega) (by (repeat first | refine uA ?_ | (refine ⟨?_, ?_⟩; focus first | rfl | simp [slot]) | rfl | simp))
    · have hne : ¬ a = b := fun e => by
        subst e
        rw [hgi] at hgj
        injection hgj with hgj
        exact hzy hgj
      obtain ⟨⟨z1, z2, z3⟩, ⟨z4, z5, z6⟩⟩ := z
      obtain ⟨⟨y1, y2, y3⟩, ⟨y4, y5, y6⟩⟩ := y
      (repeat first | refine uA ?_ | (refine uK ?_ ?_; focus first | omega | (intros; simp_all <;> omega)) | simp (disch := omega) only [go_sem, Nat.reduceBEq, Nat.reduceAdd, ww, hgi, hgj, Option.map_some, List.length_map, Vt.enc, sb, Int.toNat_natCast, a1q])
      refine S.cond rfl (fun hc2 => ?_) (fun hc2 => by simp at hc2 hzy; simp_all)
      rw [decide_eq_false hne]
      (repeat first | refine uA ?_ | (refine uK ?_ ?_; focus first | omega | (intros; simp_all <;> omega)) | simp (disch := omega) only [go_sem, Nat.reduceBEq, Nat.reduceAdd, ww])
      exact S.done (d9.out rfl (Imp.refl rfl) rfl)
  have hi' : i = a.length := by omega
  subst hi'
  have hab : a = b := by
    rw [List.take_length] at he
    rw [hlen, List.take_length] at he
    exact he
  rw [decide_eq_true hab]
  (repeat first | refine uA ?_ | (refine uK ?_ ?_; focus first | omega | (intros; simp_all <;> omega)) | simp (disch := omega) only [go_sem, Nat.reduceBEq, Nat.reduceAdd, ww])
  exact S.done (d9.out rfl (Imp.refl rfl) rfl)
theorem b9G (a b : List Bool) (hn : a.length <= 1000000000000) (hb : b.length <= 1000000000000) : l7 Tryz.prog 148 [bls a, bls b] (.v (.bool (decide (a = b)))) := by
  refine l7.of (eff := eff) Tryz.func148 (by conv => { lhs; cbv }) (by exact Nat.le_of_ble_eq_true rfl) fun w O => ?_
  simp only [l6, ints, bls]
  (repeat first | refine uA ?_ | (refine uK ?_ ?_; focus first | omega | (intros; simp_all <;> omega)) | simp (disch := omega) only [go_sem, Nat.reduceBEq, Nat.reduceAdd, ww, List.length_map])
  (refine uJ rfl (fun hc => ?_) fun hc => ?_)
  · have hne : ¬ a = b := fun e => hc (by rw [e])
    rw [decide_eq_false hne]
    (repeat first | refine uA ?_ | (refine uK ?_ ?_; focus first | omega | (intros; simp_all <;> omega)) | simp (disch := omega) only [go_sem, Nat.reduceBEq, Nat.reduceAdd, ww])
    exact S.done (d9.out rfl (Imp.refl rfl) rfl)
  have hlen : a.length = b.length := by omega
  (repeat first | refine uA ?_ | (refine uK ?_ ?_; focus first | omega | (intros; simp_all <;> omega)) | simp (disch := omega) only [go_sem, Nat.reduceBEq, Nat.reduceAdd, ww, List.length_map])
  refine S.loop (X := Nat) (fun i => ⟨[(0, bls a), (1, bls b), (12, ints a.length), (13, ints i)], []⟩)
    (fun i => i <= a.length /\ a.take i = b.take i) (fun i => a.length - i) 0 ⟨Nat.zero_le _, by simp⟩ (by (repeat first | refine uA ?_ | (refine ⟨?_, ?_⟩; focus first | rfl | simp [slot]) | rfl | simp)) ?_
  rintro i ⟨hi, he⟩
  simp only [ints, bls] at hi ⊢
  (repeat first | refine uA ?_ | (refine uK ?_ ?_; focus first | omega | (intros; simp_all <;> omega)) | simp (disch := omega) only [go_sem, Nat.reduceBEq, Nat.reduceAdd, ww])
  (refine uJ rfl (fun hc => ?_) fun hc => ?_)
  · have hgi := List.getElem?_eq_getElem (show i < a.length by omega)
    have hgj := List.getElem?_eq_getElem (show i < b.length by omega)
    have hti := List.take_succ_eq_append_getElem (show i < a.length by omega)
    have htj := List.take_succ_eq_append_getElem (show i < b.length by omega)
    generalize a[i]'_ = z at hgi hti
    generalize b[i]'_ = y at hgj htj
    by_cases hzy : z = y
    · subst hzy
      (repeat first | refine uA ?_ | (refine uK ?_ ?_; focus first | omega | (intros; simp_all <;> omega)) | simp (disch := omega) only [go_sem, Nat.reduceBEq, Nat.reduceAdd, ww, hgi, hgj, Option.map_some, List.length_map, sb, Int.toNat_natCast, a1q, beq_self_eq_true, decide_true])
      refine S.cond rfl (fun hc2 => by simp at hc2) (fun hc2 => ?_)
      (repeat first | refine uA ?_ | (refine uK ?_ ?_; focus first | omega | (intros; simp_all <;> omega)) | simp (disch := omega) only [go_sem, Nat.reduceBEq, Nat.reduceAdd, ww])
      refine S.next (i + 1) ⟨by omega, by rw [hti, htj, he]⟩ (by omega) (by (repeat first | refine uA ?_ | (refine ⟨?_, ?_⟩; focus first | rfl | simp [slot]) | rfl | simp))
    · have hne : ¬ a = b := fun e => by
        subst e
        rw [hgi] at hgj
        injection hgj with hgj
        exact hzy hgj
      skip
      skip
      (repeat first | refine uA ?_ | (refine uK ?_ ?_; focus first | omega | (intros; simp_all <;> omega)) | simp (disch := omega) only [go_sem, Nat.reduceBEq, Nat.reduceAdd, ww, hgi, hgj, Option.map_some, List.length_map, sb, Int.toNat_natCast, a1q])
      refine S.cond rfl (fun hc2 => ?_) (fun hc2 => by simp at hc2 hzy; simp_all)
      rw [decide_eq_false hne]
      (repeat first | refine uA ?_ | (refine uK ?_ ?_; focus first | omega | (intros; simp_all <;> omega)) | simp (disch := omega) only [go_sem, Nat.reduceBEq, Nat.reduceAdd, ww])
      exact S.done (d9.out rfl (Imp.refl rfl) rfl)
  have hi' : i = a.length := by omega
  subst hi'
  have hab : a = b := by
    rw [List.take_length] at he
    rw [hlen, List.take_length] at he
    exact he
  rw [decide_eq_true hab]
  (repeat first | refine uA ?_ | (refine uK ?_ ?_; focus first | omega | (intros; simp_all <;> omega)) | simp (disch := omega) only [go_sem, Nat.reduceBEq, Nat.reduceAdd, ww])
  exact S.done (d9.out rfl (Imp.refl rfl) rfl)
theorem c0Y (x y : Ast) (hx : Asb 1073741824 x) (hy : Asb 1073741824 y) : l7 Tryz.prog 143 [x.c, y.c] (.v (.bool (decide (x = y)))) := by
  refine l7.of (eff := eff) Tryz.func143 (by conv => { lhs; cbv }) (by exact Nat.le_of_ble_eq_true rfl) fun w O => ?_
  have h1 := b5g x.q y.q (by have := hx.1.1; omega) (by have := hy.1.1; omega)
  have h2 := b5g x.v y.v (by have := hx.2.1; omega) (by have := hy.2.1; omega)
  have e : decide (x = y) = (((decide (x.q = y.q) && decide (x.v = y.v)) && (x.power == y.power)) && decide (x.holds = y.holds)) := by
    rw [Bool.eq_iff_iff]
    simp only [decide_eq_true_eq, Bool.and_eq_true, beq_iff_eq]
    exact ⟨fun h => by subst h; simp, fun h => by cases x; cases y; simp_all⟩
  rw [e]
  generalize decide (x.q = y.q) = q1 at *
  generalize decide (x.v = y.v) = q2 at *
  obtain ⟨xq, xv, xp, xh⟩ := x
  obtain ⟨yq, yv, yp, yh⟩ := y
  simp only [l6]
  simp only [Ast.c, Ast.enc, rts, sb, ints] at *
  (repeat first | refine uA ?_ | (refine uK ?_ ?_; focus first | omega | (intros; simp_all <;> omega)) | simp (disch := omega) only [go_sem, Nat.reduceBEq, Nat.reduceAdd, ww] | (refine uB h1 ?_ ?_; exact rfl) | (refine uB h2 ?_ ?_; exact rfl))
  exact S.done (d9.out rfl (Imp.refl rfl) rfl)
theorem c1m (a b : List Ast) (hn : a.length <= 1000000000000) (hb : b.length <= 1000000000000) (ha : ∀ x ∈ a, Asb 1073741824 x) (hb' : ∀ x ∈ b, Asb 1073741824 x) : l7 Tryz.prog 145 [I8 a, I8 b, .v (.func (.func 143) #[] #[])] (.v (.bool (decide (a = b)))) := by
  refine l7.of (eff := eff) Tryz.func145 (by conv => { lhs; cbv }) (by exact Nat.le_of_ble_eq_true rfl) fun w O => ?_
  have hcal : callable Tryz.prog 143 = true := by kernel_rfl
  simp only [l6, ints, I8]
  (repeat first | refine uA ?_ | (refine uK ?_ ?_; focus first | omega | (intros; simp_all <;> omega)) | simp (disch := omega) only [go_sem, Nat.reduceBEq, Nat.reduceAdd, ww, List.length_map])
  (refine uJ rfl (fun hc => ?_) fun hc => ?_)
  · have hne : ¬ a = b := fun e => hc (by rw [e])
    rw [decide_eq_false hne]
    (repeat first | refine uA ?_ | (refine uK ?_ ?_; focus first | omega | (intros; simp_all <;> omega)) | simp (disch := omega) only [go_sem, Nat.reduceBEq, Nat.reduceAdd, ww])
    exact S.done (d9.out rfl (Imp.refl rfl) rfl)
  have hlen : a.length = b.length := by omega
  (repeat first | refine uA ?_ | (refine uK ?_ ?_; focus first | omega | (intros; simp_all <;> omega)) | simp (disch := omega) only [go_sem, Nat.reduceBEq, Nat.reduceAdd, ww, List.length_map])
  refine S.loop (X := Nat) (fun i => ⟨[(0, I8 a), (1, I8 b), (2, .v (.func (.func 143) #[] #[])), (15, I8 a), (16, ints a.length), (17, ints i)], []⟩)
    (fun i => i <= a.length /\ a.take i = b.take i) (fun i => a.length - i) 0 ⟨Nat.zero_le _, by simp⟩ (by (repeat first | refine uA ?_ | (refine ⟨?_, ?_⟩; focus first | rfl | simp [slot]) | rfl | simp)) ?_
  rintro i ⟨hi, he⟩
  simp only [ints, I8] at hi ⊢
  (repeat first | refine uA ?_ | (refine uK ?_ ?_; focus first | omega | (intros; simp_all <;> omega)) | simp (disch := omega) only [go_sem, Nat.reduceBEq, Nat.reduceAdd, ww])
  (refine uJ rfl (fun hc => ?_) fun hc => ?_)
  · have hgi := List.getElem?_eq_getElem (show i < a.length by omega)
    have hgj := List.getElem?_eq_getElem (show i < b.length by omega)
    have hti := List.take_succ_eq_append_getElem (show i < a.length by omega)
    have htj := List.take_succ_eq_append_getElem (show i < b.length by omega)
    generalize a[i]'_ = z at hgi hti
    generalize b[i]'_ = y at hgj htj
    have hib : (i : Int) < b.length := by omega
    have h1 := c0Y z y (ha z (List.mem_of_getElem? hgi)) (hb' y (List.mem_of_getElem? hgj))
    generalize hq : decide (z = y) = q at *
    simp only [Ast.c, Ast.enc, rts, sb, ints] at h1
    (repeat first | refine uA ?_ | (refine uK ?_ ?_; focus first | omega | (intros; simp_all <;> omega)) | simp (disch := omega) only [go_sem, Nat.reduceBEq, Nat.reduceAdd, ww, hgi, hgj, Option.map_some, List.length_map, Ast.enc, rts, sb, ints, Int.toNat_natCast, hcal] | (refine uB h1 ?_ ?_; exact rfl))
    refine S.cond rfl (fun hc2 => ?_) (fun hc2 => ?_)
    · have hne : ¬ a = b := fun e => by
        subst e
        rw [hgi] at hgj
        injection hgj with hgj
        subst hgj
        rw [decide_eq_true rfl] at hq
        subst hq
        cases hc2
      rw [decide_eq_false hne]
      (repeat first | refine uA ?_ | (refine uK ?_ ?_; focus first | omega | (intros; simp_all <;> omega)) | simp (disch := omega) only [go_sem, Nat.reduceBEq, Nat.reduceAdd, ww])
      exact S.done (d9.out rfl (Imp.refl rfl) rfl)
    · have hzy : z = y := of_decide_eq_true (by rw [hq]; simpa using hc2)
      (repeat first | refine uA ?_ | (refine uK ?_ ?_; focus first | omega | (intros; simp_all <;> omega)) | simp (disch := omega) only [go_sem, Nat.reduceBEq, Nat.reduceAdd, ww])
      refine S.next (i + 1) ⟨by omega, by rw [hti, htj, he, hzy]⟩ (by omega) (by (repeat first | refine uA ?_ | (refine ⟨?_, ?_⟩; focus first | rfl | simp [slot]) | rfl | simp))
  have hi' : i = a.length := by omega
  subst hi'
  have hab : a = b := by
    rw [List.take_length] at he
    rw [hlen, List.take_length] at he
    exact he
  rw [decide_eq_true hab]
  (repeat first | refine uA ?_ | (refine uK ?_ ?_; focus first | omega | (intros; simp_all <;> omega)) | simp (disch := omega) only [go_sem, Nat.reduceBEq, Nat.reduceAdd, ww])
  exact S.done (d9.out rfl (Imp.refl rfl) rfl)
theorem a9h (s t : Stt) (hs : Stb 1073741824 s) (ht : Stb 1073741824 t) : l7 Tryz.prog 40 [s.c, t.c] (.v (.bool (decide (s = t)))) := by
  refine l7.of (eff := eff) Tryz.func40 (by conv => { lhs; cbv }) (by exact Nat.le_of_ble_eq_true rfl) fun w O => ?_
  have h1 := c1m s.arms t.arms (by have := hs.arms.1; omega) (by have := ht.arms.1; omega) hs.arms.2 ht.arms.2
  have h2 := c2A s.parts t.parts (by have := hs.parts.1; omega) (by have := ht.parts.1; omega)
  have h3 := c0J s.people t.people (by have := hs.people.1; omega) (by have := ht.people.1; omega)
  have h4 := b9G s.gates t.gates (by have := hs.gates; omega) (by have := ht.gates; omega)
  have e : decide (s = t) = ((((decide (s.tick = t.tick) && decide (s.arms = t.arms)) && decide (s.parts = t.parts)) && decide (s.people = t.people)) && decide (s.gates = t.gates)) := by
    rw [Bool.eq_iff_iff]
    simp only [decide_eq_true_eq, Bool.and_eq_true]
    exact ⟨fun h => by subst h; simp, fun h => by cases s; cases t; simp_all⟩
  rw [e]
  generalize decide (s.arms = t.arms) = q1 at *
  generalize decide (s.parts = t.parts) = q2 at *
  generalize decide (s.people = t.people) = q3 at *
  generalize decide (s.gates = t.gates) = q4 at *
  obtain ⟨s1, s2, s3, s4, s5⟩ := s
  obtain ⟨t1, t2, t3, t4, t5⟩ := t
  simp only [l6]
  simp only [Stt.c, Stt.enc, I8, frs, vts, bls, sb, ints] at *
  (repeat first | refine uA ?_ | (refine uK ?_ ?_; focus first | omega | (intros; simp_all <;> omega)) | simp (disch := omega) only [go_sem, Nat.reduceBEq, Nat.reduceAdd, ww] | (refine uB h1 ?_ ?_; exact rfl) | (refine uB h2 ?_ ?_; exact rfl) | (refine uB h3 ?_ ?_; exact rfl) | (refine uB h4 ?_ ?_; exact rfl))
  exact S.done (d9.out rfl (Imp.refl rfl) rfl)
def a9p (x : Ast) : Bool := x.v.any fun v => !decide (A8 (Nm.j3 v) = 0)
theorem b8C (a : Nm.Rt) (ha : Rb 17179869184 a) : FZ 151 [rc a] (.v (.bool (!decide (A8 (Nm.j3 a) = 0)))) := by
  refine q9.of a8c a7V (by exact Nat.le_of_ble_eq_true rfl) fun w O hw => ?_
  have h := O3 a ha
  generalize A8 (Nm.j3 a) = n at *
  simp only [a3A, l6, TT, II, OA, OB, OC, MM, LL, VV, FF, MG, LG, VG, FG]
  simp only [rc, sb, ints] at *
  (repeat first | refine uA ?_ | (refine uK ?_ ?_; focus first | omega | (intros; simp_all <;> omega)) | simp (disch := omega) only [go_sem, Nat.reduceBEq, Nat.reduceAdd, ww] | (refine uD h ?_ ?_ ?_; exact tz hw; exact rfl))
  exact S.done (d9.out rfl (Imp.refl rfl) rfl)
theorem b9H (x : Ast) (hx : Asb 1073741824 x) : FZ 43 [x.c] (.v (.bool (a9p x))) := by
  refine q9.of a9e a9n (by exact Nat.le_of_ble_eq_true rfl) fun w O hw => ?_
  have h := a8W 151 (by kernel_rfl) (fun v => !decide (A8 (Nm.j3 v) = 0)) x.v (by have := hx.2.1; omega) (fun v hv => b8C v ((hx.2.2 v hv).mono (by decide)))
  unfold a9p
  generalize (x.v.any fun v => !decide (A8 (Nm.j3 v) = 0)) = q at *
  obtain ⟨xq, xv, xp, xh⟩ := x
  simp only [a4F, l6, TT, II, OA, OB, OC, MM, LL, VV, FF, MG, LG, VG, FG]
  simp only [Ast.c, Ast.enc, rts, sb, ints] at *
  (repeat first | refine uA ?_ | (refine uK ?_ ?_; focus first | omega | (intros; simp_all <;> omega)) | simp (disch := omega) only [go_sem, Nat.reduceBEq, Nat.reduceAdd, ww] | (refine uD h ?_ ?_ ?_; exact tz hw; exact rfl))
  exact S.done (d9.out rfl (Imp.refl rfl) rfl)
end Go.Proofs.YtogfpjohjphngaaGreatDoor
namespace Go.Proofs.YtogfpjohjphngaaGreatDoor.Eng
open Go Go.RowKit
mutual
def C.sh (n : Nat) : C -> C
  | .rv k => .rv (n + k)
  | .agg cs => .agg (C.shL n cs)
  | .tup cs => .tup (C.shL n cs)
  | c => c
def C.shL (n : Nat) : List C -> List C
  | [] => []
  | c :: cs => C.sh n c :: C.shL n cs
end
mutual
def C.okS : C -> Bool
  | .rv _ => true
  | .agg cs => C.b2B cs
  | .tup cs => C.b2B cs
  | c => c.cl
def C.b2B : List C -> Bool
  | [] => true
  | c :: cs => C.okS c && C.b2B cs
end
section
variable {ν ν' : List Value} {w : World} {O O' : Nat -> Prop}
mutual
theorem b8q (hO : ∀ b, O' b -> O b) : ∀ {c : C} {y : Value}, c.okS = true -> Den ν' w O c y -> Den (ν ++ ν') w O' (C.sh ν.length c) y
  | .rv k, y, _, h => by
    simp only [C.sh, Den] at h ⊢
    exact ⟨by rw [List.getElem?_append_right (by omega), show ν.length + k - ν.length = k by omega]; exact h.1, h.2⟩
  | .agg cs, y, hc, h => by
    simp only [C.sh, Den, C.okS] at h hc ⊢
    obtain ⟨vs, h1, h2⟩ := h
    exact ⟨vs, b0F hO hc h1, h2⟩
  | .tup cs, y, hc, h => by
    simp only [C.sh, Den, C.okS] at h hc ⊢
    obtain ⟨vs, h1, h2⟩ := h
    exact ⟨vs, b0F hO hc h1, h2⟩
  | .v x, y, hc, h => by simpa only [C.sh, Den] using h
  | .sl sz es, y, hc, h => by simp only [C.sh]; exact (Fz.keep (Keeps.sub hO) (h.fz hc)).den _
  | .nl, y, hc, h => by simpa only [C.sh, Den] using h
  | .ep cs, y, hc, h => by simp only [C.sh]; exact (Fz.keep (Keeps.sub hO) (h.fz hc)).den _
  | .clo f cs, y, hc, h => by simp only [C.sh]; exact (Fz.keep (Keeps.sub hO) (h.fz hc)).den _
  | .bnd f x, y, hc, h => by simp only [C.sh]; exact (Fz.keep (Keeps.sub hO) (h.fz hc)).den _
  | .any S, y, hc, h => by simpa only [C.sh, Den] using h
  | .bp _ _, y, hc, h => by simp only [C.okS, C.cl] at hc; cases hc
  | .rp _ _ _ _, y, hc, h => by simp only [C.okS, C.cl] at hc; cases hc
  | .mp _, y, hc, h => by simp only [C.okS, C.cl] at hc; cases hc
  | .wv _ _ _ _, y, hc, h => by simp only [C.okS, C.cl] at hc; cases hc
  | .g _ _, y, hc, h => by simp only [C.okS, C.cl] at hc; cases hc
  | .junk, y, hc, h => by simp only [C.okS, C.cl] at hc; cases hc
theorem b0F (hO : ∀ b, O' b -> O b) : ∀ {cs : List C} {vs : List Value}, C.b2B cs = true -> j5 ν' w O cs vs -> j5 (ν ++ ν') w O' (C.shL ν.length cs) vs
  | [], vs, _, h => by simpa only [C.shL, j5] using h
  | c :: cs, vs, hc, h => by
    simp only [C.shL, j5, C.b2B, Bool.and_eq_true] at h hc ⊢
    obtain ⟨y, ys, e, h1, h2⟩ := h
    exact ⟨y, ys, e, b8q hO hc.1 h1, b0F hO hc.2 h2⟩
end
end
def Res.c0l : Res -> Bool
  | .gone => true
  | r => r.shut
theorem b8I {ν ν' : List Value} {w : World} {O O' : Nat -> Prop} {x : Value} {r : Res} (hs : r.c0l = true) (hO : ∀ b, O' b -> O b) (h : L8 ν w O x r) : L8 ν' w O' x r := by
  cases r with
  | gone => trivial
  | box t cs => exact a5N hs hO h
  | row e sz es => exact a5N rfl hO h
  | map s es => exact a5N rfl hO h
theorem j6.pre {E : Ctx} {rs rs' : List Res} {f : Nat} {args : List C} {s : C} (h : j6 E [] f args s rs' []) (hr : rs'.all Res.c0l = true) (hs : s.okS = true) (ha : C.clL args = true) : j6 E rs f args (C.sh rs.length s) (rs ++ rs') [] := by
  intro av ν w vs hR hav hF hD
  rw [List.all_eq_true] at hr
  let av' : Nat -> Prop := OO av rs ν
  have hlt : ∀ b, av' b -> b < w.heap.size := fun b hb => by
    rcases hb with hb | hb
    · exact hR.av b hb
    · exact (hR.low b hb).1
  have ho0 : ∀ b, ¬ owned [] [] b := fun b ⟨k, r, x, hk, _⟩ => by simp at hk
  have hRG : RG av' E.p9 E.w0.heap.size [] [] w := ⟨rfl, fun k r hk => by simp at hk, fun k l r r' x x' b _ hk => by simp at hk, fun b hb => (ho0 b hb).elim, hlt, hR.n0⟩
  have hOO : ∀ b, OO av' [] [] b -> OO av rs ν b := fun b hb => hb.elim id fun h => (ho0 b h).elim
  refine (h av' [] w vs hRG (fun b hb => .inl (hav b hb)) hF ((FzL.keep (Keeps.sub hOO) (hD.fz ha)).den _)).mono ?_
  rintro e w' ⟨y, ν', rfl, h1, h2, h3⟩
  have hlen : (ν ++ ν').length = (rs ++ rs').length := by rw [List.length_append, List.length_append, hR.len, h1.len]
  have htk : (ν ++ ν').take rs.length = ν := by rw [<- hR.len]; simp
  have hown := fun b => a3f hlen b
  rw [htk] at hown
  have hnew : ∀ b, (∃ k r x, rs'[k]? = some r /\ (ν ++ ν')[rs.length + k]? = some x /\ fp r x b) -> owned rs' ν' b := by
    rintro b ⟨k, r, x, g1, g2, g3⟩
    rw [<- hR.len, List.getElem?_append_right (by omega), show ν.length + k - ν.length = k by omega] at g2
    exact ⟨k, r, x, g1, g2, g3⟩
  have hge : ∀ b, owned rs' ν' b -> w.heap.size <= b := fun b hb => (h2.own b hb).elim (fun h => (ho0 b h).elim) id
  have hnu : U3 [] ν (ν ++ ν') := fun k x _ hx => by rw [List.getElem?_append_left (List.getElem?_eq_some_iff.1 hx).1]; exact hx
  have hM : Mv rs ν w [] (rs ++ rs') (ν ++ ν') w' := by
    refine ⟨h2.os, h2.tape, h2.output, h2.size, fun b hb _ => h2.block b hb (ho0 b), fun b hb => ?_, hnu⟩
    rcases (hown b).1 hb with hb | hb
    · exact .inl hb
    · exact .inr (hge b (hnew b hb))
  have hOO' : ∀ b, OO av (rs ++ rs') (ν ++ ν') b -> OO av' rs' ν' b := fun b hb => by
    rcases hb with hb | hb
    · exact .inl (.inl hb)
    · rcases (hown b).1 hb with hb | hb
      · exact .inl (.inr hb)
      · exact .inr (hnew b hb)
  refine ⟨y, ν ++ ν', rfl, ⟨hlen, fun k r hk => ?_, fun l m q q' z z' b hne g1 g2 g3 g4 g5 => ?_, fun b hb => ?_, fun b hb => Nat.lt_of_lt_of_le (hR.av b hb) h2.size, Nat.le_trans hR.n0 h2.size⟩, hM, by rw [<- hR.len]; exact b8q hOO' hs h3⟩
  · rcases Nat.lt_or_ge k rs.length with hlt' | hge'
    · rw [List.getElem?_append_left hlt'] at hk
      obtain ⟨x, hx, hok⟩ := hR.res k r hk
      have := hok.mv (hM.keeps (av := av)) hM.nu (fun b hf => h2.block b (hR.lt hk hx hf) (ho0 b))
      rw [a2u] at this
      exact ⟨x, hnu k x (fun h => by cases h) hx, this⟩
    · rw [List.getElem?_append_right hge'] at hk
      obtain ⟨x, hx, hok⟩ := h1.res _ r hk
      refine ⟨x, by rw [List.getElem?_append_right (by rw [hR.len]; exact hge'), hR.len]; exact hx, b8I (hr r (List.mem_of_getElem? hk)) hOO' hok⟩
  · have old : ∀ {l q z}, l < rs.length -> (rs ++ rs')[l]? = some q -> (ν ++ ν')[l]? = some z -> rs[l]? = some q /\ ν[l]? = some z := fun hl a1 a2 => by
      rw [List.getElem?_append_left hl] at a1
      rw [List.getElem?_append_left (by rw [hR.len]; exact hl)] at a2
      exact ⟨a1, a2⟩
    have new : ∀ {l q z}, rs.length <= l -> (rs ++ rs')[l]? = some q -> (ν ++ ν')[l]? = some z -> rs'[l - rs.length]? = some q /\ ν'[l - rs.length]? = some z := fun hl a1 a2 => by
      rw [List.getElem?_append_right hl] at a1
      rw [List.getElem?_append_right (by rw [hR.len]; exact hl), hR.len] at a2
      exact ⟨a1, a2⟩
    rcases Nat.lt_or_ge l rs.length with hl1 | hl1 <;> rcases Nat.lt_or_ge m rs.length with hm1 | hm1
    · obtain ⟨a1, a2⟩ := old hl1 g1 g3
      obtain ⟨a3, a4⟩ := old hm1 g2 g4
      exact hR.dis l m q q' z z' b hne a1 a3 a2 a4 g5
    · obtain ⟨a1, a2⟩ := old hl1 g1 g3
      obtain ⟨a3, a4⟩ := new hm1 g2 g4
      intro hf
      have := hR.lt a1 a2 g5
      have := hge b ⟨_, _, _, a3, a4, hf⟩
      omega
    · obtain ⟨a1, a2⟩ := new hl1 g1 g3
      obtain ⟨a3, a4⟩ := old hm1 g2 g4
      intro hf
      have := hR.lt a3 a4 hf
      have := hge b ⟨_, _, _, a1, a2, g5⟩
      omega
    · obtain ⟨a1, a2⟩ := new hl1 g1 g3
      obtain ⟨a3, a4⟩ := new hm1 g2 g4
      exact h1.dis _ _ q q' z z' b (by omega) a1 a3 a2 a4 g5
  · rcases (hown b).1 hb with hb | hb
    · obtain ⟨a1, a2, a3⟩ := hR.low b hb
      exact ⟨Nat.lt_of_lt_of_le a1 h2.size, a2, a3⟩
    · obtain ⟨a1, a2, a3⟩ := h1.low b (hnew b hb)
      exact ⟨a1, fun ha => a2 (.inl ha), a3⟩
end Go.Proofs.YtogfpjohjphngaaGreatDoor.Eng
namespace Go.Proofs.YtogfpjohjphngaaGreatDoor
open Go Go.RowKit Eng
set_option maxRecDepth 100000
set_option maxHeartbeats 8000000
theorem b8Y (es : List (List C)) (hn : es.length <= 1073741824) : FNew Tryz.prog 63 [.sl 6 es] 51 6 es := by
  refine FNew.of a2h a2g (by exact Nat.le_of_ble_eq_true rfl) fun w O => ?_
  simp only [Y4, l6, TT, II, OA, OB, OC, MM, LL, VV, FF, MG, LG, VG, FG]
  (repeat first | refine uA ?_ | (refine uK ?_ ?_; focus first | omega | (intros; simp_all <;> omega)) | simp (disch := omega) only [go_sem, Nat.reduceBEq, Nat.reduceAdd, ww])
  refine S.split 4 (Sx := fun y => ∃ b, y = .bool b /\ (es ≠ [] -> b = false)) rfl fun y hy => ?_
  obtain ⟨b, rfl, hb⟩ := hy
  refine S.cond rfl (fun hc => ?_) (fun hc => ?_)
  · have he : es = [] := Classical.byContradiction fun h => by rw [hb h] at hc; cases hc
    subst he
    (repeat first | refine uA ?_ | (refine uK ?_ ?_; focus first | omega | (intros; simp_all <;> omega)) | simp (disch := omega) only [go_sem, Nat.reduceBEq, Nat.reduceAdd, ww])
    refine S.weaken (Ent.pack 2 51 6 rfl) ?_
    exact S.done (d9.new rfl rfl rfl)
  · (repeat first | refine uA ?_ | (refine uK ?_ ?_; focus first | omega | (intros; simp_all <;> omega)) | simp (disch := omega) only [go_sem, Nat.reduceBEq, Nat.reduceAdd, ww])
    exact S.done (d9.new rfl rfl rfl)
theorem b7S (es : List (List C)) (hn : es.length <= 1073741824) : FNew Tryz.prog 60 [.sl 1 es] 4 1 es := by
  refine FNew.of a3L a3K (by exact Nat.le_of_ble_eq_true rfl) fun w O => ?_
  simp only [a0Y, l6, TT, II, OA, OB, OC, MM, LL, VV, FF, MG, LG, VG, FG]
  (repeat first | refine uA ?_ | (refine uK ?_ ?_; focus first | omega | (intros; simp_all <;> omega)) | simp (disch := omega) only [go_sem, Nat.reduceBEq, Nat.reduceAdd, ww])
  refine S.split 4 (Sx := fun y => ∃ b, y = .bool b /\ (es ≠ [] -> b = false)) rfl fun y hy => ?_
  obtain ⟨b, rfl, hb⟩ := hy
  refine S.cond rfl (fun hc => ?_) (fun hc => ?_)
  · have he : es = [] := Classical.byContradiction fun h => by rw [hb h] at hc; cases hc
    subst he
    (repeat first | refine uA ?_ | (refine uK ?_ ?_; focus first | omega | (intros; simp_all <;> omega)) | simp (disch := omega) only [go_sem, Nat.reduceBEq, Nat.reduceAdd, ww])
    refine S.weaken (Ent.pack 2 4 1 rfl) ?_
    exact S.done (d9.new rfl rfl rfl)
  · (repeat first | refine uA ?_ | (refine uK ?_ ?_; focus first | omega | (intros; simp_all <;> omega)) | simp (disch := omega) only [go_sem, Nat.reduceBEq, Nat.reduceAdd, ww])
    exact S.done (d9.new rfl rfl rfl)
theorem b3F (es : List (List C)) (hn : es.length <= 1073741824) : FNew Tryz.prog 150 [.sl 3 es] 29 3 es := by
  refine FNew.of a2j a2i (by exact Nat.le_of_ble_eq_true rfl) fun w O => ?_
  simp only [Y5, l6, TT, II, OA, OB, OC, MM, LL, VV, FF, MG, LG, VG, FG]
  (repeat first | refine uA ?_ | (refine uK ?_ ?_; focus first | omega | (intros; simp_all <;> omega)) | simp (disch := omega) only [go_sem, Nat.reduceBEq, Nat.reduceAdd, ww])
  refine S.split 4 (Sx := fun y => ∃ b, y = .bool b /\ (es ≠ [] -> b = false)) rfl fun y hy => ?_
  obtain ⟨b, rfl, hb⟩ := hy
  refine S.cond rfl (fun hc => ?_) (fun hc => ?_)
  · have he : es = [] := Classical.byContradiction fun h => by rw [hb h] at hc; cases hc
    subst he
    (repeat first | refine uA ?_ | (refine uK ?_ ?_; focus first | omega | (intros; simp_all <;> omega)) | simp (disch := omega) only [go_sem, Nat.reduceBEq, Nat.reduceAdd, ww])
    refine S.weaken (Ent.pack 2 29 3 rfl) ?_
    exact S.done (d9.new rfl rfl rfl)
  · (repeat first | refine uA ?_ | (refine uK ?_ ?_; focus first | omega | (intros; simp_all <;> omega)) | simp (disch := omega) only [go_sem, Nat.reduceBEq, Nat.reduceAdd, ww])
    exact S.done (d9.new rfl rfl rfl)
theorem b5G (es : List (List C)) (hn : es.length <= 1073741824) : FNew Tryz.prog 149 [.sl 10 es] 55 10 es := by
  refine FNew.of a1r a1k (by exact Nat.le_of_ble_eq_true rfl) fun w O => ?_
  simp only [U6, l6, TT, II, OA, OB, OC, MM, LL, VV, FF, MG, LG, VG, FG]
  (repeat first | refine uA ?_ | (refine uK ?_ ?_; focus first | omega | (intros; simp_all <;> omega)) | simp (disch := omega) only [go_sem, Nat.reduceBEq, Nat.reduceAdd, ww])
  refine S.split 4 (Sx := fun y => ∃ b, y = .bool b /\ (es ≠ [] -> b = false)) rfl fun y hy => ?_
  obtain ⟨b, rfl, hb⟩ := hy
  refine S.cond rfl (fun hc => ?_) (fun hc => ?_)
  · have he : es = [] := Classical.byContradiction fun h => by rw [hb h] at hc; cases hc
    subst he
    (repeat first | refine uA ?_ | (refine uK ?_ ?_; focus first | omega | (intros; simp_all <;> omega)) | simp (disch := omega) only [go_sem, Nat.reduceBEq, Nat.reduceAdd, ww])
    refine S.weaken (Ent.pack 2 55 10 rfl) ?_
    exact S.done (d9.new rfl rfl rfl)
  · (repeat first | refine uA ?_ | (refine uK ?_ ?_; focus first | omega | (intros; simp_all <;> omega)) | simp (disch := omega) only [go_sem, Nat.reduceBEq, Nat.reduceAdd, ww])
    exact S.done (d9.new rfl rfl rfl)
open Go Eng
set_option maxHeartbeats 16000000
def b1T : List C := [.v (.int .i64 0), .v (.slice none 0 0), .v (.slice none 0 0), .v (.slice none 0 0), .v (.slice none 0 0)]
def c1Z (v : Vt) (z : Gt) : Prop := Nm.E5 (Nm.j3 v.x) (Nm.j3 z.low.x) < 0 \/ 0 < Nm.E5 (Nm.j3 v.x) (Nm.j3 z.high.x) \/ Nm.E5 (Nm.j3 v.y) (Nm.j3 z.low.y) < 0 \/ 0 < Nm.E5 (Nm.j3 v.y) (Nm.j3 z.high.y)
instance (v : Vt) (z : Gt) : Decidable (c1Z v z) := by unfold c1Z; infer_instance
set_option maxRecDepth 10000
set_option maxHeartbeats 8000000
theorem b8u (x n : Int) (h : 1 <= n) : x % n = (if x.tmod n < 0 then x.tmod n + n else x.tmod n) /\ -n < x.tmod n /\ x.tmod n < n := by
  have hq : x = n * (x.tdiv n) + x.tmod n := (Int.mul_tdiv_add_tmod x n).symm
  have he : x % n = x.tmod n % n := by
    conv => lhs; rw [hq]
    exact Int.mul_add_emod_self_left ..
  have h2 := Int.tmod_lt_of_pos x (show 0 < n by omega)
  have h3 : -n < x.tmod n := by
    have := Int.tmod_lt_of_pos (-x) (show 0 < n by omega)
    rw [Int.neg_tmod] at this
    omega
  refine ⟨?_, h3, h2⟩
  rw [he]
  split
  · rename_i hc
    have : x.tmod n % n = (x.tmod n + n) % n := by simp
    rw [this]
    exact Int.emod_eq_of_lt (by omega) (by omega)
  · exact Int.emod_eq_of_lt (by omega) (by omega)
theorem b9B (x n : Int) (h : 1 <= n /\ n <= 4611686018427387904) : l7 Tryz.prog 12 [ints x, ints n] (ints (x % n)) := by
  refine l7.of a7S a8b (by exact Nat.le_of_ble_eq_true rfl) fun w O => ?_
  simp only [a3C, l6, TT, II, OA, OB, OC, MM, LL, VV, FF, MG, LG, VG, FG, ints]
  have hn : ¬ n = 0 := by omega
  obtain ⟨he, hlt⟩ := b8u x n (by omega)
  (repeat first | refine uA ?_ | (refine uK ?_ ?_; focus first | omega | (intros; simp_all <;> omega)) | simp (disch := omega) only [go_sem, Nat.reduceBEq, Nat.reduceAdd, ww, hn])
  (refine uJ rfl (fun hc => ?_) fun hc => ?_)
  · rw [he, if_pos hc]
    (repeat first | refine uA ?_ | (refine uK ?_ ?_; focus first | omega | (intros; simp_all <;> omega)) | simp (disch := omega) only [go_sem, Nat.reduceBEq, Nat.reduceAdd, ww])
    exact S.done (d9.out rfl (Imp.refl rfl) rfl)
  · rw [he, if_neg hc]
    (repeat first | refine uA ?_ | (refine uK ?_ ?_; focus first | omega | (intros; simp_all <;> omega)) | simp (disch := omega) only [go_sem, Nat.reduceBEq, Nat.reduceAdd, ww])
    exact S.done (d9.out rfl (Imp.refl rfl) rfl)
def J4 (l : List Int) : C := .sl 1 (l.map fun n => [.v (.int .i64 n)])
theorem H9 {E : Ctx} (hP : E.P = Tryz.prog) (l : List Int) (n : Int) (h : 1 <= n /\ n <= 4611686018427387904) :
    j6 E [.box 225 [J4 l]] 173 [.bp 0 0, ints n] (ints (nx l n)) [.box 225 [J4 (l.drop 1)]] [] := by
  obtain ⟨P, eff', N, w0, p9, av0, nu0, pk0⟩ := E
  simp only at hP
  subst hP
  refine j6.of (eff := eff) Tryz.func173 (by conv => { lhs; cbv }) (by exact Nat.le_of_ble_eq_true rfl) fun w own av ν hν => ?_
  have hν0 : ν.length <= 1 := by rw [hν]; exact Nat.le_refl _
  have hn1 : decide (n < 1) = false := decide_eq_false (by omega)
  cases l with
  | nil =>
    have e : nx [] n = 0 := by unfold nx; rw [List.headD_nil, Int.zero_emod]
    rw [e]
    simp only [l6, J4, ints, List.drop_nil, List.map_nil]
    (repeat first | refine uA ?_ | (refine uK ?_ ?_; focus first | omega | (intros; simp_all <;> omega)) | simp (disch := omega) only [go_sem, Nat.reduceBEq, Nat.reduceAdd, ww, hn1, List.length_nil])
    refine S.cond rfl (fun hc => ?_) (fun hc => by simp at hc)
    (repeat first | refine uA ?_ | (refine uK ?_ ?_; focus first | omega | (intros; simp_all <;> omega)) | simp (disch := omega) only [go_sem, Nat.reduceBEq, Nat.reduceAdd, ww])
    (refine S.done ?_; simp only [D8, x9, go_sem, Nat.reduceBEq, Nat.reduceAdd, Nat.reduceLeDiff, Int.reduceToNat, Int.reducePow]; (repeat (refine ⟨?_, ?_⟩; focus first | trivial | omega | simp)); exact d9.M9 (Imp.refl rfl) (by (repeat first | refine uA ?_ | (refine ⟨?_, ?_⟩; focus first | rfl | simp [slot]) | rfl | simp)) (Nat.le_trans hν0 (by simp)))
  | cons x r =>
    have e : nx (x :: r) n = x % n := by unfold nx; rw [List.headD_cons]
    rw [e]
    have hb := b9B x n h
    have h0 : decide (((r.length : Int) + 1) = 0) = false := decide_eq_false (by omega)
    simp only [l6, J4, ints, List.map_cons, List.drop_succ_cons, List.drop_zero] at *
    (repeat first | refine uA ?_ | (refine uK ?_ ?_; focus first | omega | (intros; simp_all <;> omega)) | simp (disch := omega) only [go_sem, Nat.reduceBEq, Nat.reduceAdd, ww, hn1, h0, List.length_cons, List.length_map] | (refine uB hb ?_ ?_; exact rfl))
    refine S.cond rfl (fun hc => by simp at hc; omega) (fun hc => ?_)
    (repeat first | refine uA ?_ | (refine uK ?_ ?_; focus first | omega | (intros; simp_all <;> omega)) | simp (disch := omega) only [go_sem, Nat.reduceBEq, Nat.reduceAdd, ww, hn1, List.length_cons, List.length_map, List.getElem?_cons_zero, a6u, List.take_succ_cons, List.drop_succ_cons, Nat.add_sub_cancel, List.take_length] | (refine uB hb ?_ ?_; exact rfl))
    (refine S.done ?_; simp only [D8, x9, go_sem, Nat.reduceBEq, Nat.reduceAdd, Nat.reduceLeDiff, Int.reduceToNat, Int.reducePow]; (repeat (refine ⟨?_, ?_⟩; focus first | trivial | omega | simp)); exact d9.M9 (Imp.refl rfl) (by (repeat first | refine uA ?_ | (refine ⟨?_, ?_⟩; focus first | rfl | simp [slot]) | rfl | simp)) (Nat.le_trans hν0 (by simp)))
def a6U (l : List UInt8) (i : Nat) (out : List UInt8) : Prop :=
  out.length = l.length /\ ∀ k, k < l.length -> out[k]? = if k < i \/ l.length - i <= k then l[l.length - 1 - k]? else l[k]?
theorem b3Z (l : List UInt8) : a6U l 0 l := ⟨rfl, fun k hk => by rw [if_neg (by omega)]⟩
theorem b4t {l out : List UInt8} {i : Nat} {x y : UInt8} (h : a6U l i out) (hi : i + 1 < l.length - i) (hx : out[i]? = some x) (hy : out[l.length - 1 - i]? = some y) : a6U l (i + 1) ((out.set i y).set (l.length - 1 - i) x) := by
  obtain ⟨h1, h2⟩ := h
  have e1 := h2 i (by omega)
  have e2 := h2 (l.length - 1 - i) (by omega)
  rw [if_neg (by omega), hx] at e1
  rw [if_neg (by omega), hy] at e2
  refine ⟨by simp [h1], fun k hk => ?_⟩
  by_cases k1 : k = l.length - 1 - i
  · subst k1
    rw [List.getElem?_set_self (by simp; omega), if_pos (by omega), e1]
    congr 1
    omega
  · rw [List.getElem?_set_ne (fun e => k1 e.symm)]
    by_cases k2 : k = i
    · subst k2
      rw [List.getElem?_set_self (by omega), if_pos (by omega), e2]
    · rw [List.getElem?_set_ne (fun e => k2 e.symm), h2 k hk]
      by_cases k3 : k < i \/ l.length - i <= k
      · rw [if_pos k3, if_pos (by omega)]
      · rw [if_neg k3, if_neg (by omega)]
theorem b6M {l out : List UInt8} {i : Nat} (h : a6U l i out) (hi : l.length - i <= i + 1) : out = l.reverse := by
  obtain ⟨h1, h2⟩ := h
  apply List.ext_getElem?
  intro k
  rcases Nat.lt_or_ge k l.length with hk | hk
  · rw [h2 k hk, List.getElem?_reverse hk]
    by_cases k3 : k < i \/ l.length - i <= k
    · rw [if_pos k3]
    · rw [if_neg k3, show l.length - 1 - k = k by omega]
  · rw [List.getElem?_eq_none (by omega), List.getElem?_eq_none (by simp; omega)]
theorem c2S {E : Ctx} (hP : E.P = Tryz.prog) (l : List UInt8) (hl : l.length <= 1099511627776) : j6 E [.row 5 1 (l.map G8)] 189 [.rv 0] (.tup []) [.row 5 1 (l.reverse.map G8)] [] := by
  obtain ⟨P, eff', N, w0, p9, av0, nu0, pk0⟩ := E
  simp only at hP
  subst hP
  refine j6.of (eff := eff) Tryz.func189 (by conv => { lhs; cbv }) (by exact Nat.le_of_ble_eq_true rfl) fun w own av ν hν => ?_
  have hν0 : ν.length <= 1 := by rw [hν]; exact Nat.le_refl _
  simp only [l6]
  (repeat first | refine uA ?_ | (refine uK ?_ ?_; focus first | omega | (intros; simp_all <;> omega)) | simp (disch := omega) only [go_sem, Nat.reduceBEq, Nat.reduceAdd, ww, List.length_map])
  refine S.loop (X := Nat × List UInt8) (fun x => ⟨[(0, .rv 0), (2, ints x.1), (3, ints ((l.length : Int) - 1 - (x.1 : Int)))], [.row 5 1 (x.2.map G8)]⟩) (fun x => x.1 <= l.length /\ a6U l x.1 x.2) (fun x => l.length - x.1) (0, l) ⟨Nat.zero_le _, b3Z l⟩ (by simp only [Int.natCast_zero, Int.sub_zero]; exact (by (repeat first | refine uA ?_ | (refine ⟨?_, ?_⟩; focus first | rfl | simp [slot]) | rfl | simp | exact Nat.le_trans hν0 (by simp)))) ?_
  rintro ⟨i, out⟩ ⟨hi, hinv⟩
  simp only [ints] at hi hinv ⊢
  have hol := hinv.1
  (repeat first | refine uA ?_ | (refine uK ?_ ?_; focus first | omega | (intros; simp_all <;> omega)) | simp (disch := omega) only [go_sem, Nat.reduceBEq, Nat.reduceAdd, ww])
  (refine uJ rfl (fun hc => ?_) fun hc => ?_)
  · have gi : out[i]? = some (out[i]'(by omega)) := List.getElem?_eq_getElem (by omega)
    have gj : out[l.length - 1 - i]? = some (out[l.length - 1 - i]'(by omega)) := List.getElem?_eq_getElem (by omega)
    have hst := b4t hinv (by omega) gi gj
    have hsk : l.length - 1 - i ≠ i := by omega
    generalize out[i]'_ = xi at *
    generalize out[l.length - 1 - i]'_ = xj at *
    have gj2 : (out.set i xj)[l.length - 1 - i]? = some xj := by rw [List.getElem?_set_ne (Ne.symm hsk)]; exact gj
    have n0 : ((l.length : Int) - 1 - (i : Int)).toNat = l.length - 1 - i := by omega
    have e1 : (out.map G8).set i [.v (.int .u8 ((xj.toNat : Nat) : Int))] = (out.set i xj).map G8 := a3g out i xj
    have e2 : ((out.set i xj).map G8).set (l.length - 1 - i) [.v (.int .u8 ((xi.toNat : Nat) : Int))] = ((out.set i xj).set (l.length - 1 - i) xi).map G8 := a3g _ _ _
    have hr : (l.length : Int) - 1 - ((i + 1 : Nat) : Int) = (l.length : Int) - 1 - (i : Int) - 1 := by omega
    (repeat first | refine uA ?_ | (refine uK ?_ ?_; focus first | omega | (intros; simp_all <;> omega)) | simp (disch := omega) only [go_sem, Nat.reduceBEq, Nat.reduceAdd, ww, List.length_map, gi, gj, gj2, n0, e1, e2, G8, Option.map_some, Int.toNat_natCast, List.length_set])
    refine S.next (x := (i, out)) (i + 1, _) ⟨by simp only; omega, hst⟩ (by simp only; omega) (by simp only [hr]; exact (by (repeat first | refine uA ?_ | (refine ⟨?_, ?_⟩; focus first | rfl | simp [slot]) | rfl | simp | exact Nat.le_trans hν0 (by simp))))
  · have := b6M hinv (by omega)
    subst this
    (repeat first | refine uA ?_ | (refine uK ?_ ?_; focus first | omega | (intros; simp_all <;> omega)) | simp (disch := omega) only [go_sem, Nat.reduceBEq, Nat.reduceAdd, ww])
    exact S.end_ (d9.own rfl)
theorem b3p (n : Nat) (hn : n < 4611686018427387904) : l7 Tryz.prog 80 [.v (.int .i64 (n : Int))] (sb (Nm.enc n)) := by
  refine l7.of (eff := eff) Tryz.func80 (by conv => { lhs; cbv }) (by exact Nat.le_of_ble_eq_true rfl) fun w O => ?_
  have h8 : (Nm.enc n).length <= 8 := Nm.L6 (by omega)
  simp only [l6, sb]
  (repeat first | refine uA ?_ | (refine uK ?_ ?_; focus first | omega | (intros; simp_all <;> omega)) | simp (disch := omega) only [go_sem, Nat.reduceBEq, Nat.reduceAdd, ww])
  refine S.loop (X := Nat × List UInt8) (fun x => ⟨[(0, ints x.1), (3, .rv 0)], [.row 5 1 (x.2.map G8)]⟩) (fun x => x.1 <= n /\ Nm.enc x.1 ++ x.2.reverse = Nm.enc n) (fun x => x.1) (n, []) ⟨Nat.le_refl _, by simp⟩ (Ent.trans (Ent.pack 3 5 1 rfl) (by (repeat first | refine uA ?_ | (refine ⟨?_, ?_⟩; focus first | rfl | simp [slot]) | rfl | simp))) ?_
  rintro ⟨m, out⟩ ⟨hm, hinv⟩
  simp only [ints] at hm hinv ⊢
  have hol : out.length <= 8 := by
    have := congrArg List.length hinv
    simp only [List.length_append, List.length_reverse] at this
    omega
  (repeat first | refine uA ?_ | (refine uK ?_ ?_; focus first | omega | (intros; simp_all <;> omega)) | simp (disch := omega) only [go_sem, Nat.reduceBEq, Nat.reduceAdd, ww])
  (refine uJ rfl (fun hc => ?_) fun hc => ?_)
  · have he : Nm.enc m = Nm.enc (m / 256) ++ [UInt8.ofNat (m % 256)] := by
      conv => lhs; unfold Nm.enc
      rw [if_neg (by omega)]
    have hb : (UInt8.ofNat (m % 256)).toNat = m % 256 := by simp
    have h1 : IntKind.u8.wrap (Int.tmod (m : Int) 256) = (((UInt8.ofNat (m % 256)).toNat : Nat) : Int) := by
      rw [hb, show Int.tmod (m : Int) 256 = ((m % 256 : Nat) : Int) from rfl, a1w]
      omega
    have h2 : Int.tdiv (m : Int) 256 = ((m / 256 : Nat) : Int) := rfl
    have hap : Nm.enc (m / 256) ++ (out ++ [UInt8.ofNat (m % 256)]).reverse = Nm.enc n := by
      rw [List.reverse_append, <- hinv, he]
      simp
    generalize UInt8.ofNat (m % 256) = b at *
    (repeat first | refine uA ?_ | (refine uK ?_ ?_; focus first | omega | (intros; simp_all <;> omega)) | simp (disch := omega) only [go_sem, Nat.reduceBEq, Nat.reduceAdd, ww, List.length_map, h1, h2])
    refine S.next (x := (m, out)) (m / 256, out ++ [b]) ⟨by simp only; omega, hap⟩ (by simp only; omega) (by simp only [List.map_append, List.map_cons, List.map_nil, G8]; exact (by (repeat first | refine uA ?_ | (refine ⟨?_, ?_⟩; focus first | rfl | simp [slot]) | rfl | simp)))
  · have h0 : m = 0 := by omega
    subst h0
    rw [Nm.a0Z, List.nil_append] at hinv
    have hr := fun (E : Ctx) (hP : E.P = Tryz.prog) => c2S hP out (by omega)
    rw [hinv] at hr
    (repeat first | refine uA ?_ | (refine uK ?_ ?_; focus first | omega | (intros; simp_all <;> omega)) | simp (disch := omega) only [go_sem, Nat.reduceBEq, Nat.reduceAdd, ww, Q0, a2t] | refine l9.t (j6.lift (k := 0) rfl (hr _ rfl) rfl rfl rfl) ?_)
    exact S.done (d9.out rfl (Imp.refl rfl) rfl)
theorem b9J (a b : Nat) (h : 0 < b) : Nat.gcd b (a % b) = Nat.gcd a b := by
  rw [Nat.gcd_comm b, <- Nat.gcd_rec, Nat.gcd_comm]
theorem a1G (n d : Int) (hn : -1099511627776 <= n /\ n <= 1099511627776) (hd : 1 <= d /\ d <= 1099511627776) : l7 Tryz.prog 17 [ints n, ints d] (rc (Q n d)) := by
  refine l7.of (eff := eff) Tryz.func17 (by conv => { lhs; cbv }) (by exact Nat.le_of_ble_eq_true rfl) fun w O => ?_
  obtain ⟨m, rfl⟩ : ∃ m : Nat, d = m := ⟨d.toNat, by omega⟩
  have hq : Q n m = Nm.ofQ (mkRat (Nm.sgn (decide (n < 0)) n.natAbs) m) := by
    unfold Q
    have : Nm.sgn (decide (n < 0)) n.natAbs = n := by unfold Nm.sgn; by_cases h : n < 0 <;> simp [h] <;> omega
    rw [this, Int.toNat_natCast]
  rw [hq, <- Nm.b0d _ (by omega)]
  have hmx : (if n < -n then -n else n) = ((n.natAbs : Nat) : Int) := by split <;> omega
  have hwn : IntKind.i64.wrap (0 - n) = -n := by rw [Eng.wrap_i64 (by omega)]; omega
  have hgp : 0 < Nat.gcd n.natAbs m := Nat.gcd_pos_of_pos_right _ (by omega)
  simp only [l6, ints]
  (repeat first | refine uA ?_ | (refine uK ?_ ?_; focus first | omega | (intros; simp_all <;> omega)) | simp (disch := omega) only [go_sem, Nat.reduceBEq, Nat.reduceAdd, ww, hwn, hmx])
  refine S.loop (X := Nat × Nat) (fun x => ⟨[(0, ints n), (1, ints m), (4, .bp 0 0), (5, ints x.1), (6, ints x.2)], [.box 29 [.v (.bool false), .v (.string ⟨#[]⟩), .v (.string ⟨#[]⟩)]]⟩) (fun x => Nat.gcd x.1 x.2 = Nat.gcd n.natAbs m /\ x.1 <= 1099511627776 /\ x.2 <= 1099511627776) (fun x => x.2) (n.natAbs, m) ⟨rfl, by omega, by omega⟩ (by (repeat first | refine uA ?_ | (refine ⟨?_, ?_⟩; focus first | rfl | simp [slot]) | rfl | simp)) ?_
  rintro ⟨a, b⟩ ⟨hg, ha, hb⟩
  simp only [ints] at hg ha hb ⊢
  (repeat first | refine uA ?_ | (refine uK ?_ ?_; focus first | omega | (intros; simp_all <;> omega)) | simp (disch := omega) only [go_sem, Nat.reduceBEq, Nat.reduceAdd, ww])
  (refine uJ rfl (fun hc => ?_) fun hc => ?_)
  · have h1 : Int.tmod (a : Int) (b : Int) = ((a % b : Nat) : Int) := rfl
    have hlt : a % b < b := Nat.mod_lt _ (by omega)
    have hb0 : ¬ ((b : Int) = 0) := by omega
    (repeat first | refine uA ?_ | (refine uK ?_ ?_; focus first | omega | (intros; simp_all <;> omega)) | simp (disch := omega) only [go_sem, Nat.reduceBEq, Nat.reduceAdd, ww, h1, hb0])
    refine S.next (x := (a, b)) (b, a % b) ⟨by simp only; rw [b9J a b (by omega)]; exact hg, by simp only; omega, by simp only; omega⟩ (by simp only; omega) (by (repeat first | refine uA ?_ | (refine ⟨?_, ?_⟩; focus first | rfl | simp [slot]) | rfl | simp))
  · have hb0 : b = 0 := by omega
    subst hb0
    rw [Nat.gcd_zero_right] at hg
    subst hg
    have ha0 : ¬ (((Nat.gcd n.natAbs m : Nat) : Int) = 0) := by omega
    generalize hgg : Nat.gcd n.natAbs m = g at *
    have hdvn : g ∣ n.natAbs := by rw [<- hgg]; exact Nat.gcd_dvd_left ..
    have e2 : Int.tdiv (m : Int) (g : Int) = ((m / g : Nat) : Int) := rfl
    obtain ⟨k, hk⟩ := hdvn
    have hkq : n.natAbs / g = k := by rw [hk]; exact Nat.mul_div_cancel_left _ hgp
    have e1 : Int.tdiv n (g : Int) = Nm.sgn (decide (n < 0)) k := by
      have h3 : (n : Int) = (g : Int) * Nm.sgn (decide (n < 0)) k := by
        have h4 : ((n.natAbs : Nat) : Int) = (g : Int) * (k : Int) := by rw [hk]; simp
        unfold Nm.sgn
        by_cases h : n < 0
        · simp only [h, decide_true, if_true, Int.mul_neg]; omega
        · simp only [h, decide_false, Bool.false_eq_true, if_false]; omega
      rw [show Int.tdiv n (g : Int) = Int.tdiv ((g : Int) * Nm.sgn (decide (n < 0)) k) (g : Int) from congrArg (fun z => Int.tdiv z (g : Int)) h3]
      exact Int.mul_tdiv_cancel_left _ (by omega)
    have hkb : k <= 1099511627776 := by
      have : k <= g * k := Nat.le_mul_of_pos_left k hgp
      omega
    have hmb : m / g <= m := Nat.div_le_self _ _
    have hs : -1099511627776 <= Nm.sgn (decide (n < 0)) k /\ Nm.sgn (decide (n < 0)) k <= 1099511627776 := by unfold Nm.sgn; split <;> omega
    have hneg : decide (Nm.sgn (decide (n < 0)) k < 0) = (decide (n < 0) && !decide (k = 0)) := by
      unfold Nm.sgn
      by_cases h : n < 0
      · by_cases h0 : k = 0
        · subst h0; simp [h]
        · simp [h, h0]; try omega
      · simp [h]; try omega
    have hab : (if Nm.sgn (decide (n < 0)) k < -(Nm.sgn (decide (n < 0)) k) then -(Nm.sgn (decide (n < 0)) k) else Nm.sgn (decide (n < 0)) k) = ((k : Nat) : Int) := by unfold Nm.sgn; split <;> split <;> omega
    have hws : IntKind.i64.wrap (0 - Nm.sgn (decide (n < 0)) k) = -(Nm.sgn (decide (n < 0)) k) := by rw [Eng.wrap_i64 (by omega)]; omega
    have hwm : IntKind.i64.wrap ((m / g : Nat) : Int) = ((m / g : Nat) : Int) := by
      generalize m / g = z at *
      exact Eng.wrap_i64 (by omega)
    have d1 := b3p k (by omega)
    have d2 := b3p (m / g) (by omega)
    have hres : (if n.natAbs = 0 then Nm.a2W else ⟨decide (n < 0), Nm.enc (n.natAbs / g), Nm.enc (m / g)⟩ : Nm.Rt) = ⟨decide (n < 0) && !decide (k = 0), Nm.enc k, Nm.enc (m / g)⟩ := by
      rw [hkq]
      by_cases h0 : n.natAbs = 0
      · have hn0 : n = 0 := by omega
        subst hn0
        have hk0 : k = 0 := by
          rcases Nat.eq_zero_or_pos k with h | h
          · exact h
          · have := Nat.mul_pos hgp h; omega
        have hgm : g = m := by rw [<- hgg]; simp
        subst hk0
        have h1 : m / g = 1 := by rw [hgm]; exact Nat.div_self (by omega)
        rw [h1, Nm.a2c, Nm.a0Z]
        rfl
      · have hk0 : k ≠ 0 := by intro h; subst h; omega
        rw [if_neg h0]
        simp [hk0]
    rw [hres]
    rw [<- hneg]
    simp only [rc, sb] at d1 d2 ⊢
    generalize Nm.sgn (decide (n < 0)) k = s at *
    (repeat first | refine uA ?_ | (refine uK ?_ ?_; focus first | omega | (intros; simp_all <;> omega)) | simp (disch := omega) only [go_sem, Nat.reduceBEq, Nat.reduceAdd, ww, ha0, e1, e2, hws, hab, hwm] | (refine uB d1 ?_ ?_; exact rfl) | (refine uB d2 ?_ ?_; exact rfl))
    (refine S.done ?_; simp only [D8, x9, go_sem, Nat.reduceBEq, Nat.reduceAdd, Nat.reduceLeDiff, Int.reduceToNat, Int.reducePow]; (repeat (refine ⟨?_, ?_⟩; focus first | trivial | omega | simp)); exact d9.out rfl (Imp.refl rfl) rfl)
theorem R4 (x y : Int) (hx : -1000000 <= x /\ x <= 1000000) (hy : -1000000 <= y /\ y <= 1000000) : l7 Tryz.prog 177 [ints x, ints y] (atV x y).c := by
  refine l7.of b0x b0h (by exact Nat.le_of_ble_eq_true rfl) fun w O => ?_
  have h1 := a1G x 4 (by omega) (by omega)
  have h2 := a1G y 4 (by omega) (by omega)
  unfold atV
  generalize Q x 4 = qx at *
  generalize Q y 4 = qy at *
  simp only [a5F, l6, TT, II, OA, OB, OC, MM, LL, VV, FF, MG, LG, VG, FG]
  simp only [rc, sb, ints, Vt.c, Vt.enc] at *
  (repeat first | refine uA ?_ | (refine uK ?_ ?_; focus first | omega | (intros; simp_all <;> omega)) | simp (disch := omega) only [go_sem, Nat.reduceBEq, Nat.reduceAdd, ww] | (refine uB h1 ?_ ?_; exact rfl) | (refine uB h2 ?_ ?_; exact rfl))
  (refine S.done ?_; simp only [D8, x9, go_sem, Nat.reduceBEq, Nat.reduceAdd, Nat.reduceLeDiff, Int.reduceToNat, Int.reducePow]; (repeat (refine ⟨?_, ?_⟩; focus first | trivial | omega | simp)); exact d9.out rfl (Imp.refl rfl) rfl)
theorem b8p (x y u v : Int) (hx : -100000 <= x /\ x <= 100000) (hy : -100000 <= y /\ y <= 100000) (hu : -100000 <= u /\ u <= 100000) (hv : -100000 <= v /\ v <= 100000) : l7 Tryz.prog 175 [ints x, ints y, ints u, ints v] (vts (a4N x y u v)) := by
  refine l7.of a5D a5o (by exact Nat.le_of_ble_eq_true rfl) fun w O => ?_
  have h1 := R4 x y (by omega) (by omega)
  have h2 := R4 u y (by omega) (by omega)
  have h3 := R4 u v (by omega) (by omega)
  have h4 := R4 x v (by omega) (by omega)
  unfold a4N
  generalize atV x y = p1 at *
  generalize atV u y = p2 at *
  generalize atV u v = p3 at *
  generalize atV x v = p4 at *
  simp only [a1Z, l6, TT, II, OA, OB, OC, MM, LL, VV, FF, MG, LG, VG, FG]
  simp only [vts, Vt.c, Vt.enc, sb, ints] at *
  (repeat first | refine uA ?_ | (refine uK ?_ ?_; focus first | omega | (intros; simp_all <;> omega)) | simp (disch := omega) only [go_sem, Nat.reduceBEq, Nat.reduceAdd, ww] | (refine uB h1 ?_ ?_; exact rfl) | (refine uB h2 ?_ ?_; exact rfl) | (refine uB h3 ?_ ?_; exact rfl) | (refine uB h4 ?_ ?_; exact rfl))
  exact S.done (d9.out rfl (Imp.frz rfl rfl rfl) rfl)
theorem b9h (l : List Int) : a1j l = if nx (l.drop 2) 4 = 1 then (a1t (1 + nx l 6) (1 + nx (l.drop 1) 6) 1 (nx (l.drop 3) (2 * (1 + nx l 6) + 1)), l.drop 4) else (a1t (1 + nx l 6) (1 + nx (l.drop 1) 6) (nx (l.drop 2) 4) 0, l.drop 3) := by
  unfold a1j
  by_cases h : nx (l.drop 2) 4 = 1
  · simp only [h, if_true]
  · simp only [if_neg h]
theorem c1J {E : Ctx} (hP : E.P = Tryz.prog) (l : List Int) :
    j6 E [.box 225 [J4 l]] 176 [.bp 0 0] (vts (a1j l).1) [.box 225 [J4 (a1j l).2]] [] := by
  obtain ⟨P, eff', N, w0, p9, av0, nu0, pk0⟩ := E
  simp only at hP
  subst hP
  refine j6.of (eff := eff) Tryz.func176 (by conv => { lhs; cbv }) (by exact Nat.le_of_ble_eq_true rfl) fun w own av ν hν => ?_
  have hν0 : ν.length <= 1 := by rw [hν]; exact Nat.le_refl _
  have n1 := fun (E : Ctx) (hP : E.P = Tryz.prog) => H9 hP l 6 (by decide)
  have n2 := fun (E : Ctx) (hP : E.P = Tryz.prog) => H9 hP (l.drop 1) 6 (by decide)
  have n3 := fun (E : Ctx) (hP : E.P = Tryz.prog) => H9 hP (l.drop 2) 4 (by decide)
  have b1 := l8 l (n := 6) (by decide)
  have b2 := D9 l (n := 6) (by decide)
  have b3 := l8 (l.drop 1) (n := 6) (by decide)
  have b4 := D9 (l.drop 1) (n := 6) (by decide)
  have b5 := l8 (l.drop 2) (n := 4) (by decide)
  have b6 := D9 (l.drop 2) (n := 4) (by decide)
  rw [b9h]
  generalize hw : nx l 6 = w' at *
  generalize hh : nx (l.drop 1) 6 = h' at *
  have n4 := fun (E : Ctx) (hP : E.P = Tryz.prog) => H9 hP (l.drop 3) (2 * (1 + w') + 1) (by omega)
  have b7 := l8 (l.drop 3) (n := 2 * (1 + w') + 1) (by omega)
  have b8 := D9 (l.drop 3) (n := 2 * (1 + w') + 1) (by omega)
  generalize hk : nx (l.drop 2) 4 = k at *
  generalize hs : nx (l.drop 3) (2 * (1 + w') + 1) = s at *
  rw [List.drop_drop] at n2 n3 n4
  generalize hu1 : 1 + w' = u at *
  generalize hv1 : 1 + h' = v at *
  have ru : IntKind.i64.wrap (0 - u) = -u := by rw [Eng.wrap_i64 (by omega)]; omega
  have rv : IntKind.i64.wrap (0 - v) = -v := by rw [Eng.wrap_i64 (by omega)]; omega
  simp only [l6]
  simp only [J4, ints] at n1 n2 n3 n4 ⊢
  (repeat first | refine uA ?_ | (refine uK ?_ ?_; focus first | omega | (intros; simp_all <;> omega)) | simp (disch := omega) only [go_sem, Nat.reduceBEq, Nat.reduceAdd, ww, hu1, hv1] | refine l9.t (j6.lift (k := 0) rfl (n1 _ rfl) rfl rfl rfl) ?_ | refine l9.t (j6.lift (k := 0) rfl (n2 _ rfl) rfl rfl rfl) ?_)
  (repeat first | refine uA ?_ | (refine uK ?_ ?_; focus first | omega | (intros; simp_all <;> omega)) | simp (disch := omega) only [go_sem, Nat.reduceBEq, Nat.reduceAdd, ww] | refine l9.t (j6.lift (k := 0) rfl (n3 _ rfl) rfl rfl rfl) ?_)
  by_cases k0 : k = 0
  · subst k0
    rw [if_neg (by decide), show a1t u v 0 0 = [atV (-u) (-v), atV u (-v), atV u v, atV (-u) v] from rfl]
    have h1 := R4 (-u) (-v) (by omega) (by omega)
    have h2 := R4 (u) (-v) (by omega) (by omega)
    have h3 := R4 (u) (v) (by omega) (by omega)
    have h4 := R4 (-u) (v) (by omega) (by omega)
    generalize hq1 : atV (-u) (-v) = p1 at *
    generalize hq2 : atV (u) (-v) = p2 at *
    generalize hq3 : atV (u) (v) = p3 at *
    generalize hq4 : atV (-u) (v) = p4 at *
    simp only [vts, Vt.c, Vt.enc, sb, ints] at h1 h2 h3 h4 ⊢
    refine S.cond rfl (fun hc => ?_) (fun hc => by simp at hc)
    (repeat first | refine uA ?_ | (refine uK ?_ ?_; focus first | omega | (intros; simp_all <;> omega)) | simp (disch := omega) only [go_sem, Nat.reduceBEq, Nat.reduceAdd, ww, ru, rv] | (refine uB h1 ?_ ?_; exact rfl) | (refine uB h2 ?_ ?_; exact rfl) | (refine uB h3 ?_ ?_; exact rfl) | (refine uB h4 ?_ ?_; exact rfl))
    (refine S.done ?_; simp only [D8, x9, go_sem, Nat.reduceBEq, Nat.reduceAdd, Nat.reduceLeDiff, Int.reduceToNat, Int.reducePow]; (repeat (refine ⟨?_, ?_⟩; focus first | trivial | omega | simp)); exact d9.M9 (Imp.frz rfl rfl rfl) (by (repeat first | refine uA ?_ | (refine ⟨?_, ?_⟩; focus first | rfl | simp [slot]) | rfl | simp)) (Nat.le_trans hν0 (by simp)))
  refine S.cond rfl (fun hc => by simp at hc; exact absurd hc k0) (fun hc => ?_)
  (repeat first | refine uA ?_ | (refine uK ?_ ?_; focus first | omega | (intros; simp_all <;> omega)) | simp (disch := omega) only [go_sem, Nat.reduceBEq, Nat.reduceAdd, ww])
  by_cases k1 : k = 1
  · subst k1
    rw [if_pos rfl, show a1t u v 1 s = [atV (-u) (-v), atV u (-v), atV (s - u) v] from rfl]
    have h1 := R4 (-u) (-v) (by omega) (by omega)
    have h2 := R4 (u) (-v) (by omega) (by omega)
    have h3 := R4 (s - u) (v) (by omega) (by omega)
    generalize hq1 : atV (-u) (-v) = p1 at *
    generalize hq2 : atV (u) (-v) = p2 at *
    generalize hq3 : atV (s - u) (v) = p3 at *
    simp only [vts, Vt.c, Vt.enc, sb, ints] at h1 h2 h3 ⊢
    refine S.cond rfl (fun hc => ?_) (fun hc => by simp at hc)
    (repeat first | refine uA ?_ | (refine uK ?_ ?_; focus first | omega | (intros; simp_all <;> omega)) | simp (disch := omega) only [go_sem, Nat.reduceBEq, Nat.reduceAdd, ww, ru, rv] | refine l9.t (j6.lift (k := 0) rfl (n4 _ rfl) rfl rfl rfl) ?_ | (refine uB h1 ?_ ?_; exact rfl) | (refine uB h2 ?_ ?_; exact rfl) | (refine uB h3 ?_ ?_; exact rfl))
    (refine S.done ?_; simp only [D8, x9, go_sem, Nat.reduceBEq, Nat.reduceAdd, Nat.reduceLeDiff, Int.reduceToNat, Int.reducePow]; (repeat (refine ⟨?_, ?_⟩; focus first | trivial | omega | simp)); exact d9.M9 (Imp.frz rfl rfl rfl) (by (repeat first | refine uA ?_ | (refine ⟨?_, ?_⟩; focus first | rfl | simp [slot]) | rfl | simp)) (Nat.le_trans hν0 (by simp)))
  rw [if_neg k1]
  refine S.cond rfl (fun hc => by simp at hc; exact absurd hc k1) (fun hc => ?_)
  (repeat first | refine uA ?_ | (refine uK ?_ ?_; focus first | omega | (intros; simp_all <;> omega)) | simp (disch := omega) only [go_sem, Nat.reduceBEq, Nat.reduceAdd, ww])
  by_cases k2 : k = 2
  · subst k2
    rw [show a1t u v 2 0 = [atV (-u - 1) (-v - 1), atV u (-v - 1), atV (u + 1) (-v), atV (u + 1) v, atV (-u - 1) v] from rfl]
    have h1 := R4 (-u - 1) (-v - 1) (by omega) (by omega)
    have h2 := R4 (u) (-v - 1) (by omega) (by omega)
    have h3 := R4 (u + 1) (-v) (by omega) (by omega)
    have h4 := R4 (u + 1) (v) (by omega) (by omega)
    have h5 := R4 (-u - 1) (v) (by omega) (by omega)
    generalize hq1 : atV (-u - 1) (-v - 1) = p1 at *
    generalize hq2 : atV (u) (-v - 1) = p2 at *
    generalize hq3 : atV (u + 1) (-v) = p3 at *
    generalize hq4 : atV (u + 1) (v) = p4 at *
    generalize hq5 : atV (-u - 1) (v) = p5 at *
    simp only [vts, Vt.c, Vt.enc, sb, ints] at h1 h2 h3 h4 h5 ⊢
    refine S.cond rfl (fun hc => ?_) (fun hc => by simp at hc)
    (repeat first | refine uA ?_ | (refine uK ?_ ?_; focus first | omega | (intros; simp_all <;> omega)) | simp (disch := omega) only [go_sem, Nat.reduceBEq, Nat.reduceAdd, ww, ru, rv] | (refine uB h1 ?_ ?_; exact rfl) | (refine uB h2 ?_ ?_; exact rfl) | (refine uB h3 ?_ ?_; exact rfl) | (refine uB h4 ?_ ?_; exact rfl) | (refine uB h5 ?_ ?_; exact rfl))
    (refine S.done ?_; simp only [D8, x9, go_sem, Nat.reduceBEq, Nat.reduceAdd, Nat.reduceLeDiff, Int.reduceToNat, Int.reducePow]; (repeat (refine ⟨?_, ?_⟩; focus first | trivial | omega | simp)); exact d9.M9 (Imp.frz rfl rfl rfl) (by (repeat first | refine uA ?_ | (refine ⟨?_, ?_⟩; focus first | rfl | simp [slot]) | rfl | simp)) (Nat.le_trans hν0 (by simp)))
  · rw [show a1t u v k 0 = [atV (-u) 0, atV 0 (-v), atV u 0, atV 0 v] by unfold a1t; rw [if_neg k0, if_neg k1, if_neg k2]]
    have h1 := R4 (-u) (0) (by omega) (by omega)
    have h2 := R4 (0) (-v) (by omega) (by omega)
    have h3 := R4 (u) (0) (by omega) (by omega)
    have h4 := R4 (0) (v) (by omega) (by omega)
    generalize hq1 : atV (-u) (0) = p1 at *
    generalize hq2 : atV (0) (-v) = p2 at *
    generalize hq3 : atV (u) (0) = p3 at *
    generalize hq4 : atV (0) (v) = p4 at *
    simp only [vts, Vt.c, Vt.enc, sb, ints] at h1 h2 h3 h4 ⊢
    refine S.cond rfl (fun hc => by simp at hc; exact absurd hc k2) (fun hc => ?_)
    (repeat first | refine uA ?_ | (refine uK ?_ ?_; focus first | omega | (intros; simp_all <;> omega)) | simp (disch := omega) only [go_sem, Nat.reduceBEq, Nat.reduceAdd, ww, ru, rv] | (refine uB h1 ?_ ?_; exact rfl) | (refine uB h2 ?_ ?_; exact rfl) | (refine uB h3 ?_ ?_; exact rfl) | (refine uB h4 ?_ ?_; exact rfl))
    (refine S.done ?_; simp only [D8, x9, go_sem, Nat.reduceBEq, Nat.reduceAdd, Nat.reduceLeDiff, Int.reduceToNat, Int.reducePow]; (repeat (refine ⟨?_, ?_⟩; focus first | trivial | omega | simp)); exact d9.M9 (Imp.frz rfl rfl rfl) (by (repeat first | refine uA ?_ | (refine ⟨?_, ?_⟩; focus first | rfl | simp [slot]) | rfl | simp)) (Nat.le_trans hν0 (by simp)))
end Go.Proofs.YtogfpjohjphngaaGreatDoor
