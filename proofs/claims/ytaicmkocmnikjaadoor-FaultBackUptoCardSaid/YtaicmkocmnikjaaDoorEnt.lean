/- A state that says less: slots and blocks forgotten, blocks of one's own laid to rest. -/
import Derived.Test.YtaicmkocmnikjaaDoorCtl
namespace Go.Proofs.YtaicmkocmnikjaaDoor.Eng
set_option linter.all false
open Go Go.RowKit

mutual
/-- refers to the first n blocks alone -/
def C.bd (n : Nat) : C → Bool
  | .rv l => decide (l < n)
  | .rp l _ _ _ => decide (l < n)
  | .bp l _ => decide (l < n)
  | .mp l => decide (l < n)
  | .wv l _ _ _ => decide (l < n)
  | .agg cs => C.bdL n cs
  | .tup cs => C.bdL n cs
  | .g _ x => C.bd n x
  | .clo _ cs => C.bdL n cs
  | _ => true
def C.bdL (n : Nat) : List C → Bool
  | [] => true
  | c :: cs => C.bd n c && C.bdL n cs
end

def rest (rs' : List Res) (k : Nat) : Bool :=
  match rs'[k]? with
  | none => true
  | some .gone => true
  | _ => false

theorem take_get {α : Type} {l : List α} {n k : Nat} {x : α} (hk : k < n) (h : l[k]? = some x) : (l.take n)[k]? = some x := by
  rw [List.getElem?_take, if_pos hk]; exact h
theorem get_take {α : Type} {l : List α} {n k : Nat} {x : α} (h : (l.take n)[k]? = some x) : l[k]? = some x := by
  rw [List.getElem?_take] at h
  split at h
  · exact h
  · cases h

section
variable {ν : List Value} {w : World} {O : Nat → Prop}
mutual
theorem Den.take (n : Nat) : ∀ {c : C} {y : Value}, c.bd n = true → Den ν w O c y → Den (ν.take n) w O c y
  | .v _, y, _, h => by simpa only [Den] using h
  | .agg cs, y, hb, h => by
    simp only [Den, C.bd] at h hb ⊢
    obtain ⟨vs, h1, h2⟩ := h
    exact ⟨vs, DenL.takeν n hb h1, h2⟩
  | .tup cs, y, hb, h => by
    simp only [Den, C.bd] at h hb ⊢
    obtain ⟨vs, h1, h2⟩ := h
    exact ⟨vs, DenL.takeν n hb h1, h2⟩
  | .sl _ _, y, _, h => by simpa only [Den] using h
  | .nl, y, _, h => by simpa only [Den] using h
  | .ep _, y, _, h => by simpa only [Den] using h
  | .clo f cs, y, hb, h => by
    simp only [Den, C.bd] at h hb ⊢
    obtain ⟨vs, h1, h2⟩ := h
    exact ⟨vs, DenL.takeν n hb h1, h2⟩
  | .bp l off, y, hb, h => by
    simp only [Den, C.bd, decide_eq_true_eq] at h hb ⊢
    obtain ⟨b, h1, h2⟩ := h
    exact ⟨b, take_get hb h1, h2⟩
  | .rv l, y, hb, h => by
    simp only [Den, C.bd, decide_eq_true_eq] at h hb ⊢
    exact ⟨take_get hb h.1, h.2⟩
  | .rp l z i off, y, hb, h => by
    simp only [Den, C.bd, decide_eq_true_eq] at h hb ⊢
    obtain ⟨b, n', c, h1, h2⟩ := h
    exact ⟨b, n', c, take_get hb h1, h2⟩
  | .mp l, y, hb, h => by
    simp only [Den, C.bd, decide_eq_true_eq] at h hb ⊢
    exact ⟨take_get hb h.1, h.2⟩
  | .wv l z lo m, y, hb, h => by
    simp only [Den, C.bd, decide_eq_true_eq] at h hb ⊢
    obtain ⟨A, c, h1, h2, h2b, h3⟩ := h
    refine ⟨A, c, h1, h2, h2b, fun h0 => ?_⟩
    obtain ⟨x, b, g1, g2⟩ := h3 h0
    exact ⟨x, b, take_get hb g1, g2⟩
  | .g p x, y, hb, h => by
    simp only [Den, C.bd] at h hb ⊢
    exact ⟨fun hp => Den.take n hb (h.1 hp), h.2⟩
  | .any _, y, _, h => by simpa only [Den] using h
  | .junk, y, _, _ => by simp only [Den]
theorem DenL.takeν (n : Nat) : ∀ {cs : List C} {vs : List Value}, C.bdL n cs = true → DenL ν w O cs vs → DenL (ν.take n) w O cs vs
  | [], vs, _, h => by simpa only [DenL] using h
  | c :: cs, vs, hb, h => by
    simp only [DenL, C.bdL, Bool.and_eq_true] at h hb ⊢
    obtain ⟨y, ys, e, h1, h2⟩ := h
    exact ⟨y, ys, e, Den.take n hb.1 h1, DenL.takeν n hb.2 h2⟩
end
theorem Keeps.sub {O' : Nat → Prop} (h : ∀ b, O' b → O b) : Keeps O w O' w := fun b hb hn => ⟨hb, fun h' => hn (h b h'), rfl⟩

/-- a slice of one's own, from now on never written -/
theorem row_fz {e sz n : Nat} {y : Value} {es : List (List C)} {vs : List Value} (h : rowAt w e sz y n vs) (hn : es.length = n) (hl : ∀ q ∈ es, q.length = sz) (hF : FzL w O es.flatten vs) (h1 : ∀ u ∈ vs, u.oneCell' = true)
    (hb : ∀ b, blockOf y = some b → b < w.heap.size ∧ ¬ O b) : Fz w O (.sl sz es) y := by
  have hbound : ∃ A c, y = .slice A n c ∧ n ≤ c ∧ c ≤ maxLen ∧ (0 < n → ∃ g, A = some ⟨g, 0, none⟩ ∧ g < w.heap.size ∧ ¬ O g) := by
    rcases h.2 with ⟨rfl, A, rfl⟩ | ⟨g, cap, cur, rfl, h0, hg, hnc, hcm, hcs, ht⟩
    · exact ⟨A, 0, rfl, Nat.le_refl _, Nat.zero_le _, fun h => by omega⟩
    · obtain ⟨b1, b2⟩ := hb g (by simp only [blockOf]; rw [if_neg (by omega)])
      exact ⟨_, cap, rfl, hnc, hcm, fun _ => ⟨g, rfl, b1, b2⟩⟩
  obtain ⟨A, c, rfl, hc1, hc2, hA⟩ := hbound
  subst hn
  simp only [Fz]
  refine ⟨A, c, rfl, hc1, hc2, fun h0 => ?_⟩
  obtain ⟨g, rfl, b1, b2⟩ := hA h0
  refine ⟨_, rfl, b1, b2, FzE.of fun k q hq => ⟨hl q (List.mem_of_getElem? hq), ?_⟩⟩
  have hseg := flat_seg hl hq
  have hsub : FzL w O q ((vs.drop (k * sz)).take sz) := by
    have := (hF.drop (k * sz)).take sz
    rwa [hseg] at this
  refine FzA.of hsub (fun u hu => h1 u (List.mem_of_mem_drop (List.mem_of_mem_take hu))) fun i v hv => ?_
  rw [List.getElem?_take] at hv
  split at hv
  · rw [List.getElem?_drop] at hv
    rw [Nat.zero_add]
    exact h.cells _ v hv
  · cases hv
end

/-- the weaker blocks beside the blocks -/
structure Cut (av : Nat → Prop) (rs rs' : List Res) (ν : List Value) : Prop where
  sub : ∀ b, OO av rs' (ν.take rs'.length) b → OO av rs ν b
  dead : ∀ (k : Nat) (r : Res) (x : Value) (b : Nat), rest rs' k = true → rs[k]? = some r → ν[k]? = some x → fp r x b → ¬ OO av rs' (ν.take rs'.length) b

/-- each weaker block is gone, or of the same kind -/
def kindOK : List Res → List Res → Bool
  | [], _ => true
  | _ :: _, [] => false
  | r' :: rs', r :: rs => (match r', r with
    | .gone, _ => true
    | .box _ _, .box _ _ => true
    | .row _ _ _, .row _ _ _ => true
    | .map _ _, .map _ _ => true
    | _, _ => false) && kindOK rs' rs
theorem kindOK_get : ∀ {rs' rs : List Res} {k : Nat} {r' : Res}, kindOK rs' rs = true → rs'[k]? = some r' → ∃ r, rs[k]? = some r ∧ (r' = .gone ∨ ∀ x b, fp r' x b = fp r x b)
  | [], _, k, r', _, h => by simp at h
  | _ :: _, [], _, _, h, _ => by simp [kindOK] at h
  | q' :: rs', q :: rs, 0, r', h, hk => by
    simp at hk
    subst hk
    simp only [kindOK, Bool.and_eq_true] at h
    refine ⟨q, rfl, ?_⟩
    have := h.1
    split at this
    · exact .inl rfl
    · exact .inr fun _ _ => rfl
    · exact .inr fun _ _ => rfl
    · exact .inr fun _ _ => rfl
    · cases this
  | q' :: rs', q :: rs, k + 1, r', h, hk => by
    simp only [kindOK, Bool.and_eq_true] at h
    obtain ⟨r, h1, h2⟩ := kindOK_get (k := k) h.2 (by simpa using hk)
    exact ⟨r, by simpa using h1, h2⟩
theorem kindOK_len : ∀ {rs' rs : List Res}, kindOK rs' rs = true → rs'.length ≤ rs.length
  | [], _, _ => by simp
  | _ :: _, [], h => by simp [kindOK] at h
  | _ :: rs', _ :: rs, h => by simp only [kindOK, Bool.and_eq_true] at h; simpa using kindOK_len h.2

section
variable {av own0 : Nat → Prop} {n0 : Nat} {ν : List Value} {rs rs' : List Res} {w : World}

theorem Cut.of (hR : RG av own0 n0 ν rs w) (hk : kindOK rs' rs = true) : Cut av rs rs' ν := by
  have own : ∀ b, owned rs' (ν.take rs'.length) b → ∃ l r x, rest rs' l = false ∧ rs[l]? = some r ∧ ν[l]? = some x ∧ fp r x b := by
    rintro b ⟨l, r', x, h1, h2, h3⟩
    obtain ⟨r, hr, h⟩ := kindOK_get hk h1
    rcases h with rfl | h
    · exact h3.elim
    · refine ⟨l, r, x, ?_, hr, get_take h2, by rw [← h]; exact h3⟩
      unfold rest
      rw [h1]
      cases r' <;> first | rfl | exact h3.elim
  refine ⟨fun b hb => ?_, fun k r x b hd h1 h2 h3 hb => ?_⟩
  · rcases hb with hb | hb
    · exact .inl hb
    · obtain ⟨l, r, x, _, h1, h2, h3⟩ := own b hb
      exact .inr ⟨l, r, x, h1, h2, h3⟩
  · rcases hb with hb | hb
    · exact (hR.low b ⟨k, r, x, h1, h2, h3⟩).2.1 hb
    · obtain ⟨l, r', x', hl, h4, h5, h6⟩ := own b hb
      have hne : k ≠ l := fun e => by subst e; rw [hd] at hl; cases hl
      exact hR.dis k l r r' x x' b hne h1 h4 h2 h5 h3 h6
end

/-- what is known turns into something weaker -/
def Imp (rs rs' : List Res) (c c' : C) : Prop := ∀ av own0 n0 ν w y, RG av own0 n0 ν rs w → Cut av rs rs' ν → Den ν w (OO av rs ν) c y → Den (ν.take rs'.length) w (OO av rs' (ν.take rs'.length)) c' y
def ImpL (rs rs' : List Res) : List C → List C → Prop
  | [], [] => True
  | c :: cs, c' :: cs' => Imp rs rs' c c' ∧ ImpL rs rs' cs cs'
  | _, _ => False
section
variable {rs rs' : List Res}
theorem Imp.refl {c : C} (hb : c.bd rs'.length = true) : Imp rs rs' c c := fun _ _ _ _ _ _ _ hC h => Den.take _ hb (Den.keep (Keeps.sub hC.sub) h)
theorem Imp.eq {c c' : C} (e : c = c') (hb : c'.bd rs'.length = true) : Imp rs rs' c c' := by subst e; exact Imp.refl hb
theorem Imp.junk {c : C} : Imp rs rs' c .junk := fun _ _ _ _ _ _ _ _ _ => by simp only [Den]
theorem Imp.un {x x' : C} (h : Imp rs rs' x x') : Imp rs rs' (.g true x) x' := fun av own0 n0 ν w y hR hC hd => h av own0 n0 ν w y hR hC (by simp only [Den] at hd; exact hd.1 trivial)
theorem Imp.nil : Imp rs rs' (.v (.slice none 0 0)) .nl := fun _ _ _ _ _ _ _ _ h => by simp only [Den] at h ⊢; exact ⟨_, h⟩
theorem Imp.nlsl {sz : Nat} : Imp rs rs' .nl (.sl sz []) := fun _ _ _ _ _ _ _ _ h => by
  simp only [Den, Fz] at h ⊢
  obtain ⟨A, rfl⟩ := h
  exact ⟨A, 0, rfl, Nat.le_refl _, Nat.zero_le _, fun h => by simp at h⟩
theorem Imp.nilsl {sz : Nat} : Imp rs rs' (.v (.slice none 0 0)) (.sl sz []) := fun _ _ _ _ _ _ _ _ h => by
  simp only [Den, Fz] at h ⊢
  exact ⟨none, 0, h, Nat.le_refl _, Nat.zero_le _, fun h => by simp at h⟩
/-- a slice of one's own is laid to rest -/
theorem Imp.frz {k e sz : Nat} {es es' : List (List C)} (hk : rs[k]? = some (.row e sz es)) (hd : rest rs' k = true) (he : es = es') : Imp rs rs' (.rv k) (.sl sz es') := fun av own0 n0 ν w y hR hC h => by
  subst he
  simp only [Den] at h ⊢
  obtain ⟨x, hx, hok⟩ := hR.res k _ hk
  rw [hx] at h
  obtain ⟨h, _⟩ := h
  injection h with h
  subst h
  obtain ⟨hl, vs, hF, h1, hrow⟩ := hok
  refine row_fz hrow rfl hl (FzL.keep (Keeps.sub hC.sub) hF) h1 fun b hb => ?_
  exact ⟨hR.lt hk hx hb, hC.dead k _ x b hd hk hx hb⟩
/-- a window of a slice of one's own -/
theorem Imp.win {k e sz n : Nat} {es : List (List C)} (hk : rs[k]? = some (.row e sz es)) (hn : n = es.length) (hb : k < rs'.length) : Imp rs rs' (.rv k) (.wv k sz 0 n) := fun av own0 n0 ν w y hR hC h => by
  subst hn
  simp only [Den] at h ⊢
  obtain ⟨x, hx, hok⟩ := hR.res k _ hk
  have h0 := h.1
  rw [hx] at h0
  injection h0 with h0
  subst h0
  obtain ⟨hl, vs, hF, h1, hrow⟩ := hok
  rcases hrow.2 with ⟨hn, A, hv⟩ | ⟨g, cap, cur, hv, h0, hg, hnc, hcm, _⟩
  · exact ⟨A, 0, by rw [hv, hn], by omega, Nat.zero_le _, fun h => by omega⟩
  · exact ⟨_, cap, hv, hnc, hcm, fun _ => ⟨x, g, take_get hb hx, by rw [hv]; rfl, by rw [Nat.zero_mul], by rw [hv]; show cap = 0 + cap; omega⟩⟩
/-- .. laid to rest -/
theorem Imp.frzw {k e sz lo n : Nat} {es es' : List (List C)} (hk : rs[k]? = some (.row e sz es)) (hd : rest rs' k = true) (hb : lo + n ≤ es.length) (he : (es.drop lo).take n = es') : Imp rs rs' (.wv k sz lo n) (.sl sz es') := fun av own0 n0 ν w y hR hC h => by
  subst he
  simp only [Den] at h ⊢
  simp only [Fz]
  obtain ⟨A, c, rfl, hc1, hcm, hA⟩ := h
  have hlen : ((es.drop lo).take n).length = n := by rw [List.length_take, List.length_drop]; omega
  rw [hlen]
  refine ⟨A, c, rfl, hc1, hcm, fun h0 => ?_⟩
  obtain ⟨x, b, hx, hhead, rfl, _⟩ := hA (by omega)
  obtain ⟨x', hx', hok⟩ := hR.res k _ hk
  rw [hx] at hx'
  injection hx' with hx'
  subst hx'
  obtain ⟨hl, vs, hF, h1, hrow⟩ := hok
  rcases hrow.2 with ⟨hn, _⟩ | ⟨g, cap, cur, hv, h0', hg, hnc, _⟩
  · omega
  · subst hv
    simp only [headOf, Option.some.injEq] at hhead
    subst hhead
    have hfp : fp (.row e sz es) (.slice (some ⟨g, 0, none⟩) es.length cap) g := by simp only [fp, blockOf]; rw [if_neg (by omega)]
    refine ⟨_, rfl, hR.lt hk hx hfp, hC.dead k _ _ g hd hk hx hfp, FzE.of fun i q hq => ?_⟩
    rw [List.getElem?_take] at hq
    split at hq
    · rw [List.getElem?_drop] at hq
      refine ⟨hl q (List.mem_of_getElem? hq), ?_⟩
      have hseg := flat_seg hl hq
      have hF' := FzL.keep (Keeps.sub hC.sub) hF
      have hsub : FzL w (OO av rs' (ν.take rs'.length)) q ((vs.drop ((lo + i) * sz)).take sz) := by
        have := (hF'.drop ((lo + i) * sz)).take sz
        rwa [hseg] at this
      refine FzA.of hsub (fun u hu => h1 u (List.mem_of_mem_drop (List.mem_of_mem_take hu))) fun j v hv => ?_
      rw [List.getElem?_take] at hv
      split at hv
      · rw [List.getElem?_drop] at hv
        have := hrow.cells _ v hv
        rw [add_zero_off] at this ⊢
        rw [← this]
        congr 2
        rw [Nat.zero_add, Nat.add_mul]
        omega
      · cases hv
    · cases hq
/-- a variable of one's own is laid to rest -/
theorem Imp.fbx {k off t : Nat} {cs cs' : List C} (hk : rs[k]? = some (.box t cs)) (hd : rest rs' k = true) (hc : ImpL rs rs' cs cs') (hcl : C.clL cs' = true) (ho : off = 0) : Imp rs rs' (.bp k off) (.ep cs') := fun av own0 n0 ν w y hR hC h => by
  subst ho
  simp only [Den] at h ⊢
  obtain ⟨x, hx, hok⟩ := hR.res k _ hk
  obtain ⟨b, h, rfl⟩ := h
  rw [hx] at h
  injection h with h
  subst h
  obtain ⟨b', vs, hb', hD, h1, hh⟩ := hok
  cases hb'
  have hF : FzL w (OO av rs' (ν.take rs'.length)) cs' vs := by
    refine DenL.fz (ν := ν.take rs'.length) hcl ?_
    clear hk hh h1 hcl
    induction cs generalizing cs' vs with
    | nil => cases cs' <;> first | exact hD | exact hc.elim
    | cons c cs ih =>
      cases cs' with
      | nil => exact hc.elim
      | cons c' cs' =>
        simp only [DenL] at hD ⊢
        obtain ⟨y, ys, rfl, g1, g2⟩ := hD
        exact ⟨y, ys, rfl, hc.1 av own0 n0 ν w y hR hC g1, ih hc.2 _ g2⟩
  simp only [Fz]
  refine ⟨_, rfl, hR.lt hk hx rfl, hC.dead k _ _ b hd hk hx rfl, FzA.of hF h1 fun i v hv => ?_⟩
  rw [add_zero_off, Nat.zero_add, Nat.zero_add, cell_of_row _ b i _ _ _ hh]
  simpa using hv
theorem ImpL.den {cs cs' : List C} {av own0 : Nat → Prop} {n0 : Nat} {ν : List Value} {w : World} {vs : List Value} (h : ImpL rs rs' cs cs') (hR : RG av own0 n0 ν rs w) (hC : Cut av rs rs' ν) (hd : DenL ν w (OO av rs ν) cs vs) :
    DenL (ν.take rs'.length) w (OO av rs' (ν.take rs'.length)) cs' vs := by
  induction cs generalizing cs' vs with
  | nil => cases cs' <;> first | exact hd | exact h.elim
  | cons c cs ih =>
    cases cs' with
    | nil => exact h.elim
    | cons c' cs' =>
      simp only [DenL] at hd ⊢
      obtain ⟨y, ys, rfl, g1, g2⟩ := hd
      exact ⟨y, ys, rfl, h.1 av own0 n0 ν w y hR hC g1, ih h.2 g2⟩
theorem Imp.agg {cs cs' : List C} (h : ImpL rs rs' cs cs') : Imp rs rs' (.agg cs) (.agg cs') := fun av own0 n0 ν w y hR hC hd => by
  simp only [Den] at hd ⊢
  obtain ⟨vs, h1, h2⟩ := hd
  exact ⟨vs, h.den hR hC h1, h2⟩
theorem Imp.aggv {vs : Array Value} {cs' : List C} (h : ImpL rs rs' (vs.toList.map .v) cs') : Imp rs rs' (.v (.agg vs)) (.agg cs') := fun av own0 n0 ν w y hR hC hd => by
  simp only [Den] at hd ⊢
  subst hd
  exact ⟨vs.toList, h.den hR hC (DenL.vs _), rfl⟩
theorem Imp.tup {cs cs' : List C} (h : ImpL rs rs' cs cs') : Imp rs rs' (.tup cs) (.tup cs') := fun av own0 n0 ν w y hR hC hd => by
  simp only [Den] at hd ⊢
  obtain ⟨vs, h1, h2⟩ := hd
  exact ⟨vs, h.den hR hC h1, h2⟩
theorem Imp.clo {f : Nat} {cs cs' : List C} (h : ImpL rs rs' cs cs') : Imp rs rs' (.clo f cs) (.clo f cs') := fun av own0 n0 ν w y hR hC hd => by
  simp only [Den] at hd ⊢
  obtain ⟨vs, h1, h2⟩ := hd
  exact ⟨vs, h.den hR hC h1, h2⟩
theorem Imp.g {p : Bool} {x x' : C} (h : Imp rs rs' x x') : Imp rs rs' (.g p x) (.g p x') := fun av own0 n0 ν w y hR hC hd => by
  simp only [Den] at hd ⊢
  exact ⟨fun hp => h av own0 n0 ν w y hR hC (hd.1 hp), hd.2⟩
theorem ImpL.nil : ImpL rs rs' [] [] := trivial
theorem ImpL.cons {c c' : C} {cs cs' : List C} (h : Imp rs rs' c c') (hs : ImpL rs rs' cs cs') : ImpL rs rs' (c :: cs) (c' :: cs') := ⟨h, hs⟩
theorem ImpL.refl {cs : List C} (hb : C.bdL rs'.length cs = true) : ImpL rs rs' cs cs := by
  induction cs with
  | nil => trivial
  | cons c cs ih => simp only [C.bdL, Bool.and_eq_true] at hb; exact ⟨Imp.refl hb.1, ih hb.2⟩
theorem ImpL.eq {cs cs' : List C} (e : cs = cs') (hb : C.bdL rs'.length cs' = true) : ImpL rs rs' cs cs' := by subst e; exact ImpL.refl hb
end

/-- each slot of the weaker frame -/
def frOK (rs rs' : List Res) (fr : List (Nat × C)) : List (Nat × C) → Prop
  | [] => True
  | (t, s) :: r => Imp rs rs' (slot fr t) s ∧ frOK rs rs' fr r
theorem frOK.nil {rs rs' : List Res} {fr : List (Nat × C)} : frOK rs rs' fr [] := trivial
theorem frOK.cons {rs rs' : List Res} {fr r : List (Nat × C)} {t : Nat} {s : C} (h : Imp rs rs' (slot fr t) s) (hr : frOK rs rs' fr r) : frOK rs rs' fr ((t, s) :: r) := ⟨h, hr⟩
/-- each weaker block -/
inductive RI (rs rs' : List Res) : Res → Res → Prop where
  | gone (r : Res) : RI rs rs' r .gone
  | row (e sz : Nat) (es es' : List (List C)) (h : es = es') : RI rs rs' (.row e sz es) (.row e sz es')
  | map (s : Bool) (es es' : List (Value × Value)) (h : es = es') : RI rs rs' (.map s es) (.map s es')
  | box (t : TypeId) (cs cs' : List C) (h : ImpL rs rs' cs cs') : RI rs rs' (.box t cs) (.box t cs')
def rsOK (rs rs' : List Res) : List Res → List Res → Prop
  | [], _ => True
  | _ :: _, [] => False
  | r' :: l', r :: l => RI rs rs' r r' ∧ rsOK rs rs' l' l
theorem rsOK.nil {rs rs' l : List Res} : rsOK rs rs' [] l := by cases l <;> trivial
theorem rsOK.cons {rs rs' l l' : List Res} {r r' : Res} (h : RI rs rs' r r') (hl : rsOK rs rs' l' l) : rsOK rs rs' (r' :: l') (r :: l) := ⟨h, hl⟩
theorem rsOK_kind {rs rs' : List Res} : ∀ {l' l : List Res}, rsOK rs rs' l' l → kindOK l' l = true
  | [], _, _ => by simp [kindOK]
  | _ :: _, [], h => h.elim
  | r' :: l', r :: l, h => by
    simp only [kindOK, Bool.and_eq_true]
    exact ⟨by cases h.1 <;> rfl, rsOK_kind h.2⟩
theorem rsOK_get {rs rs' : List Res} : ∀ {l' l : List Res} {k : Nat} {r' : Res}, rsOK rs rs' l' l → l'[k]? = some r' → ∃ r, l[k]? = some r ∧ RI rs rs' r r'
  | [], _, k, r', _, h => by simp at h
  | _ :: _, [], _, _, h, _ => h.elim
  | r0 :: l', r :: l, 0, r', h, hk => by
    simp at hk
    subst hk
    exact ⟨r, rfl, h.1⟩
  | r0 :: l', r :: l, k + 1, r', h, hk => by
    obtain ⟨q, h1, h2⟩ := rsOK_get (k := k) h.2 (by simpa using hk)
    exact ⟨q, by simpa using h1, h2⟩

theorem frOK_look {rs rs' : List Res} {fr : List (Nat × C)} : ∀ {fr' : List (Nat × C)} (t : Nat), frOK rs rs' fr fr' → Imp rs rs' (slot fr t) (slot fr' t)
  | [], t, _ => Imp.junk
  | (t', s) :: r, t, h => by
    simp only [slot]
    cases hb : (t' == t) with
    | true =>
      have : t' = t := by simpa using hb
      subst this
      exact h.1
    | false => exact frOK_look t h.2

theorem RG.weak {av own0 : Nat → Prop} {n0 : Nat} {ν : List Value} {rs rs' : List Res} {w : World} (hR : RG av own0 n0 ν rs w) (h : rsOK rs rs' rs' rs) : RG av own0 n0 (ν.take rs'.length) rs' w := by
  have hk := rsOK_kind h
  have hC : Cut av rs rs' ν := Cut.of hR hk
  have hlen := kindOK_len hk
  refine ⟨by rw [List.length_take, hR.len]; omega, fun k r' hr' => ?_, fun k l r r' x x' b hne h1 h2 h3 h4 h5 h6 => ?_, fun b hb => ?_, hR.av, hR.n0⟩
  · obtain ⟨r, hr, hI⟩ := rsOK_get h hr'
    obtain ⟨x, hx, hok⟩ := hR.res k r hr
    have hlt : k < rs'.length := (List.getElem?_eq_some_iff.1 hr').1
    refine ⟨x, take_get hlt hx, ?_⟩
    cases hI with
    | gone => trivial
    | row e sz es es' he =>
      subst he
      obtain ⟨g1, vs, g2, g3⟩ := hok
      exact ⟨g1, vs, FzL.keep (Keeps.sub hC.sub) g2, g3⟩
    | map s es es' he => subst he; exact hok
    | box t cs cs' he =>
      obtain ⟨b, vs, g1, g2, g3⟩ := hok
      exact ⟨b, vs, g1, he.den hR hC g2, g3⟩
  · obtain ⟨q, hq, hI⟩ := kindOK_get hk h1
    obtain ⟨q', hq', hI'⟩ := kindOK_get hk h2
    rcases hI with rfl | hI
    · exact h5.elim
    rcases hI' with rfl | hI'
    · exact h6.elim
    rw [hI] at h5
    rw [hI'] at h6
    exact hR.dis k l q q' x x' b hne hq hq' (get_take h3) (get_take h4) h5 h6
  · obtain ⟨l, r', x, h1, h2, h3⟩ := hb
    obtain ⟨r, hr, hI⟩ := kindOK_get hk h1
    rcases hI with rfl | hI
    · exact h3.elim
    · exact hR.low b ⟨l, r, x, hr, get_take h2, by rw [← hI]; exact h3⟩

theorem Ent.mk {E : Ctx} {st : St} (fr' : List (Nat × C)) (rs' : List Res) (h1 : frOK st.rs rs' st.fr fr') (h2 : rsOK st.rs rs' rs' st.rs) (h3 : E.nu0.length ≤ rs'.length) : Ent E st ⟨fr', rs'⟩ := by
  intro wf ν a w hG
  exact ⟨ν.take rs'.length, hG.dfr, hG.size, fun t => frOK_look t h1 _ _ _ ν w _ hG.rg (Cut.of hG.rg (rsOK_kind h2)) (hG.fr t), hG.rg.weak h2, hG.frm, fun k x hk hx => take_get (Nat.lt_of_lt_of_le (List.getElem?_eq_some_iff.1 hx).1 h3) (hG.nu k x hk hx)⟩
theorem Ent.refl {E : Ctx} {st : St} : Ent E st st := fun _ ν _ _ hG => ⟨ν, hG⟩
theorem Ent.trans {E : Ctx} {st st' st'' : St} (h : Ent E st st') (h' : Ent E st' st'') : Ent E st st'' := fun wf ν a w hG => let ⟨ν', hG'⟩ := h wf ν a w hG; h' wf ν' a w hG'

/-- no slice -/
def isNil : C → Bool
  | .v (.slice none 0 0) => true
  | .nl => true
  | _ => false
theorem isNil_den {c : C} {ν : List Value} {w : World} {O : Nat → Prop} {y : Value} (h : isNil c = true) (hd : Den ν w O c y) : ∃ A, y = .slice A 0 0 := by
  unfold isNil at h
  split at h
  · simp only [Den] at hd; exact ⟨none, hd⟩
  · simpa only [Den] using hd
  · cases h

theorem row_nil {av own0 : Nat → Prop} {n0 : Nat} {ν : List Value} {rs : List Res} {w : World} (hR : RG av own0 n0 ν rs w) (A : Option Addr) (e sz : Nat) :
    RG av own0 n0 (ν ++ [.slice A 0 0]) (rs ++ [.row e sz []]) w ∧ Mv rs ν w [] (rs ++ [.row e sz []]) (ν ++ [.slice A 0 0]) w := by
  refine hR.add (Below.refl _ _) (fun b hb => ?_) fun _ _ => ?_
  · simp only [fp] at hb
    cases A <;> simp [blockOf] at hb
  · exact ⟨(fun c hc => by cases hc), [], by simp [FzL], (fun u hu => by cases hu), by simp, Or.inl ⟨rfl, A, rfl⟩⟩

/-- an empty slice as one's own: where a slot holds it -/
theorem Ent.pack {E : Ctx} {fr : List (Nat × C)} {rs : List Res} (t e sz : Nat) (h : isNil (slot fr t) = true) : Ent E ⟨fr, rs⟩ ⟨(t, .rv rs.length) :: fr, rs ++ [.row e sz []]⟩ := by
  intro wf ν a w hG
  obtain ⟨A, hA⟩ := isNil_den h (hG.fr t)
  obtain ⟨h1, h2⟩ := row_nil hG.rg A e sz
  refine ⟨ν ++ [.slice A 0 0], hG.dfr, hG.size, fun t' => ?_, h1, hG.frm, fun k x hk hx => h2.nu k x (by simp) (hG.nu k x hk hx)⟩
  show Den _ w (OO E.av (rs ++ [.row e sz []]) (ν ++ [.slice A 0 0])) (slot ((t, .rv rs.length) :: fr) t') _
  simp only [slot]
  cases hb : (t == t') with
  | true =>
    have : t = t' := by simpa using hb
    subst this
    simp only [cond_true, Den]
    rw [hA]
    refine ⟨?_, A, 0, 0, rfl⟩
    have := hG.rg.len
    rw [← this]
    simp
  | false => exact Den.nu h2.nu (fun k hk => by cases hk) (Den.keep h2.keeps (hG.fr t'))
/-- where a variable of one's own holds it -/
theorem Ent.packB {E : Ctx} {fr : List (Nat × C)} {rs : List Res} (k j e sz : Nat) {t : TypeId} {cs : List C} {c : C} (hk : rs[k]? = some (.box t cs)) (hj : cs[j]? = some c) (h : isNil c = true) :
    Ent E ⟨fr, rs⟩ ⟨fr, (rs ++ [Res.row e sz []]).set k (.box t (cs.set j (.rv rs.length)))⟩ := by
  intro wf ν a w hG
  obtain ⟨x, hx, b, vs, rfl, hD, h1, hh⟩ := hG.rg.res k _ hk
  obtain ⟨y, hy, hd⟩ := hD.get hj
  obtain ⟨A, rfl⟩ := isNil_den h hd
  obtain ⟨g1, g2⟩ := row_nil hG.rg A e sz
  have hkl : k < rs.length := (List.getElem?_eq_some_iff.1 hk).1
  have hkl' : k < ν.length := by rw [hG.rg.len]; exact hkl
  have hk' : (rs ++ [Res.row e sz []])[k]? = some (.box t cs) := by rw [List.getElem?_append_left hkl]; exact hk
  have hx' : (ν ++ [.slice A 0 0])[k]? = some (.pointer (some ⟨b, 0, none⟩)) := by rw [List.getElem?_append_left hkl']; exact hx
  have hu := g1.upd (r' := .box t (cs.set j (.rv rs.length))) hk' hx' ⟨rfl, rfl, rfl, Nat.le_refl _, fun _ _ _ => rfl⟩ (fun _ h => h) fun hkp => by
    refine ⟨b, vs, rfl, ?_, h1, hh⟩
    have hD' : DenL (ν ++ [.slice A 0 0]) w (OO E.av ((rs ++ [Res.row e sz []]).set k (.box t (cs.set j (.rv rs.length)))) (ν ++ [.slice A 0 0])) cs vs := by
      have := DenL.keep hkp (DenL.purge g2.nu (DenL.keep (g2.keeps (av := E.av)) hD))
      rwa [show cs.map (C.purge []) = cs from List.map_id' cs] at this
    have key : ∀ (cs : List C) (vs : List Value) (j : Nat) (c' : C) (O : Nat → Prop) (ν : List Value), DenL ν w O cs vs → (∀ y, vs[j]? = some y → Den ν w O c' y) → DenL ν w O (cs.set j c') vs := by
      intro cs
      induction cs with
      | nil => intro vs j c' O ν h _; simpa using h
      | cons c cs ih =>
        intro vs j c' O ν h h2
        simp only [DenL] at h
        obtain ⟨y, ys, rfl, k1, k2⟩ := h
        cases j with
        | zero => exact ⟨y, ys, rfl, h2 y rfl, k2⟩
        | succ j => exact ⟨y, ys, rfl, k1, ih ys j c' O ν k2 fun z hz => h2 z (by simpa using hz)⟩
    refine key cs vs j _ _ _ hD' fun z hz => ?_
    rw [hy] at hz
    injection hz with hz
    subst hz
    simp only [Den]
    refine ⟨?_, A, 0, 0, rfl⟩
    have := hG.rg.len
    rw [← this]
    simp
  refine ⟨ν ++ [.slice A 0 0], hG.dfr, hG.size, fun t' => ?_, hu.1, hG.frm, fun k x hk hx => g2.nu k x (by simp) (hG.nu k x hk hx)⟩
  exact Den.keep hu.2.keeps (Den.nu g2.nu (fun k hk => by cases hk) (Den.keep g2.keeps (hG.fr t')))

/-- a slice of one's own, cut off at its end: what held it before says nothing more -/
theorem Ent.shrink {E : Ctx} {fr : List (Nat × C)} {rs : List Res} (t k : Nat) {e sz m : Nat} {es : List (List C)} (ht : slot fr t = .wv k sz 0 m) (hk : rs[k]? = some (.row e sz es)) (hm : m ≤ es.length) (hp : pkOK E [k]) :
    Ent E ⟨fr, rs⟩ ⟨(t, .rv k) :: purgeFr [k] fr, purgeRs [k] (rs.set k (.row e sz (es.take m)))⟩ := by
  intro wf ν a w hG
  have hd := hG.fr t
  rw [show slot (St.mk fr rs).fr t = .wv k sz 0 m from ht] at hd
  simp only [Den] at hd
  obtain ⟨A, c, hy, hnc, hcm, hA⟩ := hd
  obtain ⟨x, hx, hok⟩ := hG.rg.res k _ hk
  obtain ⟨hl, vs, hF, h1, hrow⟩ := hok
  have hkl : k < ν.length := (List.getElem?_eq_some_iff.1 hx).1
  have key : rowAt w e sz (.slice A m c) m (vs.take (m * sz)) ∧ ∀ b, blockOf (.slice A m c) = some b → blockOf x = some b := by
    have hvl := hrow.1
    have hms : m * sz ≤ es.length * sz := Nat.mul_le_mul_right _ hm
    have hvt : (vs.take (m * sz)).length = m * sz := by rw [List.length_take]; omega
    rcases Nat.eq_zero_or_pos c with h0 | h0
    · subst h0
      have : m = 0 := by omega
      subst this
      refine ⟨⟨hvt, .inl ⟨rfl, A, rfl⟩⟩, fun b hb => ?_⟩
      cases A <;> simp [blockOf] at hb
    · obtain ⟨x', b, hx', hhead, rfl, hcap⟩ := hA h0
      rw [hx] at hx'
      injection hx' with hx'
      subst hx'
      rcases hrow.2 with ⟨hn, A', rfl⟩ | ⟨g, cap, cur, rfl, g0, hg, hnc', hcm', hcs, htk⟩
      · simp only [capOf] at hcap
        omega
      · simp only [capOf] at hcap
        simp only [headOf, Option.some.injEq] at hhead
        subst hhead
        have hcc : cap = c := by omega
        subst hcc
        refine ⟨⟨hvt, .inr ⟨g, cap, cur, by rw [Nat.zero_mul], g0, hg, hnc, hcm, hcs, ?_⟩⟩, fun b hb => ?_⟩
        · rw [← htk, List.take_take, Nat.min_eq_left hms]
        · simp only [blockOf] at hb ⊢
          rw [if_neg (by omega)] at hb ⊢
          exact hb
  obtain ⟨hrow', hfp⟩ := key
  obtain ⟨hR', hM⟩ := hG.rg.repl (pk := [k]) (x' := .slice A m c) (r' := .row e sz (es.take m)) hk hx ⟨rfl, rfl, rfl, Nat.le_refl _, fun _ _ _ => rfl⟩
    (fun l z hl' hz => by rw [List.getElem?_set_ne (fun e => hl' (by simp [e]))]; exact hz)
    (fun b hb => .inl (hfp b hb))
    (fun hkp => by
      refine ⟨fun q hq => hl q (List.mem_of_mem_take hq), vs.take (m * sz), ?_, fun u hu => h1 u (List.mem_of_mem_take hu), ?_⟩
      · rw [flat_take hl]
        exact (FzL.keep hkp hF).take _
      · rw [List.length_take, Nat.min_eq_left hm]
        exact hrow')
  have hG' := hG.mv hR' hM hp
  refine ⟨ν.set k (.slice A m c), hG'.dfr, hG'.size, fun t' => ?_, hG'.rg, hG'.frm, hG'.nu⟩
  show Den _ w (OO E.av (purgeRs [k] (rs.set k (.row e sz (es.take m)))) (ν.set k (.slice A m c))) (slot ((t, .rv k) :: purgeFr [k] fr) t') _
  simp only [slot]
  cases hb : (t == t') with
  | true =>
    have : t = t' := by simpa using hb
    subst this
    simp only [cond_true, Den]
    rw [hy]
    refine ⟨?_, A, m, c, rfl⟩
    rw [List.getElem?_set]
    simp [hkl]
  | false =>
    simp only [cond_false]
    rw [slot_purge]
    exact hG'.fr t'
end Go.Proofs.YtaicmkocmnikjaaDoor.Eng
