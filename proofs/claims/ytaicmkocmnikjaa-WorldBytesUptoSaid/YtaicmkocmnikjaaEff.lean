/- What an effect leaves of the symbolic state. -/
import Derived.Test.YtaicmkocmnikjaaEv
import Derived.Maps.AppendAt
namespace Go.Proofs.Ytaicmkocmnikjaa.Eng
set_option linter.all false
open Go Go.RowKit

section
variable {sl : List Sli}

theorem get_ext {ν : List Value} {x u : Value} {k : Nat} (h : ν[k]? = some u) : (ν ++ [x])[k]? = some u := by
  rw [List.getElem?_append_left (List.getElem?_eq_some_iff.1 h).1]
  exact h
theorem get_set {ν : List Value} {x u : Value} {k l : Nat} (hne : l ≠ k) (h : ν[l]? = some u) : (ν.set k x)[l]? = some u := by
  rw [List.getElem?_set_ne (Ne.symm hne)]
  exact h

mutual
theorem den_ext {ν : List Value} (x : Value) : ∀ {s : SV} {y : Value}, Den ν sl s y → Den (ν ++ [x]) sl s y
  | .v _, y, h => by simpa only [Den] using h
  | .agg cs, y, h => by
    simp only [Den] at h ⊢
    obtain ⟨vs, h1, h2⟩ := h
    exact ⟨vs, denL_ext x h1, h2⟩
  | .tup cs, y, h => by
    simp only [Den] at h ⊢
    obtain ⟨vs, h1, h2⟩ := h
    exact ⟨vs, denL_ext x h1, h2⟩
  | .bp k off, y, h => by
    simp only [Den] at h ⊢
    obtain ⟨b, h1, h2⟩ := h
    exact ⟨b, get_ext h1, h2⟩
  | .rv k, y, h => by
    simp only [Den] at h ⊢
    exact get_ext h
  | .rp k off, y, h => by
    simp only [Den] at h ⊢
    obtain ⟨b, n, c, h1, h2⟩ := h
    exact ⟨b, n, c, get_ext h1, h2⟩
  | .sl j, y, h => by simpa only [Den] using h
  | .ep j i off, y, h => by simpa only [Den] using h
  | .g p s, y, h => by
    simp only [Den] at h ⊢
    exact ⟨fun hp => den_ext x (h.1 hp), h.2⟩
  | .clo f cs, y, h => by
    simp only [Den] at h ⊢
    obtain ⟨vs, h1, h2⟩ := h
    exact ⟨vs, denL_ext x h1, h2⟩
  | .fs _ _ _, y, _ => by simp only [Den]
  | .junk, y, _ => by simp only [Den]
theorem denL_ext {ν : List Value} (x : Value) : ∀ {cs : List SV} {vs : List Value}, DenL ν sl cs vs → DenL (ν ++ [x]) sl cs vs
  | [], vs, h => by simpa only [DenL] using h
  | c :: cs, vs, h => by
    simp only [DenL] at h ⊢
    obtain ⟨y, ys, e, h1, h2⟩ := h
    exact ⟨y, ys, e, den_ext x h1, denL_ext x h2⟩
end

mutual
theorem den_set {ν : List Value} (k : Nat) (x : Value) : ∀ {s : SV} {y : Value}, s.has k = false → Den ν sl s y → Den (ν.set k x) sl s y
  | .v _, y, _, h => by simpa only [Den] using h
  | .agg cs, y, hk, h => by
    simp only [Den, SV.has] at h hk ⊢
    obtain ⟨vs, h1, h2⟩ := h
    exact ⟨vs, denL_set k x hk h1, h2⟩
  | .tup cs, y, hk, h => by
    simp only [Den, SV.has] at h hk ⊢
    obtain ⟨vs, h1, h2⟩ := h
    exact ⟨vs, denL_set k x hk h1, h2⟩
  | .bp l off, y, hk, h => by
    simp only [Den, SV.has, beq_eq_false_iff_ne] at h hk ⊢
    obtain ⟨b, h1, h2⟩ := h
    exact ⟨b, get_set hk h1, h2⟩
  | .rv l, y, hk, h => by
    simp only [Den, SV.has, beq_eq_false_iff_ne] at h hk ⊢
    exact get_set hk h
  | .rp l off, y, hk, h => by
    simp only [Den, SV.has, beq_eq_false_iff_ne] at h hk ⊢
    obtain ⟨b, n, c, h1, h2⟩ := h
    exact ⟨b, n, c, get_set hk h1, h2⟩
  | .sl j, y, _, h => by simpa only [Den] using h
  | .ep j i off, y, _, h => by simpa only [Den] using h
  | .g p s, y, hk, h => by
    simp only [Den, SV.has] at h hk ⊢
    exact ⟨fun hp => den_set k x hk (h.1 hp), h.2⟩
  | .clo f cs, y, hk, h => by
    simp only [Den, SV.has] at h hk ⊢
    obtain ⟨vs, h1, h2⟩ := h
    exact ⟨vs, denL_set k x hk h1, h2⟩
  | .fs _ _ _, y, _, _ => by simp only [Den]
  | .junk, y, _, _ => by simp only [Den]
theorem denL_set {ν : List Value} (k : Nat) (x : Value) : ∀ {cs : List SV} {vs : List Value}, SV.hasL k cs = false → DenL ν sl cs vs → DenL (ν.set k x) sl cs vs
  | [], vs, _, h => by simpa only [DenL] using h
  | c :: cs, vs, hk, h => by
    simp only [DenL, SV.hasL, Bool.or_eq_false_iff] at h hk ⊢
    obtain ⟨y, ys, e, h1, h2⟩ := h
    exact ⟨y, ys, e, den_set k x hk.1 h1, denL_set k x hk.2 h2⟩
end

theorem den_purge {ν : List Value} (k : Nat) (x : Value) {s : SV} {y : Value} (h : Den ν sl s y) : Den (ν.set k x) sl (s.purge k) y := by
  unfold SV.purge
  cases hk : s.has k with
  | true => simp [Den]
  | false => exact den_set k x hk h
theorem denL_purge {ν : List Value} (k : Nat) (x : Value) : ∀ {cs : List SV} {vs : List Value}, DenL ν sl cs vs → DenL (ν.set k x) sl (purgeL k cs) vs
  | [], vs, h => by simpa only [DenL, purgeL, List.map_nil] using h
  | c :: cs, vs, h => by
    simp only [DenL] at h
    obtain ⟨y, ys, e, h1, h2⟩ := h
    exact ⟨y, ys, e, den_purge k x h1, denL_purge k x h2⟩

theorem resOK_ext {B : Nat} {ν : List Value} {w : World} {y : Value} {r : Res} (x : Value) (h : ResOK B ν sl w y r) : ResOK B (ν ++ [x]) sl w y r := by
  cases r with
  | gone => trivial
  | box t cs => obtain ⟨b, vs, h1, h2, h3, h4⟩ := h; exact ⟨b, vs, h1, h2, denL_ext x h3, h4⟩
  | row e sz n xs => obtain ⟨vs, h1, h2⟩ := h; exact ⟨vs, denL_ext x h1, h2⟩
  | obj o => exact h
theorem resOK_purge {B : Nat} {ν : List Value} {w : World} {y : Value} {r : Res} (k : Nat) (x : Value) (h : ResOK B ν sl w y r) : ResOK B (ν.set k x) sl w y (r.purge k) := by
  cases r with
  | gone => trivial
  | box t cs => obtain ⟨b, vs, h1, h2, h3, h4⟩ := h; exact ⟨b, vs, h1, h2, denL_purge k x h3, h4⟩
  | row e sz n xs => obtain ⟨vs, h1, h2⟩ := h; exact ⟨vs, denL_purge k x h1, h2⟩
  | obj o => exact h

theorem fp_purge (k : Nat) (r : Res) (x : Value) (w : World) (b : Nat) : fp (r.purge k) x w b = fp r x w b := by cases r <;> rfl
end

section
variable {E : Ctx} {ν : List Value} {st : St} {a : Act} {w : World}

/-- a new block of one's own -/
theorem Good.add (h : Good E ν st a w) {w' : World} {x : Value} {r : Res} (hb : Below w.heap.size w w') (hx : ∀ b, fp r x w' b → w.heap.size ≤ b) (hr : ResOK E.B (ν ++ [x]) st.sl w' x r) :
    Good E (ν ++ [x]) (st.addRs r) a w' := by
  have h' := h.below_ hb
  have old : ∀ (k : Nat) (q : Res), (st.rs ++ [r])[k]? = some q → (k < st.rs.length ∧ st.rs[k]? = some q) ∨ (k = st.rs.length ∧ q = r) := by
    intro k q hk
    rcases Nat.lt_or_ge k st.rs.length with hlt | hge
    · rw [List.getElem?_append_left hlt] at hk; exact .inl ⟨hlt, hk⟩
    · rw [List.getElem?_append_right hge] at hk
      have : k - st.rs.length = 0 := by
        rcases Nat.eq_zero_or_pos (k - st.rs.length) with h0 | h0
        · exact h0
        · rw [List.getElem?_eq_none (by simp; omega)] at hk; cases hk
      rw [this] at hk
      simp at hk
      exact .inr ⟨by omega, hk.symm⟩
  have vold : ∀ k, k < st.rs.length → (ν ++ [x])[k]? = ν[k]? := fun k hk => List.getElem?_append_left (by rw [h.len]; exact hk)
  have vnew : (ν ++ [x])[st.rs.length]? = some x := by rw [← h.len]; simp
  have key : ∀ (k : Nat) (q : Res) (y : Value), st.rs[k]? = some q → ν[k]? = some y → ∀ b, fp q y w' b → fp q y w b ∧ b < w.heap.size := by
    intro k q y hk hy b hf
    obtain ⟨x', hx', hr'⟩ := h.res k q hk
    rw [hy] at hx'
    injection hx' with hx'
    subst hx'
    have := (res_stable hr' (fun b hf => hb.block b (fp_lt hr' hf).2) hb.size).2 b hf
    exact ⟨this, (fp_lt hr' this).2⟩
  refine ⟨h.dfr, h.size, fun t => den_ext x (h.fr t), by simp [St.addRs, h.len], fun y hy => get_ext (h.fx y hy), ?_, ?_, h'.below, h'.hB, h'.sn, ?_, h.sls⟩
  · intro k q hk
    rcases old k q hk with ⟨hlt, hk'⟩ | ⟨rfl, rfl⟩
    · obtain ⟨y, hy, hyr⟩ := h'.res k q hk'
      exact ⟨y, by rw [vold k hlt]; exact hy, resOK_ext x hyr⟩
    · exact ⟨x, vnew, hr⟩
  · intro k l q q' y y' b hne hk hl hy hy' hf hf'
    rcases old k q hk with ⟨hlt, hk'⟩ | ⟨rfl, rfl⟩
    · rw [vold k hlt] at hy
      rcases old l q' hl with ⟨hlt', hl'⟩ | ⟨rfl, rfl⟩
      · rw [vold l hlt'] at hy'
        exact h'.dis k l q q' y y' b hne hk' hl' hy hy' hf hf'
      · rw [vnew] at hy'
        injection hy' with hy'
        subst hy'
        have h1 := (key k q y hk' hy b hf).2
        have h2 := hx b hf'
        omega
    · rw [vnew] at hy
      injection hy with hy
      subst hy
      have h2 := hx b hf
      rcases old l q' hl with ⟨hlt', hl'⟩ | ⟨rfl, rfl⟩
      · rw [vold l hlt'] at hy'
        have h1 := (key l q' y' hl' hy' b hf').2
        omega
      · exact absurd rfl hne
  · intro s hs k q y b hk hy hf hS
    rcases old k q hk with ⟨hlt, hk'⟩ | ⟨rfl, rfl⟩
    · rw [vold k hlt] at hy
      exact h'.snd s hs k q y b hk' hy hf hS
    · rw [vnew] at hy
      injection hy with hy
      subst hy
      have h2 := hx b hf
      have := (h.sn s hs b hS).1
      omega

theorem set_get {st : St} {k l : Nat} {r q : Res} (h : (st.rs.set k r)[l]? = some q) : (l = k ∧ q = r) ∨ (l ≠ k ∧ st.rs[l]? = some q) := by
  rw [List.getElem?_set] at h
  split at h
  · rename_i e
    split at h
    · injection h with h; exact .inl ⟨e.symm, h.symm⟩
    · cases h
  · rename_i e
    exact .inr ⟨fun e' => e e'.symm, h⟩

theorem purgeRs_get (k : Nat) : ∀ (rs : List Res) (l : Nat), (purgeRs k rs)[l]? = (rs[l]?).map (Res.purge k)
  | [], l => by simp [purgeRs]
  | r :: rs, 0 => by simp [purgeRs]
  | r :: rs, l + 1 => by simpa [purgeRs] using purgeRs_get k rs l
theorem purgeRs_length (k : Nat) : ∀ (rs : List Res), (purgeRs k rs).length = rs.length
  | [] => rfl
  | r :: rs => by simp [purgeRs, purgeRs_length k rs]
theorem purgeFr_look (k : Nat) (t : Nat) : ∀ (fr : List (Nat × SV)), slot (purgeFr k fr) t = (slot fr t).purge k
  | [] => by simp [purgeFr, slot, SV.purge, SV.has]
  | (n, s) :: fr => by
    simp only [purgeFr, slot]
    cases hb : (n == t) with
    | true => rfl
    | false => exact purgeFr_look k t fr

/-- the world outside what resource k takes up being as it was: what it becomes -/
structure Turned (w w' : World) (F : Nat → Prop) : Prop where
  below : Below 0 w w'
  block : ∀ b, b < w.heap.size → ¬ F b → w'.heap[b]? = w.heap[b]?

theorem turned_grown {w w' : World} {x : Value} {F : Nat → Prop} (hg : w.grownBy w' (blockOf x)) (hF : ∀ b, blockOf x = some b → F b) : Turned w w' F :=
  ⟨⟨hg.os, hg.tape, hg.output, hg.size, fun k hk => absurd hk (Nat.not_lt_zero k)⟩, fun b hb hn => hg.block b hb fun e => hn (hF b e.symm)⟩

/-- the other things that one owns stay -/
theorem Good.others (h : Good E ν st a w) {w' : World} {k : Nat} {x : Value} {r : Res} (hk : st.rs[k]? = some r) (hx : ν[k]? = some x) (ht : Turned w w' (fp r x w)) :
    (∀ (l : Nat) (q : Res) (y : Value), l ≠ k → st.rs[l]? = some q → ν[l]? = some y → ResOK E.B ν st.sl w' y q ∧ ∀ b, fp q y w' b → fp q y w b) ∧
    (∀ s ∈ st.sn, s.holds w') ∧ Below E.B E.w0 w' ∧ E.B ≤ w'.heap.size := by
  obtain ⟨x', hx', hxr⟩ := h.res k r hk
  rw [hx] at hx'
  injection hx' with hx'
  subst hx'
  refine ⟨fun l q y hne hq hy => ?_, fun s hs b hS => ?_, h.below.trans ⟨ht.below.os, ht.below.tape, ht.below.output, ht.below.size, fun b hb => ?_⟩, Nat.le_trans h.hB ht.below.size⟩
  · obtain ⟨y', hy', hyr⟩ := h.res l q hq
    rw [hy] at hy'
    injection hy' with hy'
    subst hy'
    exact res_stable hyr (fun b hf => ht.block b (fp_lt hyr hf).2 fun hf' => h.dis l k q r y x b hne hq hk hy hx hf hf') ht.below.size
  · obtain ⟨h1, h2⟩ := h.sn s hs b hS
    exact ⟨Nat.lt_of_lt_of_le h1 ht.below.size, (ht.block b h1 fun hf => h.snd s hs k r x b hk hx hf hS).trans h2⟩
  · exact ht.block b (Nat.lt_of_lt_of_le hb h.hB) fun hf => by have := (fp_lt hxr hf).1; omega

/-- what one owns, written: it takes up what it took up, or new blocks besides -/
theorem Good.upd (h : Good E ν st a w) {w' : World} {k : Nat} {x : Value} {r r' : Res} (hk : st.rs[k]? = some r) (hx : ν[k]? = some x) (ht : Turned w w' (fp r x w))
    (hf : ∀ b, fp r' x w' b → fp r x w b ∨ w.heap.size ≤ b) (hr : ResOK E.B ν st.sl w' x r') : Good E ν (st.setRs k r') a w' := by
  obtain ⟨h1, h2, h3, h4⟩ := h.others hk hx ht
  have lt_of : ∀ (l : Nat) (q : Res) (y : Value) (b : Nat), st.rs[l]? = some q → ν[l]? = some y → fp q y w b → b < w.heap.size := by
    intro l q y b hq hy hf
    obtain ⟨y', hy', hyr⟩ := h.res l q hq
    rw [hy] at hy'
    injection hy' with hy'
    subst hy'
    exact (fp_lt hyr hf).2
  refine ⟨h.dfr, h.size, h.fr, by simp [St.setRs, h.len], h.fx, ?_, ?_, h3, h4, h2, ?_, h.sls⟩
  · intro l q hq
    rcases set_get hq with ⟨rfl, rfl⟩ | ⟨hne, hq'⟩
    · exact ⟨x, hx, hr⟩
    · obtain ⟨y, hy, _⟩ := h.res l q hq'
      exact ⟨y, hy, (h1 l q y hne hq' hy).1⟩
  · have half : ∀ (l : Nat) (q : Res) (y : Value) (b : Nat), l ≠ k → st.rs[l]? = some q → ν[l]? = some y → fp r' x w' b → ¬ fp q y w' b := by
      intro l q y b hne hq hy hfk hfl
      have hfl' := (h1 l q y hne hq hy).2 b hfl
      rcases hf b hfk with hfk | hfk
      · exact h.dis l k q r y x b hne hq hk hy hx hfl' hfk
      · have := lt_of l q y b hq hy hfl'
        omega
    intro l m q q' y y' b hne hq hm hy hy' hfl hfm
    rcases set_get hq with ⟨rfl, rfl⟩ | ⟨hlk, hq'⟩
    · rw [hx] at hy
      injection hy with hy
      subst hy
      rcases set_get hm with ⟨rfl, rfl⟩ | ⟨hmk, hm'⟩
      · exact absurd rfl hne
      · exact half m q' y' b hmk hm' hy' hfl hfm
    · rcases set_get hm with ⟨rfl, rfl⟩ | ⟨hmk, hm'⟩
      · rw [hx] at hy'
        injection hy' with hy'
        subst hy'
        exact half l q y b hlk hq' hy hfm hfl
      · exact h.dis l m q q' y y' b hne hq' hm' hy hy' ((h1 l q y hlk hq' hy).2 b hfl) ((h1 m q' y' hmk hm' hy').2 b hfm)
  · intro s hs l q y b hq hy hfl hS
    rcases set_get hq with ⟨rfl, rfl⟩ | ⟨hlk, hq'⟩
    · rw [hx] at hy
      injection hy with hy
      subst hy
      rcases hf b hfl with hfk | hfk
      · exact h.snd s hs l r x b hk hx hfk hS
      · have := (h.sn s hs b hS).1
        omega
    · exact h.snd s hs l q y b hq' hy ((h1 l q y hlk hq' hy).2 b hfl) hS

/-- what one owns, replaced -/
theorem Good.repl (h : Good E ν st a w) {w' : World} {k : Nat} {x x' : Value} {r r' : Res} (hfx : E.fx.isSome = true → k ≠ 0) (hk : st.rs[k]? = some r) (hx : ν[k]? = some x) (ht : Turned w w' (fp r x w))
    (hf : ∀ b, fp r' x' w' b → fp r x w b ∨ w.heap.size ≤ b) (hr : ResOK E.B ν st.sl w' x' r') : Good E (ν.set k x') ((st.setRs k r').purge k) a w' := by
  obtain ⟨h1, h2, h3, h4⟩ := h.others hk hx ht
  have hkl : k < ν.length := (List.getElem?_eq_some_iff.1 hx).1
  have slot' : ∀ (l : Nat) (q : Res), (purgeRs k (st.rs.set k r'))[l]? = some q → (l = k ∧ q = r'.purge k) ∨ (l ≠ k ∧ ∃ q0, st.rs[l]? = some q0 ∧ q = q0.purge k) := by
    intro l q hq
    rw [purgeRs_get, Option.map_eq_some_iff] at hq
    obtain ⟨q0, hq0, rfl⟩ := hq
    rcases set_get hq0 with ⟨rfl, rfl⟩ | ⟨hne, hq'⟩
    · exact .inl ⟨rfl, rfl⟩
    · exact .inr ⟨hne, q0, hq', rfl⟩
  have vk : (ν.set k x')[k]? = some x' := by rw [List.getElem?_set]; simp [hkl]
  have vl : ∀ l, l ≠ k → (ν.set k x')[l]? = ν[l]? := fun l hne => List.getElem?_set_ne (Ne.symm hne)
  have lt_of : ∀ (l : Nat) (q : Res) (y : Value) (b : Nat), st.rs[l]? = some q → ν[l]? = some y → fp q y w b → b < w.heap.size := by
    intro l q y b hq hy hf
    obtain ⟨y', hy', hyr⟩ := h.res l q hq
    rw [hy] at hy'
    injection hy' with hy'
    subst hy'
    exact (fp_lt hyr hf).2
  have half : ∀ (l : Nat) (q : Res) (y : Value) (b : Nat), l ≠ k → st.rs[l]? = some q → ν[l]? = some y → fp r' x' w' b → ¬ fp q y w' b := by
    intro l q y b hne hq hy hfk hfl
    have hfl' := (h1 l q y hne hq hy).2 b hfl
    rcases hf b hfk with hfk | hfk
    · exact h.dis l k q r y x b hne hq hk hy hx hfl' hfk
    · have := lt_of l q y b hq hy hfl'
      omega
  refine ⟨h.dfr, h.size, fun t => ?_, by simp [St.purge, St.setRs, purgeRs_length, h.len], fun y hy => ?_, ?_, ?_, h3, h4, h2, ?_, h.sls⟩
  · show Den _ _ (slot (purgeFr k st.fr) t) _
    rw [purgeFr_look]
    exact den_purge k x' (h.fr t)
  · rw [vl 0 (fun e => hfx (by rw [hy]; rfl) e.symm)]
    exact h.fx y hy
  · intro l q hq
    rcases slot' l q hq with ⟨rfl, rfl⟩ | ⟨hne, q0, hq0, rfl⟩
    · exact ⟨x', vk, resOK_purge _ x' hr⟩
    · obtain ⟨y, hy, _⟩ := h.res l q0 hq0
      exact ⟨y, by rw [vl l hne]; exact hy, resOK_purge k x' (h1 l q0 y hne hq0 hy).1⟩
  · intro l m q q' y y' b hne hq hm hy hy' hfl hfm
    rcases slot' l q hq with ⟨rfl, rfl⟩ | ⟨hlk, q0, hq0, rfl⟩
    · rw [vk] at hy
      injection hy with hy
      subst hy
      rw [fp_purge] at hfl
      rcases slot' m q' hm with ⟨rfl, rfl⟩ | ⟨hmk, q1, hq1, rfl⟩
      · exact absurd rfl hne
      · rw [vl m hmk] at hy'
        rw [fp_purge] at hfm
        exact half m q1 y' b hmk hq1 hy' hfl hfm
    · rw [vl l hlk] at hy
      rw [fp_purge] at hfl
      rcases slot' m q' hm with ⟨rfl, rfl⟩ | ⟨hmk, q1, hq1, rfl⟩
      · rw [vk] at hy'
        injection hy' with hy'
        subst hy'
        rw [fp_purge] at hfm
        exact half l q0 y b hlk hq0 hy hfm hfl
      · rw [vl m hmk] at hy'
        rw [fp_purge] at hfm
        exact h.dis l m q0 q1 y y' b hne hq0 hq1 hy hy' ((h1 l q0 y hlk hq0 hy).2 b hfl) ((h1 m q1 y' hmk hq1 hy').2 b hfm)
  · intro s hs l q y b hq hy hfl hS
    rcases slot' l q hq with ⟨rfl, rfl⟩ | ⟨hlk, q0, hq0, rfl⟩
    · rw [vk] at hy
      injection hy with hy
      subst hy
      rw [fp_purge] at hfl
      rcases hf b hfl with hfk | hfk
      · exact h.snd s hs l r x b hk hx hfk hS
      · have := (h.sn s hs b hS).1
        omega
    · rw [vl l hlk] at hy
      rw [fp_purge] at hfl
      exact h.snd s hs l q0 y b hq0 hy ((h1 l q0 y hlk hq0 hy).2 b hfl) hS
end
end Go.Proofs.Ytaicmkocmnikjaa.Eng
