/- Objects taken apart and put together; slices handed on to calls. -/
import Derived.Test.YtaicmkocmnikjaaVc
namespace Go.Proofs.Ytaicmkocmnikjaa.Eng
set_option linter.all false
open Go Go.RowKit

section
variable {E : Ctx} {ν : List Value} {a : Act} {w : World} {fr : List (Nat × SV)} {rs : List Res} {sl : List Sli} {sn : List Snap}

theorem get_split {k m : Nat} {r1 r2 q : Res} (h : (rs.set k r1 ++ [r2])[m]? = some q) : (m = k ∧ k < rs.length ∧ q = r1) ∨ (m ≠ k ∧ m < rs.length ∧ rs[m]? = some q) ∨ (m = rs.length ∧ q = r2) := by
  rcases Nat.lt_or_ge m rs.length with hlt | hge
  · rw [List.getElem?_append_left (by simpa using hlt)] at h
    by_cases e : m = k
    · subst e
      rw [List.getElem?_set_self hlt] at h
      injection h with h
      exact .inl ⟨rfl, hlt, h.symm⟩
    · rw [List.getElem?_set_ne (fun h => e h.symm)] at h
      exact .inr (.inl ⟨e, hlt, h⟩)
  · rw [List.getElem?_append_right (by simpa using hge)] at h
    simp only [List.length_set] at h
    have : m - rs.length = 0 := by
      rcases Nat.eq_zero_or_pos (m - rs.length) with h0 | h0
      · exact h0
      · obtain ⟨d, hd⟩ : ∃ d, m - rs.length = d + 1 := ⟨m - rs.length - 1, by omega⟩
        rw [hd] at h; simp at h
    rw [this] at h
    simp at h
    exact .inr (.inr ⟨by omega, h.symm⟩)

/-- one thing taken apart into two -/
theorem Good.split (h : Good E ν ⟨fr, rs, sl, sn⟩ a w) {k : Nat} {r r1 r2 : Res} {x v : Value} (hk : rs[k]? = some r) (hx : ν[k]? = some x) (h1 : ResOK E.B (ν ++ [v]) sl w x r1) (h2 : ResOK E.B (ν ++ [v]) sl w v r2)
    (f1 : ∀ b, fp r1 x w b → fp r x w b) (f2 : ∀ b, fp r2 v w b → fp r x w b) (hd : ∀ b, fp r1 x w b → ¬ fp r2 v w b) : Good E (ν ++ [v]) ⟨fr, rs.set k r1 ++ [r2], sl, sn⟩ a w := by
  have hl : ν.length = rs.length := h.len
  have hkl : k < rs.length := (List.getElem?_eq_some_iff.1 hk).1
  have val : ∀ (m : Nat) (q : Res) (y : Value) (b : Nat), (rs.set k r1 ++ [r2])[m]? = some q → (ν ++ [v])[m]? = some y → fp q y w b →
      ((m = k ∧ q = r1 ∧ y = x) ∨ (m = rs.length ∧ q = r2 ∧ y = v)) ∧ fp r x w b ∨ (m ≠ k ∧ m ≠ rs.length ∧ rs[m]? = some q ∧ ν[m]? = some y) := by
    intro m q y b hm hy hf
    rcases get_split hm with ⟨rfl, hlt, rfl⟩ | ⟨hne, hlt, hq⟩ | ⟨rfl, rfl⟩
    · rw [List.getElem?_append_left (by omega), hx] at hy
      injection hy with hy
      subst hy
      exact .inl ⟨.inl ⟨rfl, rfl, rfl⟩, f1 b hf⟩
    · rw [List.getElem?_append_left (by omega)] at hy
      exact .inr ⟨hne, by omega, hq, hy⟩
    · rw [List.getElem?_append_right (by omega), hl] at hy
      simp at hy
      subst hy
      exact .inl ⟨.inr ⟨rfl, rfl, rfl⟩, f2 b hf⟩
  refine ⟨h.dfr, h.size, fun t => den_ext v (h.fr t), by simp [hl], fun y hy => ?_, fun m q hm => ?_, ?_, h.below, h.hB, h.sn, ?_, h.sls⟩
  · have := h.fx y hy
    rw [List.getElem?_append_left (by rcases Nat.eq_zero_or_pos ν.length with h0 | h0; (rw [List.getElem?_eq_none (by omega)] at this; cases this); exact h0)]
    exact this
  · rcases get_split hm with ⟨rfl, hlt, rfl⟩ | ⟨hne, hlt, hq⟩ | ⟨rfl, rfl⟩
    · exact ⟨x, by rw [List.getElem?_append_left (by omega)]; exact hx, h1⟩
    · obtain ⟨y, hy, hr⟩ := h.res m q hq
      exact ⟨y, by rw [List.getElem?_append_left (by omega)]; exact hy, resOK_ext v hr⟩
    · exact ⟨v, by rw [List.getElem?_append_right (by omega)]; simp [hl], h2⟩
  · intro m n q q' y y' b hne hm hn hy hy' hf hf'
    rcases val m q y b hm hy hf with ⟨c1, g1⟩ | ⟨n1, n2, hq, hyv⟩
    · rcases val n q' y' b hn hy' hf' with ⟨c2, g2⟩ | ⟨n1', n2', hq', hyv'⟩
      · rcases c1 with ⟨rfl, rfl, rfl⟩ | ⟨rfl, rfl, rfl⟩ <;> rcases c2 with ⟨e, rfl, rfl⟩ | ⟨e, rfl, rfl⟩
        · exact hne e.symm
        · exact hd b hf hf'
        · exact hd b hf' hf
        · exact hne e.symm
      · exact h.dis k n r q' x y' b (Ne.symm n1') hk hq' hx hyv' g1 hf'
    · rcases val n q' y' b hn hy' hf' with ⟨c2, g2⟩ | ⟨n1', n2', hq', hyv'⟩
      · exact h.dis m k q r y x b n1 hq hk hyv hx hf g2
      · exact h.dis m n q q' y y' b hne hq hq' hyv hyv' hf hf'
  · intro s hs m q y b hm hy hf
    rcases val m q y b hm hy hf with ⟨_, g⟩ | ⟨_, _, hq, hyv⟩
    · exact h.snd s hs k r x b hk hx g
    · exact h.snd s hs m q y b hq hyv hf

/-- two things put together into one -/
theorem Good.join (h : Good E ν ⟨fr, rs, sl, sn⟩ a w) {k m : Nat} {r r1 r2 : Res} {x v : Value} (hkm : k ≠ m) (hk : rs[k]? = some r1) (hm : rs[m]? = some r2) (hx : ν[k]? = some x) (hv : ν[m]? = some v) (h1 : ResOK E.B ν sl w x r)
    (f : ∀ b, fp r x w b → fp r1 x w b ∨ fp r2 v w b) : Good E ν ⟨fr, (rs.set k r).set m .gone, sl, sn⟩ a w := by
  have hkl : k < rs.length := (List.getElem?_eq_some_iff.1 hk).1
  have hml : m < rs.length := (List.getElem?_eq_some_iff.1 hm).1
  have get : ∀ (n : Nat) (q : Res), ((rs.set k r).set m .gone)[n]? = some q → (n = k ∧ q = r) ∨ q = .gone ∨ (n ≠ k ∧ n ≠ m ∧ rs[n]? = some q) := by
    intro n q hn
    by_cases e : n = m
    · subst e
      rw [List.getElem?_set_self (by simpa using hml)] at hn
      injection hn with hn
      exact .inr (.inl hn.symm)
    · rw [List.getElem?_set_ne (fun h => e h.symm)] at hn
      by_cases e' : n = k
      · subst e'
        rw [List.getElem?_set_self hkl] at hn
        injection hn with hn
        exact .inl ⟨rfl, hn.symm⟩
      · rw [List.getElem?_set_ne (fun h => e' h.symm)] at hn
        exact .inr (.inr ⟨e', e, hn⟩)
  refine ⟨h.dfr, h.size, h.fr, by simp [show ν.length = rs.length from h.len], h.fx, fun n q hn => ?_, ?_, h.below, h.hB, h.sn, ?_, h.sls⟩
  · rcases get n q hn with ⟨rfl, rfl⟩ | rfl | ⟨_, _, hq⟩
    · exact ⟨x, hx, h1⟩
    · have : n < ν.length := by
        have := (List.getElem?_eq_some_iff.1 hn).1
        simp at this
        rw [show ν.length = rs.length from h.len]
        exact this
      exact ⟨ν[n], List.getElem?_eq_getElem this, trivial⟩
    · exact h.res n q hq
  · intro n1 n2 q q' y y' b hne hn hn' hy hy' hf hf'
    rcases get n1 q hn with ⟨rfl, rfl⟩ | rfl | ⟨a1, a2, hq⟩
    · rw [hx] at hy
      injection hy with hy
      subst hy
      rcases get n2 q' hn' with ⟨rfl, rfl⟩ | rfl | ⟨b1, b2, hq'⟩
      · exact hne rfl
      · exact hf'
      · rcases f b hf with g | g
        · exact h.dis n1 n2 r1 q' x y' b hne hk hq' hx hy' g hf'
        · exact h.dis m n2 r2 q' v y' b (Ne.symm b2) hm hq' hv hy' g hf'
    · exact hf
    · rcases get n2 q' hn' with ⟨rfl, rfl⟩ | rfl | ⟨b1, b2, hq'⟩
      · rw [hx] at hy'
        injection hy' with hy'
        subst hy'
        rcases f b hf' with g | g
        · exact h.dis n1 n2 q r1 y x b hne hq hk hy hx hf g
        · exact h.dis n1 m q r2 y v b a2 hq hm hy hv hf g
      · exact hf'
      · exact h.dis n1 n2 q q' y y' b hne hq hq' hy hy' hf hf'
  · intro s hs n q y b hn hy hf
    rcases get n q hn with ⟨rfl, rfl⟩ | rfl | ⟨a1, a2, hq⟩
    · rw [hx] at hy
      injection hy with hy
      subst hy
      rcases f b hf with g | g
      · exact h.snd s hs n r1 x b hk hx g
      · exact h.snd s hs m r2 v b hm hv g
    · exact fun _ => hf
    · exact h.snd s hs n q y b hq hy hf

/-- a slot said otherwise -/
theorem Good.slot_ {st : St} (h : Good E ν st a w) {t : Nat} {s : SV} (hs : Den ν st.sl s (a.tmps.getD t undef)) : Good E ν { st with fr := (t, s) :: st.fr } a w :=
  ⟨h.dfr, h.size, fun u => by
    show Den _ _ (slot ((t, s) :: st.fr) u) _
    rw [slot_put]
    split
    · rename_i e; subst e; exact hs
    · exact h.fr u, h.len, h.fx, h.res, h.dis, h.below, h.hB, h.sn, h.snd, h.sls⟩

/-- a slice that a snapshot holds, readable now and far from an object -/
theorem Good.far {st : St} (h : Good E ν st a w) {j k : Nat} {q : Snap} {o : Own} {x : Value} {s : Sli} (hq : st.sn[j]? = some q) (hk : st.rs[k]? = some (.obj o)) (hx : ν[k]? = some x) (hs : SliOK q.w q.S s) :
    SliOK w (fun b => b < w.heap.size ∧ ¬ o.fp x w b) s := by
  obtain ⟨A, c, h1, h2, h3, h4, h5⟩ := hs
  refine ⟨A, c, h1, h2, h3, h4, fun h0 => ?_⟩
  obtain ⟨ad, e, hS, hc⟩ := h5 h0
  have hb := h.snap hq ad.block hS
  refine ⟨ad, e, ⟨hb.1, fun hf => h.snd q (List.mem_of_getElem? hq) k _ x ad.block hk hx hf hS⟩, fun i hi j' v hv => ?_⟩
  rw [← hc i hi j' v hv]
  have hbl : (ad.add (i * s.sz + j')).block = ad.block := by unfold Addr.add; split <;> rfl
  exact World.cell?_of_block (by rw [hbl]; exact hb.2)
/-- a slice that a snapshot holds, readable now -/
theorem Good.near {st : St} (h : Good E ν st a w) {j : Nat} {q : Snap} {s : Sli} (hq : st.sn[j]? = some q) (hs : SliOK q.w q.S s) : SliOK w (· < w.heap.size) s :=
  hs.move fun b hb => h.snap hq b hb

theorem range_flat {α : Type} (sz : Nat) (at_ : Nat → List α) (vs : List α) : ∀ n, vs.length = n * sz → (∀ i, i < n → at_ i = (vs.drop (i * sz)).take sz) → (List.range n).flatMap at_ = vs
  | 0, h, _ => by
    simp at h
    simp [h]
  | n + 1, h, hat => by
    rw [Nat.add_mul, Nat.one_mul] at h
    have ih := range_flat sz at_ (vs.take (n * sz)) n (by simp; omega) fun i hi => by
      rw [hat i (by omega), List.drop_take, List.take_take]
      congr 1
      have : (i + 1) * sz ≤ n * sz := Nat.mul_le_mul_right _ hi
      rw [Nat.add_mul, Nat.one_mul] at this
      omega
    rw [List.range_succ, List.flatMap_append, ih]
    simp only [List.flatMap_cons, List.flatMap_nil, List.append_nil]
    rw [hat n (by omega), List.take_of_length_le (l := vs.drop (n * sz)) (by simp; omega), List.take_append_drop]

/-- an owned row read as a slice -/
theorem owns_sli {B : Nat} {e : TypeId} {sz n q : Nat} {y : Value} {vs : List Value} {at_ : Nat → List Value} (h : w.ownsRow B e sz y n vs) (h1 : ∀ u ∈ vs, u.oneCell' = true) (hat : ∀ i, i < n → at_ i = (vs.drop (i * sz)).take sz) :
    SliOK w (fun c => B ≤ c ∧ c < w.heap.size) ⟨q, y, n, sz, at_⟩ := by
  have hlen := h.1
  have hsz : ∀ i, i < n → (at_ i).length = sz := fun i hi => by
    rw [hat i hi]
    have : (i + 1) * sz ≤ n * sz := Nat.mul_le_mul_right _ hi
    rw [Nat.add_mul, Nat.one_mul] at this
    simp
    omega
  have hone : ∀ i, i < n → ∀ u ∈ at_ i, u.oneCell' = true := fun i hi u hu => by
    rw [hat i hi] at hu
    exact h1 u (List.mem_of_mem_drop (List.mem_of_mem_take hu))
  rcases h.2 with ⟨rfl, rfl⟩ | ⟨g, cap, cur, rfl, hB, hg, hn, hc, _⟩
  · exact ⟨none, 0, rfl, Nat.zero_le _, fun i hi => absurd hi (Nat.not_lt_zero i), fun i hi => absurd hi (Nat.not_lt_zero i), fun h0 => absurd h0 (Nat.lt_irrefl 0)⟩
  · refine ⟨some ⟨g, 0, none⟩, cap, rfl, Nat.le_trans hn hc, hsz, hone, fun _ => ⟨⟨g, 0, none⟩, rfl, ⟨hB, (Array.getElem?_eq_some_iff.1 hg).1⟩, fun i hi j v hv => ?_⟩⟩
    have hcell := h.cells (g := g) rfl (i * sz + j) v
    have hv : (at_ i)[j]? = some v := hv
    rw [hat i hi, List.getElem?_take] at hv
    split at hv
    · rw [List.getElem?_drop] at hv
      exact hcell hv
    · cases hv

/-- the end of a function that hands back a row of its own -/
theorem retRow {R : Ending → World → Prop} {st : St} {t k : Nat} {e : TypeId} {sz n : Nat} {vs : List Value} (at_ : Nat → List Value) (ht : slot st.fr t = .rv k) (hk : st.rs[k]? = some (.row e sz n (vs.map .v))) (hat : ∀ i, i < n → at_ i = (vs.drop (i * sz)).take sz)
    (h : ∀ y w, SliOK w (fun c => E.B ≤ c ∧ c < w.heap.size) ⟨0, y, n, sz, at_⟩ → Below E.B E.w0 w → R (.returned y) w) : RetOK E st [t] R := by
  intro ν a w hG
  have h1 := hG.fr t
  rw [ht] at h1
  simp only [Den] at h1
  obtain ⟨y, hy, us, hD, hone, hown⟩ := hG.res k _ hk
  have := DenL.vs_iff hD
  subst this
  rw [hy] at h1
  injection h1 with h1
  show R (.returned (a.tmps.getD t undef)) w
  rw [← h1]
  exact h y w (owns_sli hown hone hat) hG.below

theorem retOwn {R : Ending → World → Prop} {st : St} {t k : Nat} {e : TypeId} {sz n : Nat} {vs : List Value} (ht : slot st.fr t = .rv k) (hk : st.rs[k]? = some (.row e sz n (vs.map .v)))
    (h : ∀ y w, w.ownsRow E.B e sz y n vs → Below E.B E.w0 w → R (.returned y) w) : RetOK E st [t] R := by
  intro ν a w hG
  have h1 := hG.fr t
  rw [ht] at h1
  simp only [Den] at h1
  obtain ⟨y, hy, us, hD, hone, hown⟩ := hG.res k _ hk
  have := DenL.vs_iff hD
  subst this
  rw [hy] at h1
  injection h1 with h1
  show R (.returned (a.tmps.getD t undef)) w
  rw [← h1]
  exact h y w hown hG.below
end

mutual
theorem den_sl {ν : List Value} {sl : List Sli} (s' : List Sli) : ∀ {s : SV} {y : Value}, Den ν sl s y → Den ν (sl ++ s') s y
  | .v _, y, h => by simpa only [Den] using h
  | .agg cs, y, h => by
    simp only [Den] at h ⊢
    obtain ⟨vs, h1, h2⟩ := h
    exact ⟨vs, denL_sl s' h1, h2⟩
  | .tup cs, y, h => by
    simp only [Den] at h ⊢
    obtain ⟨vs, h1, h2⟩ := h
    exact ⟨vs, denL_sl s' h1, h2⟩
  | .bp l off, y, h => by simpa only [Den] using h
  | .rv l, y, h => by simpa only [Den] using h
  | .rp l off, y, h => by simpa only [Den] using h
  | .sl j, y, h => by
    simp only [Den] at h ⊢
    obtain ⟨s, h1, h2⟩ := h
    exact ⟨s, by rw [List.getElem?_append_left (List.getElem?_eq_some_iff.1 h1).1]; exact h1, h2⟩
  | .ep j i off, y, h => by
    simp only [Den] at h ⊢
    obtain ⟨s, A, c, h1, h2⟩ := h
    exact ⟨s, A, c, by rw [List.getElem?_append_left (List.getElem?_eq_some_iff.1 h1).1]; exact h1, h2⟩
  | .g p s, y, h => by
    simp only [Den] at h ⊢
    exact ⟨fun hp => den_sl s' (h.1 hp), h.2⟩
  | .clo f cs, y, h => by
    simp only [Den] at h ⊢
    obtain ⟨vs, h1, h2⟩ := h
    exact ⟨vs, denL_sl s' h1, h2⟩
  | .fs _ _ _, y, _ => by simp only [Den]
  | .junk, y, _ => by simp only [Den]
theorem denL_sl {ν : List Value} {sl : List Sli} (s' : List Sli) : ∀ {cs : List SV} {vs : List Value}, DenL ν sl cs vs → DenL ν (sl ++ s') cs vs
  | [], vs, h => by simpa only [DenL] using h
  | c :: cs, vs, h => by
    simp only [DenL] at h ⊢
    obtain ⟨y, ys, e, h1, h2⟩ := h
    exact ⟨y, ys, e, den_sl s' h1, denL_sl s' h2⟩
end

section
variable {E : Ctx} {ν : List Value} {a : Act} {w : World} {st : St}
theorem resOK_sl (s' : List Sli) {B : Nat} {sl : List Sli} {y : Value} {r : Res} (h : ResOK B ν sl w y r) : ResOK B ν (sl ++ s') w y r := by
  cases r with
  | gone => trivial
  | box t cs => obtain ⟨b, vs, h1, h2, h3, h4⟩ := h; exact ⟨b, vs, h1, h2, denL_sl s' h3, h4⟩
  | row e sz k xs => obtain ⟨vs, h1, h2⟩ := h; exact ⟨vs, denL_sl s' h1, h2⟩
  | obj o => exact h

/-- more slices to read, in a snapshot of their own -/
theorem Good.learn (hG : Good E ν st a w) (q : Snap) (ss : List Sli) (hh : q.holds w) (hd : ∀ (k : Nat) (r : Res) (x : Value) (b : Nat), st.rs[k]? = some r → ν[k]? = some x → fp r x w b → ¬ q.S b) (hs : ∀ s ∈ ss, s.q = st.sn.length ∧ SliOK q.w q.S s) :
    Good E ν ⟨st.fr, st.rs, st.sl ++ ss, st.sn ++ [q]⟩ a w := by
  refine ⟨hG.dfr, hG.size, fun t => den_sl _ (hG.fr t), hG.len, hG.fx, fun k r hk => ?_, hG.dis, hG.below, hG.hB, ?_, ?_, ?_⟩
  · obtain ⟨x, hx, hr⟩ := hG.res k r hk
    exact ⟨x, hx, resOK_sl _ hr⟩
  · intro s hs
    rcases List.mem_append.1 hs with hs | hs
    · exact hG.sn s hs
    · simp at hs; subst hs; exact hh
  · intro s hs k r x b hk hx hf
    rcases List.mem_append.1 hs with hs | hs
    · exact hG.snd s hs k r x b hk hx hf
    · simp at hs; subst hs; exact hd k r x b hk hx hf
  · intro s hs'
    rcases List.mem_append.1 hs' with hs' | hs'
    · obtain ⟨q0, hq0, hok⟩ := hG.sls s hs'
      exact ⟨q0, by rw [List.getElem?_append_left (List.getElem?_eq_some_iff.1 hq0).1]; exact hq0, hok⟩
    · obtain ⟨h1, h2⟩ := hs s hs'
      exact ⟨q, by rw [h1]; simp, h2⟩

/-- slices that a snapshot holds become readable by the walk -/
theorem Good.learn' (hG : Good E ν st a w) (j : Nat) (q : Snap) (ss : List Sli) (hq : st.sn[j]? = some q) (hs : ∀ s ∈ ss, s.q = j ∧ SliOK q.w q.S s) : Good E ν ⟨st.fr, st.rs, st.sl ++ ss, st.sn⟩ a w := by
  refine ⟨hG.dfr, hG.size, fun t => den_sl _ (hG.fr t), hG.len, hG.fx, fun k r hk => ?_, hG.dis, hG.below, hG.hB, hG.sn, hG.snd, fun s hs' => ?_⟩
  · obtain ⟨x, hx, hr⟩ := hG.res k r hk
    exact ⟨x, hx, resOK_sl _ hr⟩
  · rcases List.mem_append.1 hs' with hs' | hs'
    · exact hG.sls s hs'
    · obtain ⟨h1, h2⟩ := hs s hs'
      exact ⟨q, by rw [h1]; exact hq, h2⟩

/-- a call that hands back a fresh slice, to be read from now on -/
theorem CallOK.fr {f : Nat} {args : List SV} {K : St → SV → Prop} (vs : List Value) (sz n : Nat) (at_ : Nat → List Value) (hv : valsOf st.sl (fun _ => none) args = some vs)
    (h : ∀ ν a w, Good E ν st a w → Calls E.P f vs.toArray w fun e w' => ∃ y, e = .returned y ∧ SliOK w' (fun c => w.heap.size ≤ c ∧ c < w'.heap.size) ⟨0, y, n, sz, at_⟩ ∧ Below w.heap.size w w')
    (hK : ∀ (y : Value) (q : Snap), K ⟨st.fr, st.rs, st.sl ++ [⟨st.sn.length, y, n, sz, at_⟩], st.sn ++ [q]⟩ (.sl st.sl.length)) : CallOK E st f args K := by
  intro ν a w us hG hD
  have := valsOf_den (fun _ _ h => by cases h) hv hD
  subst this
  refine (h ν a w hG).mono ?_
  rintro e w' ⟨y, rfl, hs, hb⟩
  refine ⟨y, _, _, ν, rfl, hK y ⟨fun c => w.heap.size ≤ c ∧ c < w'.heap.size, w'⟩, (hG.below_ hb).learn _ _ (fun b hb => ⟨hb.2, rfl⟩) (fun k r x b hk hx hf hS => ?_) (by
    intro s hs'
    simp at hs'
    subst hs'
    exact ⟨rfl, hs⟩), ?_⟩
  · obtain ⟨x', hx', hr⟩ := hG.res k r hk
    rw [hx] at hx'
    injection hx' with hx'
    subst hx'
    have := (res_stable hr (fun b hf => hb.block b (fp_lt hr hf).2) hb.size).2 b hf
    have := (fp_lt hr this).2
    have := hS.1
    omega
  · simp only [Den]
    exact ⟨_, by simp; rfl, rfl⟩

/-- a call that hands back a fresh row, to be owned -/
theorem CallOK.own {f : Nat} {args : List SV} {K : St → SV → Prop} (vs : List Value) (e : TypeId) (sz n : Nat) (xs : List Value) (hv : valsOf st.sl (fun _ => none) args = some vs) (hone : ∀ u ∈ xs, u.oneCell' = true)
    (h : ∀ ν a w, Good E ν st a w → Calls E.P f vs.toArray w fun en w' => ∃ y, en = .returned y ∧ w'.ownsRow w.heap.size e sz y n xs ∧ Below w.heap.size w w')
    (hK : K (st.addRs (.row e sz n (xs.map .v))) (.rv st.rs.length)) : CallOK E st f args K := by
  intro ν a w us hG hD
  have := valsOf_den (fun _ _ h => by cases h) hv hD
  subst this
  refine (h ν a w hG).mono ?_
  rintro e' w' ⟨y, rfl, ho, hb⟩
  have hB : ∀ b, blockOf y = some b → w.heap.size ≤ b := fun b hb => by
    rcases ho.2 with ⟨rfl, _⟩ | ⟨g, cap, cur, rfl, hg, _⟩
    · cases hb
    · simp only [blockOf, Option.some.injEq] at hb; subst hb; exact hg
  refine ⟨y, _, _, ν ++ [y], rfl, hK, hG.add hb (fun b hf => hB b hf) ⟨xs, DenL.vs _, hone, ?_⟩, ?_⟩
  · obtain ⟨h1, h2⟩ := ho
    refine ⟨h1, ?_⟩
    rcases h2 with h2 | ⟨g, cap, cur, rfl, hg, rest⟩
    · exact .inl h2
    · exact .inr ⟨g, cap, cur, rfl, Nat.le_trans hG.hB hg, rest⟩
  · simp only [Den]
    rw [show st.rs.length = ν.length from hG.len.symm]
    simp
end
end Go.Proofs.Ytaicmkocmnikjaa.Eng
