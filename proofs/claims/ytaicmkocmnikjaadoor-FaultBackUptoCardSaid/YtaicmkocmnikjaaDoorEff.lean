/- What an effect leaves of the blocks of one's own. -/
import Derived.Test.YtaicmkocmnikjaaDoorSnd
import Derived.Maps.AppendAt
namespace Go.Proofs.YtaicmkocmnikjaaDoor.Eng
set_option linter.all false
open Go Go.RowKit

mutual
def C.has (k : Nat) : C → Bool
  | .rv l => l == k
  | .rp l _ _ _ => l == k
  | .bp l _ => l == k
  | .mp l => l == k
  | .wv l _ _ _ => l == k
  | .agg cs => C.hasL k cs
  | .tup cs => C.hasL k cs
  | .g _ x => C.has k x
  | .clo _ cs => C.hasL k cs
  | _ => false
def C.hasL (k : Nat) : List C → Bool
  | [] => false
  | c :: cs => C.has k c || C.hasL k cs
end
def C.hasAny (c : C) : List Nat → Bool
  | [] => false
  | k :: pk => c.has k || C.hasAny c pk
def C.purge (pk : List Nat) (c : C) : C :=
  match pk with
  | [] => c
  | _ => bif c.hasAny pk then .junk else c
def purgeFr (pk : List Nat) (fr : List (Nat × C)) : List (Nat × C) :=
  match pk with
  | [] => fr
  | _ => fr.map fun (t, c) => (t, c.purge pk)
def Res.purge (pk : List Nat) : Res → Res
  | .box t cs => .box t (cs.map (C.purge pk))
  | r => r
def purgeRs (pk : List Nat) (rs : List Res) : List Res :=
  match pk with
  | [] => rs
  | _ => rs.map (Res.purge pk)

theorem slot_purge (pk : List Nat) (t : Nat) : ∀ (fr : List (Nat × C)), slot (purgeFr pk fr) t = (slot fr t).purge pk := by
  cases pk with
  | nil => intro fr; rfl
  | cons k pk =>
    intro fr
    show slot (fr.map _) t = _
    induction fr with
    | nil => simp only [List.map_nil, slot, C.purge]; cases hh : C.junk.hasAny (k :: pk) <;> rfl
    | cons p fr ih =>
      obtain ⟨n, c⟩ := p
      simp only [List.map_cons, slot, ih]
      cases hb : (n == t) <;> rfl

section
variable {ν ν' : List Value} {w : World} {O : Nat → Prop}

mutual
theorem Den.nu {pk : List Nat} (h : NuLe pk ν ν') : ∀ {c : C} {y : Value}, (∀ k ∈ pk, c.has k = false) → Den ν w O c y → Den ν' w O c y
  | .v _, y, _, hd => by simpa only [Den] using hd
  | .agg cs, y, hk, hd => by simp only [Den] at hd ⊢; obtain ⟨vs, h1, h2⟩ := hd; exact ⟨vs, DenL.nu h (fun k hk' => by simpa only [C.has] using hk k hk') h1, h2⟩
  | .tup cs, y, hk, hd => by simp only [Den] at hd ⊢; obtain ⟨vs, h1, h2⟩ := hd; exact ⟨vs, DenL.nu h (fun k hk' => by simpa only [C.has] using hk k hk') h1, h2⟩
  | .sl _ _, y, _, hd => by simpa only [Den] using hd
  | .nl, y, _, hd => by simpa only [Den] using hd
  | .ep _, y, _, hd => by simpa only [Den] using hd
  | .clo f cs, y, hk, hd => by simp only [Den] at hd ⊢; obtain ⟨vs, h1, h2⟩ := hd; exact ⟨vs, DenL.nu h (fun k hk' => by simpa only [C.has] using hk k hk') h1, h2⟩
  | .bp l off, y, hk, hd => by
    simp only [Den] at hd ⊢
    obtain ⟨b, h1, h2⟩ := hd
    exact ⟨b, h l _ (fun hm => by have := hk l hm; simp [C.has] at this) h1, h2⟩
  | .rv l, y, hk, hd => by
    simp only [Den] at hd ⊢
    exact ⟨h l _ (fun hm => by have := hk l hm; simp [C.has] at this) hd.1, hd.2⟩
  | .rp l z i off, y, hk, hd => by
    simp only [Den] at hd ⊢
    obtain ⟨b, n, c, h1, h2⟩ := hd
    exact ⟨b, n, c, h l _ (fun hm => by have := hk l hm; simp [C.has] at this) h1, h2⟩
  | .mp l, y, hk, hd => by
    simp only [Den] at hd ⊢
    exact ⟨h l _ (fun hm => by have := hk l hm; simp [C.has] at this) hd.1, hd.2⟩
  | .wv l z lo n, y, hk, hd => by
    simp only [Den] at hd ⊢
    obtain ⟨A, c, h1, h2, h2b, h3⟩ := hd
    refine ⟨A, c, h1, h2, h2b, fun h0 => ?_⟩
    obtain ⟨x, b, g1, g2⟩ := h3 h0
    exact ⟨x, b, h l _ (fun hm => by have := hk l hm; simp [C.has] at this) g1, g2⟩
  | .g p x, y, hk, hd => by
    simp only [Den] at hd ⊢
    exact ⟨fun hp => Den.nu h (fun k hk' => by simpa only [C.has] using hk k hk') (hd.1 hp), hd.2⟩
  | .any _, y, _, hd => by simpa only [Den] using hd
  | .junk, y, _, _ => by simp only [Den]
theorem DenL.nu {pk : List Nat} (h : NuLe pk ν ν') : ∀ {cs : List C} {vs : List Value}, (∀ k ∈ pk, C.hasL k cs = false) → DenL ν w O cs vs → DenL ν' w O cs vs
  | [], vs, _, hd => by simpa only [DenL] using hd
  | c :: cs, vs, hk, hd => by
    simp only [DenL] at hd ⊢
    obtain ⟨y, ys, e, h1, h2⟩ := hd
    exact ⟨y, ys, e, Den.nu h (fun k hk' => by have := hk k hk'; simp only [C.hasL, Bool.or_eq_false_iff] at this; exact this.1) h1,
      DenL.nu h (fun k hk' => by have := hk k hk'; simp only [C.hasL, Bool.or_eq_false_iff] at this; exact this.2) h2⟩
end
theorem hasAny_false {c : C} : ∀ {pk : List Nat}, c.hasAny pk = false → ∀ k ∈ pk, c.has k = false
  | [], _, k, hk => by cases hk
  | l :: pk, h, k, hk => by
    simp only [C.hasAny, Bool.or_eq_false_iff] at h
    cases List.mem_cons.1 hk with
    | inl e => subst e; exact h.1
    | inr e => exact hasAny_false h.2 k e
theorem Den.purge {pk : List Nat} (h : NuLe pk ν ν') {c : C} {y : Value} (hd : Den ν w O c y) : Den ν' w O (c.purge pk) y := by
  cases pk with
  | nil => exact Den.nu h (by simp) hd
  | cons k pk =>
    simp only [C.purge]
    cases hh : c.hasAny (k :: pk) with
    | true => simp only [cond_true, Den]
    | false => exact Den.nu h (hasAny_false hh) hd
theorem DenL.purge {pk : List Nat} (h : NuLe pk ν ν') : ∀ {cs : List C} {vs : List Value}, DenL ν w O cs vs → DenL ν' w O (cs.map (C.purge pk)) vs
  | [], vs, hd => by simpa only [List.map_nil, DenL] using hd
  | c :: cs, vs, hd => by
    simp only [List.map_cons, DenL] at hd ⊢
    obtain ⟨y, ys, e, h1, h2⟩ := hd
    exact ⟨y, ys, e, Den.purge h h1, DenL.purge h h2⟩
end

/-- how an effect moves blocks and world -/
structure Mv (rs : List Res) (ν : List Value) (w : World) (pk : List Nat) (rs' : List Res) (ν' : List Value) (w' : World) : Prop where
  os : w'.os = w.os
  tape : w'.tape = w.tape
  output : w'.output = w.output
  size : w.heap.size ≤ w'.heap.size
  block : ∀ b, b < w.heap.size → ¬ owned rs ν b → w'.heap[b]? = w.heap[b]?
  own : ∀ b, owned rs' ν' b → owned rs ν b ∨ w.heap.size ≤ b
  nu : NuLe pk ν ν'

section
variable {ν ν' : List Value} {w w' : World} {rs rs' : List Res} {av own0 : Nat → Prop} {n0 : Nat} {pk : List Nat}

theorem Mv.keeps (h : Mv rs ν w pk rs' ν' w') : Keeps (OO av rs ν) w (OO av rs' ν') w' := by
  intro b hb hO
  refine ⟨Nat.lt_of_lt_of_le hb h.size, fun h' => ?_, h.block b hb fun ho => hO (.inr ho)⟩
  rcases h' with h' | h'
  · exact hO (.inl h')
  · rcases h.own b h' with h' | h'
    · exact hO (.inr h')
    · omega

theorem Mv.of_below (hb : Below w.heap.size w w') : Mv rs ν w [] rs ν w' := ⟨hb.os, hb.tape, hb.output, hb.size, fun b h _ => hb.block b h, fun b h => .inl h, fun _ _ _ h => h⟩

theorem Mv.trans {ν'' : List Value} {rs'' : List Res} {w'' : World} {pk' : List Nat} (h : Mv rs ν w pk rs' ν' w') (h' : Mv rs' ν' w' pk' rs'' ν'' w'') : Mv rs ν w (pk ++ pk') rs'' ν'' w'' := by
  refine ⟨h'.os.trans h.os, h'.tape.trans h.tape, h'.output.trans h.output, Nat.le_trans h.size h'.size, fun b hb hn => ?_, fun b hb => ?_, fun k x hk hx => ?_⟩
  · rw [h'.block b (Nat.lt_of_lt_of_le hb h.size) (fun ho => by rcases h.own b ho with h1 | h1; exact hn h1; omega)]
    exact h.block b hb hn
  · rcases h'.own b hb with h1 | h1
    · exact h.own b h1
    · exact .inr (Nat.le_trans h.size h1)
  · simp only [List.mem_append, not_or] at hk
    exact h'.nu k x hk.2 (h.nu k x hk.1 hx)

/-- what a resource says stays, where its block stays -/
theorem ResOK.mv {x : Value} {r : Res} {O O' : Nat → Prop} (h : ResOK ν w O x r) (hk : Keeps O w O' w') (hn : NuLe pk ν ν') (hb : ∀ b, fp r x b → w'.heap[b]? = w.heap[b]?) : ResOK ν' w' O' x (r.purge pk) := by
  cases r with
  | gone => trivial
  | box t cs =>
    obtain ⟨b, vs, rfl, h1, h2, h3⟩ := h
    exact ⟨b, vs, rfl, DenL.purge hn (DenL.keep hk h1), h2, (hb b rfl).trans h3⟩
  | row e sz es =>
    obtain ⟨h0, vs, h1, h2, h3⟩ := h
    refine ⟨h0, vs, FzL.keep hk h1, h2, h3.1, ?_⟩
    rcases h3.2 with h4 | ⟨g, cap, cur, rfl, hg, hh, rest⟩
    · exact .inl h4
    · exact .inr ⟨g, cap, cur, rfl, hg, (hb g (by simp only [fp, blockOf]; rw [if_neg (by omega)])).trans hh, rest⟩
  | map s es =>
    obtain ⟨b, ents, clock, rfl, h1, h2, h3⟩ := h
    exact ⟨b, ents, clock, rfl, (hb b rfl).trans h1, h2, h3⟩
theorem fp_purge (r : Res) (x : Value) (b : Nat) : fp (r.purge pk) x b = fp r x b := by cases r <;> rfl
theorem purge_nil (rs : List Res) : rs.map (Res.purge []) = rs := by
  have : ∀ r : Res, r.purge [] = r := fun r => by
    cases r with
    | box t cs => simp only [Res.purge]; congr 1; exact List.map_id' cs
    | _ => rfl
  rw [show (Res.purge [] : Res → Res) = id from funext this]; simp
theorem purgeRs_eq (pk : List Nat) (rs : List Res) : purgeRs pk rs = rs.map (Res.purge pk) := by
  cases pk with
  | nil => exact (purge_nil rs).symm
  | cons k pk => rfl

theorem RG.lt (h : RG av own0 n0 ν rs w) {k : Nat} {r : Res} {x : Value} {b : Nat} (hk : rs[k]? = some r) (hx : ν[k]? = some x) (hf : fp r x b) : b < w.heap.size := (h.low b ⟨k, r, x, hk, hx, hf⟩).1
theorem RG.get (h : RG av own0 n0 ν rs w) {k : Nat} {r : Res} {x : Value} (hk : rs[k]? = some r) (hx : ν[k]? = some x) : ResOK ν w (OO av rs ν) x r := by
  obtain ⟨x', hx', hr⟩ := h.res k r hk
  rw [hx] at hx'
  injection hx' with hx'
  subst hx'
  exact hr

/-- the world having grown -/
theorem RG.below (h : RG av own0 n0 ν rs w) (hb : Below w.heap.size w w') : RG av own0 n0 ν rs w' := by
  have hk : Keeps (OO av rs ν) w (OO av rs ν) w' := (Mv.of_below (rs := rs) (ν := ν) hb).keeps
  refine ⟨h.len, fun k r hr => ?_, h.dis, fun b ho => ?_, fun b ha => Nat.lt_of_lt_of_le (h.av b ha) hb.size, Nat.le_trans h.n0 hb.size⟩
  · obtain ⟨x, hx, hok⟩ := h.res k r hr
    refine ⟨x, hx, ?_⟩
    have := ResOK.mv (pk := []) hok hk (fun _ _ _ h => h) fun b hf => hb.block b (h.lt hr hx hf)
    have e : r.purge [] = r := by have := purge_nil [r]; simpa using this
    rwa [e] at this
  · obtain ⟨h1, h2, h3⟩ := h.low b ho
    exact ⟨Nat.lt_of_lt_of_le h1 hb.size, h2, h3⟩

/-- a new block of one's own -/
theorem RG.add (h : RG av own0 n0 ν rs w) {x : Value} {r : Res} (hb : Below w.heap.size w w') (hx : ∀ b, fp r x b → w.heap.size ≤ b ∧ b < w'.heap.size)
    (hr : (Keeps (OO av rs ν) w (OO av (rs ++ [r]) (ν ++ [x])) w') → NuLe [] ν (ν ++ [x]) → ResOK (ν ++ [x]) w' (OO av (rs ++ [r]) (ν ++ [x])) x r) :
    RG av own0 n0 (ν ++ [x]) (rs ++ [r]) w' ∧ Mv rs ν w [] (rs ++ [r]) (ν ++ [x]) w' := by
  have old : ∀ {k : Nat} {q : Res}, (rs ++ [r])[k]? = some q → (k < rs.length ∧ rs[k]? = some q) ∨ (k = rs.length ∧ q = r) := by
    intro k q hk
    rcases Nat.lt_or_ge k rs.length with hlt | hge
    · rw [List.getElem?_append_left hlt] at hk; exact .inl ⟨hlt, hk⟩
    · rw [List.getElem?_append_right hge] at hk
      have : k - rs.length = 0 := by
        rcases Nat.eq_zero_or_pos (k - rs.length) with h0 | h0
        · exact h0
        · rw [List.getElem?_eq_none (by simp; omega)] at hk; cases hk
      rw [this] at hk
      simp at hk
      exact .inr ⟨by omega, hk.symm⟩
  have vold : ∀ {k}, k < rs.length → (ν ++ [x])[k]? = ν[k]? := fun hk => List.getElem?_append_left (by rw [h.len]; exact hk)
  have vnew : (ν ++ [x])[rs.length]? = some x := by rw [← h.len]; simp
  have own : ∀ b, owned (rs ++ [r]) (ν ++ [x]) b → owned rs ν b ∨ fp r x b := by
    rintro b ⟨k, q, y, hk, hy, hf⟩
    rcases old hk with ⟨hlt, hk'⟩ | ⟨rfl, rfl⟩
    · rw [vold hlt] at hy; exact .inl ⟨k, q, y, hk', hy, hf⟩
    · rw [vnew] at hy; injection hy with hy; subst hy; exact .inr hf
  have nu : NuLe [] ν (ν ++ [x]) := fun k y _ hy => by
    rw [List.getElem?_append_left (List.getElem?_eq_some_iff.1 hy).1]; exact hy
  have mv : Mv rs ν w [] (rs ++ [r]) (ν ++ [x]) w' :=
    ⟨hb.os, hb.tape, hb.output, hb.size, fun b hlt _ => hb.block b hlt, fun b ho => (own b ho).imp id fun hf => (hx b hf).1, nu⟩
  refine ⟨⟨by simp [h.len], fun k q hk => ?_, ?_, ?_, fun b ha => Nat.lt_of_lt_of_le (h.av b ha) hb.size, Nat.le_trans h.n0 hb.size⟩, mv⟩
  · rcases old hk with ⟨hlt, hk'⟩ | ⟨rfl, rfl⟩
    · obtain ⟨y, hy, hok⟩ := h.res k q hk'
      refine ⟨y, by rw [vold hlt]; exact hy, ?_⟩
      have := ResOK.mv (pk := []) hok mv.keeps nu fun b hf => hb.block b (h.lt hk' hy hf)
      have e : q.purge [] = q := by have := purge_nil [q]; simpa using this
      rwa [e] at this
    · exact ⟨x, vnew, hr mv.keeps nu⟩
  · intro k l q q' y y' b hne hk hl hy hy' hf hf'
    rcases old hk with ⟨hlt, hk'⟩ | ⟨rfl, rfl⟩
    · rw [vold hlt] at hy
      rcases old hl with ⟨hlt', hl'⟩ | ⟨rfl, rfl⟩
      · rw [vold hlt'] at hy'
        exact h.dis k l q q' y y' b hne hk' hl' hy hy' hf hf'
      · rw [vnew] at hy'
        injection hy' with hy'
        subst hy'
        have h1 := h.lt hk' hy hf
        have h2 := (hx b hf').1
        omega
    · rw [vnew] at hy
      injection hy with hy
      subst hy
      have h2 := (hx b hf).1
      rcases old hl with ⟨hlt', hl'⟩ | ⟨rfl, rfl⟩
      · rw [vold hlt'] at hy'
        have h1 := h.lt hl' hy' hf'
        omega
      · exact absurd rfl hne
  · intro b ho
    rcases own b ho with ho | hf
    · obtain ⟨h1, h2, h3⟩ := h.low b ho
      exact ⟨Nat.lt_of_lt_of_le h1 hb.size, h2, h3⟩
    · obtain ⟨h1, h2⟩ := hx b hf
      have h3 := h.n0
      exact ⟨h2, fun ha => by have := h.av b ha; omega, .inr (by omega)⟩

/-- the world outside F being as it was -/
structure Turned (w w' : World) (F : Nat → Prop) : Prop where
  os : w'.os = w.os
  tape : w'.tape = w.tape
  output : w'.output = w.output
  size : w.heap.size ≤ w'.heap.size
  block : ∀ b, b < w.heap.size → ¬ F b → w'.heap[b]? = w.heap[b]?

/-- what one owns, written, or replaced -/
theorem RG.repl (h : RG av own0 n0 ν rs w) {k : Nat} {x x' : Value} {r r' : Res} (hk : rs[k]? = some r) (hx : ν[k]? = some x) (ht : Turned w w' (fp r x)) (hn : NuLe pk ν (ν.set k x'))
    (hf : ∀ b, fp r' x' b → fp r x b ∨ (w.heap.size ≤ b ∧ b < w'.heap.size))
    (hr : (Keeps (OO av rs ν) w (OO av (purgeRs pk (rs.set k r')) (ν.set k x')) w') → ResOK (ν.set k x') w' (OO av (purgeRs pk (rs.set k r')) (ν.set k x')) x' (r'.purge pk)) :
    RG av own0 n0 (ν.set k x') (purgeRs pk (rs.set k r')) w' ∧ Mv rs ν w pk (purgeRs pk (rs.set k r')) (ν.set k x') w' := by
  rw [purgeRs_eq] at *
  have hkl : k < ν.length := (List.getElem?_eq_some_iff.1 hx).1
  have hkr : k < rs.length := (List.getElem?_eq_some_iff.1 hk).1
  have vk : (ν.set k x')[k]? = some x' := by rw [List.getElem?_set]; simp [hkl]
  have vl : ∀ {l}, l ≠ k → (ν.set k x')[l]? = ν[l]? := fun hne => List.getElem?_set_ne (Ne.symm hne)
  have get : ∀ {l : Nat} {q : Res}, ((rs.set k r').map (Res.purge pk))[l]? = some q → (l = k ∧ q = r'.purge pk) ∨ (l ≠ k ∧ ∃ q0, rs[l]? = some q0 ∧ q = q0.purge pk) := by
    intro l q hq
    rw [List.getElem?_map, Option.map_eq_some_iff] at hq
    obtain ⟨q0, hq0, rfl⟩ := hq
    rw [List.getElem?_set] at hq0
    split at hq0
    · rename_i e
      first
        | (injection hq0 with hq0; subst hq0; exact .inl ⟨e.symm, rfl⟩)
        | (rw [if_pos (by rw [← e]; exact hkr)] at hq0; injection hq0 with hq0; subst hq0; exact .inl ⟨e.symm, rfl⟩)
    · rename_i e
      exact .inr ⟨fun e' => e e'.symm, q0, hq0, rfl⟩
  have own : ∀ b, owned ((rs.set k r').map (Res.purge pk)) (ν.set k x') b → (∃ l q y, l ≠ k ∧ rs[l]? = some q ∧ ν[l]? = some y ∧ fp q y b) ∨ fp r' x' b := by
    rintro b ⟨l, q, y, hl, hy, hfb⟩
    rcases get hl with ⟨rfl, rfl⟩ | ⟨hne, q0, hq0, rfl⟩
    · rw [vk] at hy; injection hy with hy; subst hy; rw [fp_purge] at hfb; exact .inr hfb
    · rw [vl hne] at hy; rw [fp_purge] at hfb; exact .inl ⟨l, q0, y, hne, hq0, hy, hfb⟩
  have mv : Mv rs ν w pk ((rs.set k r').map (Res.purge pk)) (ν.set k x') w' := by
    refine ⟨ht.os, ht.tape, ht.output, ht.size, fun b hb hno => ht.block b hb fun hfb => hno ⟨k, r, x, hk, hx, hfb⟩, fun b ho => ?_, hn⟩
    rcases own b ho with ⟨l, q, y, _, h1, h2, h3⟩ | hfb
    · exact .inl ⟨l, q, y, h1, h2, h3⟩
    · rcases hf b hfb with h1 | h1
      · exact .inl ⟨k, r, x, hk, hx, h1⟩
      · exact .inr h1.1
  refine ⟨⟨by simp [h.len], fun l q hq => ?_, ?_, ?_, fun b ha => Nat.lt_of_lt_of_le (h.av b ha) ht.size, Nat.le_trans h.n0 ht.size⟩, mv⟩
  · rcases get hq with ⟨rfl, rfl⟩ | ⟨hne, q0, hq0, rfl⟩
    · exact ⟨x', vk, hr mv.keeps⟩
    · obtain ⟨y, hy, hok⟩ := h.res l q0 hq0
      exact ⟨y, by rw [vl hne]; exact hy, ResOK.mv hok mv.keeps hn fun b hfb => ht.block b (h.lt hq0 hy hfb) fun hfb' => h.dis l k q0 r y x b hne hq0 hk hy hx hfb hfb'⟩
  · have half : ∀ (l : Nat) (q : Res) (y : Value) (b : Nat), l ≠ k → rs[l]? = some q → ν[l]? = some y → fp r' x' b → ¬ fp q y b := by
      intro l q y b hne hq hy hfk hfl
      rcases hf b hfk with hfk | hfk
      · exact h.dis l k q r y x b hne hq hk hy hx hfl hfk
      · have := h.lt hq hy hfl
        omega
    intro l m q q' y y' b hne hq hm hy hy' hfl hfm
    rcases get hq with ⟨rfl, rfl⟩ | ⟨hlk, q0, hq0, rfl⟩
    · rw [vk] at hy; injection hy with hy; subst hy
      rw [fp_purge] at hfl
      rcases get hm with ⟨rfl, rfl⟩ | ⟨hmk, q1, hq1, rfl⟩
      · exact absurd rfl hne
      · rw [vl hmk] at hy'; rw [fp_purge] at hfm
        exact half m q1 y' b hmk hq1 hy' hfl hfm
    · rw [vl hlk] at hy; rw [fp_purge] at hfl
      rcases get hm with ⟨rfl, rfl⟩ | ⟨hmk, q1, hq1, rfl⟩
      · rw [vk] at hy'; injection hy' with hy'; subst hy'
        rw [fp_purge] at hfm
        exact half l q0 y b hlk hq0 hy hfm hfl
      · rw [vl hmk] at hy'; rw [fp_purge] at hfm
        exact h.dis l m q0 q1 y y' b hne hq0 hq1 hy hy' hfl hfm
  · intro b ho
    rcases own b ho with ⟨l, q, y, _, h1, h2, h3⟩ | hfb
    · obtain ⟨g1, g2, g3⟩ := h.low b ⟨l, q, y, h1, h2, h3⟩
      exact ⟨Nat.lt_of_lt_of_le g1 ht.size, g2, g3⟩
    · rcases hf b hfb with h1 | h1
      · obtain ⟨g1, g2, g3⟩ := h.low b ⟨k, r, x, hk, hx, h1⟩
        exact ⟨Nat.lt_of_lt_of_le g1 ht.size, g2, g3⟩
      · have h3 := h.n0
        exact ⟨h1.2, fun ha => by have := h.av b ha; omega, .inr (by omega)⟩
end

section
variable {ν ν' : List Value} {w w' : World} {rs rs' : List Res} {av own0 : Nat → Prop} {n0 : Nat} {pk : List Nat}
theorem set_self {α : Type} {l : List α} {k : Nat} {x : α} (h : l[k]? = some x) : l.set k x = l := by
  apply List.ext_getElem?
  intro j
  rw [List.getElem?_set]
  split
  · rename_i e; subst e; split
    · exact h.symm
    · rename_i hge; rw [List.getElem?_eq_none (by omega)]
  · rfl
theorem purge_nil1 (r : Res) : r.purge [] = r := by have := purge_nil [r]; simpa using this
/-- what one owns, written in place -/
theorem RG.upd (h : RG av own0 n0 ν rs w) {k : Nat} {x : Value} {r r' : Res} (hk : rs[k]? = some r) (hx : ν[k]? = some x) (ht : Turned w w' (fp r x)) (hf : ∀ b, fp r' x b → fp r x b)
    (hr : (Keeps (OO av rs ν) w (OO av (rs.set k r') ν) w') → ResOK ν w' (OO av (rs.set k r') ν) x r') :
    RG av own0 n0 ν (rs.set k r') w' ∧ Mv rs ν w [] (rs.set k r') ν w' := by
  have := h.repl (pk := []) (x' := x) (r' := r') hk hx ht (fun l y _ hy => by rw [set_self hx]; exact hy) (fun b hb => .inl (hf b hb)) (fun hkp => by
    rw [set_self hx] at hkp ⊢
    rw [purge_nil1]
    exact hr hkp)
  rwa [set_self hx] at this
end

section
variable {E : Ctx} {ν ν' : List Value} {sf : Nat → C} {rs rs' : List Res} {a : Act} {w w' : World} {pk : List Nat}

theorem pkOK_spec : ∀ {pk : List Nat}, pkOK E pk → ∀ k ∈ pk, k ∈ E.pk0 ∨ E.nu0.length ≤ k
  | [], _, k, hk => by cases hk
  | q :: pk, h, k, hk => by
    rcases List.mem_cons.1 hk with rfl | hk
    · exact h.1.imp (fun h => by simpa using h) id
    · exact pkOK_spec h.2 k hk
theorem NuLe.step (h : NuLe E.pk0 E.nu0 ν) (hm : NuLe pk ν ν') (hp : pkOK E pk) : NuLe E.pk0 E.nu0 ν' := by
  intro k x hk hx
  refine hm k x (fun hkp => ?_) (h k x hk hx)
  rcases pkOK_spec hp k hkp with h1 | h1
  · exact hk h1
  · have := (List.getElem?_eq_some_iff.1 hx).1
    omega

/-- behind an effect -/
theorem GoodF.mv (h : GoodF E ν sf rs a w) (hr : RG E.av E.own0 E.w0.heap.size ν' rs' w') (hm : Mv rs ν w pk rs' ν' w') (hp : pkOK E pk) : GoodF E ν' (fun t => (sf t).purge pk) rs' a w' := by
  refine ⟨h.dfr, h.size, fun t => Den.purge hm.nu (Den.keep hm.keeps (h.fr t)), hr, ⟨hm.os.trans h.frm.os, hm.tape.trans h.frm.tape, hm.output.trans h.frm.output, Nat.le_trans h.frm.size hm.size, fun b hb hn => ?_⟩, h.nu.step hm.nu hp⟩
  rw [hm.block b (Nat.lt_of_lt_of_le hb h.frm.size) (fun ho => by
    rcases (h.rg.low b ho).2.2 with h1 | h1
    · exact hn h1
    · omega)]
  exact h.frm.block b hb hn

theorem GoodF.below (h : GoodF E ν sf rs a w) (hb : Below w.heap.size w w') : GoodF E ν sf rs a w' := h.mv (h.rg.below hb) (Mv.of_below hb) trivial

theorem put_get {a : Act} {N d t : Nat} {y : Value} (hs : a.tmps.size = N) (hlt : d < N) : (a.put (some d) y).tmps.getD t undef = if d = t then y else a.tmps.getD t undef := by
  by_cases e : d = t
  · subst e
    have hl : d < a.tmps.size := by rw [hs]; exact hlt
    simp [Act.put, hl]
  · simp [Act.put, Array.getElem?_setIfInBounds_ne e, e]

def sput (sf : Nat → C) (d : Option Nat) (s : C) : Nat → C := fun t => if d = some t then s else sf t
theorem GoodF.put (h : GoodF E ν sf rs a w) {d : Option Nat} (hd : dstOK E.N d = true) {s : C} {y : Value} (hs : Den ν w (OO E.av rs ν) s y) : GoodF E ν (sput sf d s) rs (a.put d y) w := by
  cases d with
  | none =>
    refine ⟨h.dfr, h.size, fun t => ?_, h.rg, h.frm, h.nu⟩
    simp only [sput]
    rw [if_neg (by intro e; cases e)]
    exact h.fr t
  | some d =>
    have hlt : d < E.N := by simpa [dstOK] using hd
    refine ⟨h.dfr, by simp [Act.put, h.size], fun t => ?_, h.rg, h.frm, h.nu⟩
    rw [put_get h.size hlt]
    simp only [sput]
    by_cases e : d = t
    · subst e; rw [if_pos rfl, if_pos rfl]; exact hs
    · rw [if_neg (fun q => e (Option.some.inj q)), if_neg e]; exact h.fr t
def putFr (fr : List (Nat × C)) (d : Option Nat) (s : C) : List (Nat × C) :=
  match d with
  | some t => (t, s) :: fr
  | none => fr
theorem slot_putFr (fr : List (Nat × C)) (d : Option Nat) (s : C) : slot (putFr fr d s) = sput (slot fr) d s := by
  funext t
  cases d with
  | none => simp [putFr, sput]
  | some d =>
    simp only [putFr, slot, sput, Option.some.injEq]
    by_cases e : d = t
    · simp [e]
    · have : (d == t) = false := by simpa using e
      simp [this, e]
end
end Go.Proofs.YtaicmkocmnikjaaDoor.Eng
