/- Control: the rules of the walk. -/
import Derived.Test.YtaicmkocmnikjaaDrw
namespace Go.Proofs.Ytaicmkocmnikjaa.Eng
set_option linter.all false
open Go Go.RowKit

inductive It where
  | code (c : IC)
  | blk (id : Nat)
  | inv (J : Act → World → Prop)

mutual
def wpS (E : Ctx) (Q : Exit → Act → World → Prop) : List It → Act → World → Prop
  | [], a, w => Q .normal a w
  | .code c :: k, a, w => ∀ code, comp E.P E.N code = some c → code.wp E.P (fun e a' w' => match e with
      | .normal => wpS E Q k a' w'
      | .exit id => exS E Q id k a' w'
      | e => Q e a' w') a w
  | .blk _ :: k, a, w => wpS E Q k a w
  | .inv J :: _, a, w => J a w
def exS (E : Ctx) (Q : Exit → Act → World → Prop) (id : Nat) : List It → Act → World → Prop
  | [], a, w => Q (.exit id) a w
  | .code _ :: k, a, w => exS E Q id k a w
  | .blk i :: k, a, w => if id = i then wpS E Q k a w else exS E Q id k a w
  | .inv _ :: k, a, w => exS E Q id k a w
end

def popTo (id : Nat) : List It → Option (List It)
  | [] => none
  | .code _ :: k => popTo id k
  | .blk i :: k => if id = i then some k else popTo id k
  | .inv _ :: k => popTo id k

/-- from every frame and world that the state fits, the rest goes through -/
def S (E : Ctx) (Q : Exit → Act → World → Prop) (st : St) (k : List It) : Prop := ∀ ν a w, Good E ν st a w → wpS E Q k a w

def Ent (E : Ctx) (st st' : St) : Prop := ∀ ν a w, Good E ν st a w → ∃ ν', Good E ν' st' a w

section
variable {E : Ctx} {Q : Exit → Act → World → Prop} {st : St} {k : List It}

theorem S.weaken {st' : St} (h : Ent E st st') (hs : S E Q st' k) : S E Q st k := fun ν a w hG => let ⟨ν', hG'⟩ := h ν a w hG; hs ν' a w hG'

theorem S.skip (h : S E Q st k) : S E Q st (.code .skip :: k) := by
  intro ν a w hG code hc
  cases code <;> simp only [comp] at hc <;> (try (repeat' split at hc) <;> cases hc; done)
  exact wp_skip (h ν a w hG)

theorem S.seq {x y : IC} (h : S E Q st (.code x :: .code y :: k)) : S E Q st (.code (.seq x y) :: k) := by
  intro ν a w hG code hc
  cases code <;> simp only [comp] at hc <;> (try (repeat' split at hc) <;> cases hc; done)
  rename_i ca cb
  split at hc
  · rename_i x' y' hx hy
    injection hc with hc
    injection hc with h1 h2
    subst h1 h2
    refine wp_seq (wp_mono (h ν a w hG ca hx) fun e a' w' hq => ?_)
    cases e with
    | normal => exact hq cb hy
    | exit id => exact hq
    | _ => exact hq
  · cases hc

theorem S.cond {c : Operand} {x y : IC} {b : Bool} (hb : opv st c = .v (.bool b)) (ht : b = true → S E Q st (.code x :: k)) (hf : b = false → S E Q st (.code y :: k)) : S E Q st (.code (.cond c x y) :: k) := by
  intro ν a w hG code hc
  cases code <;> simp only [comp] at hc <;> (try (repeat' split at hc) <;> cases hc; done)
  rename_i c' ca cb
  split at hc
  · rename_i x' y' hx hy
    injection hc with hc
    injection hc with h0 h1 h2
    subst h0 h1 h2
    have e1 := hG.opv c'
    rw [hb] at e1
    have e1 : a.eval c' = .bool b := by simpa only [Den] using e1
    exact wp_cond_split e1 (fun hbt => ht hbt ν a w hG ca hx) (fun hbf => hf hbf ν a w hG cb hy)
  · cases hc

theorem S.block {id : Nat} {x : IC} (h : S E Q st (.code x :: .blk id :: k)) : S E Q st (.code (.block id x) :: k) := by
  intro ν a w hG code hc
  cases code <;> simp only [comp] at hc <;> (try (repeat' split at hc) <;> cases hc; done)
  rename_i id' ca
  split at hc
  · rename_i x' hx
    injection hc with hc
    injection hc with h1 h2
    subst h1 h2
    refine wp_block (wp_mono (h ν a w hG ca hx) fun e a' w' hq => ?_)
    cases e with
    | normal => exact hq
    | exit i =>
      simp only [exS] at hq
      simp only [Exit.inBlock]
      split
      · rename_i e; rw [if_pos e] at hq; exact hq
      · rename_i e; rw [if_neg e] at hq; exact hq
    | _ => exact hq
  · cases hc

theorem S.blk {id : Nat} (h : S E Q st k) : S E Q st (.blk id :: k) := fun ν a w hG => h ν a w hG

theorem popTo_exS {id : Nat} : ∀ {k k' : List It}, popTo id k = some k' → ∀ a w, wpS E Q k' a w → exS E Q id k a w
  | [], _, h, _, _, _ => by cases h
  | .code _ :: k, k', h, a, w, hq => by simp only [exS]; exact popTo_exS (k := k) (by simpa only [popTo] using h) a w hq
  | .blk i :: k, k', h, a, w, hq => by
    simp only [popTo] at h
    simp only [exS]
    split
    · rename_i e; rw [if_pos e] at h; injection h with h; subst h; exact hq
    · rename_i e; rw [if_neg e] at h; exact popTo_exS (k := k) h a w hq
  | .inv _ :: k, k', h, a, w, hq => by simp only [exS]; exact popTo_exS (k := k) (by simpa only [popTo] using h) a w hq

theorem S.exit {id : Nat} {k' : List It} (hk : popTo id k = some k') (h : S E Q st k') : S E Q st (.code (.exit id) :: k) := by
  intro ν a w hG code hc
  cases code <;> simp only [comp] at hc <;> (try (repeat' split at hc) <;> cases hc; done)
  injection hc with hc
  injection hc with h1
  subst h1
  exact wp_exit (popTo_exS hk a w (h ν a w hG))

theorem S.ret (h : ∀ ν a w, Good E ν st a w → Q .ret a w) : S E Q st (.code .ret :: k) := by
  intro ν a w hG code hc
  cases code <;> simp only [comp] at hc <;> (try (repeat' split at hc) <;> cases hc; done)
  exact wp_ret (h ν a w hG)

theorem S.nil (h : ∀ ν a w, Good E ν st a w → Q .normal a w) : S E Q st [] := h

theorem S.inv {J : Act → World → Prop} (h : ∀ ν a w, Good E ν st a w → J a w) : S E Q st (.inv J :: k) := h

theorem S.reg {ops : List IOper} (h : ev E ops st fun st' => S E Q st' k) : S E Q st (.code (.reg false ops) :: k) := by
  intro ν a w hG code hc
  cases code <;> simp only [comp] at hc <;> (try (repeat' split at hc) <;> cases hc; done)
  rename_i id cops draw
  split at hc
  · cases hc
  · split at hc
    · rename_i l hl
      injection hc with hc
      injection hc with h1 h2
      subst h1 h2
      exact wp_region_list (ev_sound rfl (fun st' ν' a' w' hk hG' => hk ν' a' w' hG') cops.toList l st ν a w hl h hG)
    · cases hc

theorem S.regD {ops : List IOper} (h : evD E ops st.clr fun st' => S E Q st' k) : S E Q st (.code (.reg true ops) :: k) := by
  intro ν a w hG code hc
  cases code <;> simp only [comp] at hc <;> (try (repeat' split at hc) <;> cases hc; done)
  rename_i id cops draw
  split at hc
  · cases hc
  · rename_i hok
    split at hc
    · rename_i l hl
      injection hc with hc
      injection hc with h1 h2
      subst h1 h2
      have hok' : (E.P.follows .mixedOrders && Region.lexB .any cops) = true := by
        cases hb : (E.P.follows .mixedOrders && Region.lexB .any cops) with
        | true => rfl
        | false => rw [hb] at hok; exact absurd rfl hok
      rw [Bool.and_eq_true] at hok'
      have hG' : Good E ν st.clr a w.drew := (hG.below_ (Below.refl _ _).drew).clr
      have hns : ∀ (o : Oper) cs b, o ∈ cops.toList → o.op ≠ .select cs b := fun o cs b ho => by
        have hB := hok'.2
        simp only [Region.lexB, Bool.and_eq_true] at hB
        obtain ⟨i, hi⟩ := List.mem_iff_getElem?.1 ho
        exact Region.noSelect_spec hB.1 i o cs b (by simpa using hi)
      have hdd : ∀ (l : List Oper) (il : List IOper), compOps E.P E.N cops l = some il → ∀ o ∈ l, dstOK E.N o.dst = true := by
        intro l
        induction l with
        | nil => intro _ _ o ho; cases ho
        | cons x l ih =>
          intro il h o ho
          simp only [compOps] at h
          split at h
          · rename_i io ir hio hir
            rcases List.mem_cons.1 ho with rfl | ho
            · exact (compOper_spec hio).1
            · exact ih ir hir o ho
          · cases h
      have hq := evD_sound (ν := ν) (w := w.drew) (ops := cops) (Q := fun e a' w' => match e with
        | .normal => wpS E Q k a' w'
        | .exit id => exS E Q id k a' w'
        | e => Q e a' w') rfl hns (fun st' a' w' hk hG => hk ν a' w' hG) cops.toList l st.clr a (fun o ho => ho) hl h hG'
      exact wp_region_lex hok'.1 hok'.2 (fun w1 w2 h1 h2 => h1.trans (h2.mono h1.size)) (fun i o ho => hdd _ _ hl o (List.mem_of_getElem? (by simpa using ho))) (envOf_stab ν st.clr.sl w.drew.heap.size st.clr.fr)
        (Below.refl _ _) hG'.dfr hG'.size (fun t => ⟨hG'.fr t, by rw [show slot st.clr.fr t = _ from slot_clr _ _]; exact fresh_noFs _ _ _ _⟩) hq
    · cases hc

/-- a loop: what holds at every round's head -/
theorem S.loop {body : IC} {X : Type} (stI : X → St) (pre : X → Prop) (m : X → Nat) (x0 : X) (h0 : pre x0) (hi : Ent E st (stI x0))
    (round : ∀ x, pre x → S E Q (stI x) (.code body :: .inv (fun a w => ∃ x' ν', pre x' ∧ m x' < m x ∧ Good E ν' (stI x') a w) :: k)) : S E Q st (.code (.loop body) :: k) := by
  intro ν a w hG code hc
  cases code <;> simp only [comp] at hc <;> (try (repeat' split at hc) <;> cases hc; done)
  rename_i cb
  split at hc
  · rename_i x' hx
    injection hc with hc
    injection hc with h1
    subst h1
    obtain ⟨ν', hG'⟩ := hi ν a w hG
    refine wp_loop_ghost (fun n a w => ∃ x ν, m x = n ∧ pre x ∧ Good E ν (stI x) a w) (m x0) ⟨x0, ν', rfl, h0, hG'⟩ ?_
    rintro n a w ⟨x, ν, rfl, hp, hGx⟩
    refine wp_mono (round x hp ν a w hGx cb hx) fun e a' w' hq => ?_
    cases e with
    | normal =>
      simp only [wpS] at hq
      obtain ⟨x', ν', hp', hlt, hG'⟩ := hq
      exact ⟨m x', hlt, x', ν', rfl, hp', hG'⟩
    | exit id => exact hq
    | _ => exact hq
  · cases hc

/-- the end of a round -/
theorem S.next {X : Type} {stI : X → St} {pre : X → Prop} {m : X → Nat} {x : X} (x' : X) (hp : pre x') (hm : m x' < m x) (h : Ent E st (stI x')) :
    S E Q st (.inv (fun a w => ∃ x' ν', pre x' ∧ m x' < m x ∧ Good E ν' (stI x') a w) :: k) := by
  intro ν a w hG
  obtain ⟨ν', hG'⟩ := h ν a w hG
  exact ⟨x', ν', hp, hm, hG'⟩
end

/-! ## A weaker state -/
mutual
def SV.bd (n m : Nat) : SV → Bool
  | .rv l => decide (l < n)
  | .rp l _ => decide (l < n)
  | .bp l _ => decide (l < n)
  | .sl j => decide (j < m)
  | .ep j _ _ => decide (j < m)
  | .agg cs => SV.bdL n m cs
  | .tup cs => SV.bdL n m cs
  | .g _ x => SV.bd n m x
  | .clo _ cs => SV.bdL n m cs
  | _ => true
def SV.bdL (n m : Nat) : List SV → Bool
  | [] => true
  | c :: cs => SV.bd n m c && SV.bdL n m cs
end

theorem bdL_vs (n m : Nat) (l : List Value) : SV.bdL n m (l.map .v) = true := by
  induction l with
  | nil => rfl
  | cons x l ih => simp [SV.bdL, SV.bd, ih]

theorem take_get {α : Type} {l : List α} {n k : Nat} {x : α} (hk : k < n) (h : l[k]? = some x) : (l.take n)[k]? = some x := by
  rw [List.getElem?_take, if_pos hk]; exact h

mutual
theorem den_take {ν : List Value} {sl : List Sli} (n m : Nat) : ∀ {s : SV} {y : Value}, s.bd n m = true → Den ν sl s y → Den (ν.take n) (sl.take m) s y
  | .v _, y, _, h => by simpa only [Den] using h
  | .agg cs, y, hb, h => by
    simp only [Den, SV.bd] at h hb ⊢
    obtain ⟨vs, h1, h2⟩ := h
    exact ⟨vs, denL_take n m hb h1, h2⟩
  | .tup cs, y, hb, h => by
    simp only [Den, SV.bd] at h hb ⊢
    obtain ⟨vs, h1, h2⟩ := h
    exact ⟨vs, denL_take n m hb h1, h2⟩
  | .bp l off, y, hb, h => by
    simp only [Den, SV.bd, decide_eq_true_eq] at h hb ⊢
    obtain ⟨b, h1, h2⟩ := h
    exact ⟨b, take_get hb h1, h2⟩
  | .rv l, y, hb, h => by
    simp only [Den, SV.bd, decide_eq_true_eq] at h hb ⊢
    exact take_get hb h
  | .rp l off, y, hb, h => by
    simp only [Den, SV.bd, decide_eq_true_eq] at h hb ⊢
    obtain ⟨b, n', c, h1, h2⟩ := h
    exact ⟨b, n', c, take_get hb h1, h2⟩
  | .sl j, y, hb, h => by
    simp only [Den, SV.bd, decide_eq_true_eq] at h hb ⊢
    obtain ⟨s, h1, h2⟩ := h
    exact ⟨s, take_get hb h1, h2⟩
  | .ep j i off, y, hb, h => by
    simp only [Den, SV.bd, decide_eq_true_eq] at h hb ⊢
    obtain ⟨s, A, c, h1, h2⟩ := h
    exact ⟨s, A, c, take_get hb h1, h2⟩
  | .g p s, y, hb, h => by
    simp only [Den, SV.bd] at h hb ⊢
    exact ⟨fun hp => den_take n m hb (h.1 hp), h.2⟩
  | .clo f cs, y, hb, h => by
    simp only [Den, SV.bd] at h hb ⊢
    obtain ⟨vs, h1, h2⟩ := h
    exact ⟨vs, denL_take n m hb h1, h2⟩
  | .fs _ _ _, y, _, _ => by simp only [Den]
  | .junk, y, _, _ => by simp only [Den]
theorem denL_take {ν : List Value} {sl : List Sli} (n m : Nat) : ∀ {cs : List SV} {vs : List Value}, SV.bdL n m cs = true → DenL ν sl cs vs → DenL (ν.take n) (sl.take m) cs vs
  | [], vs, _, h => by simpa only [DenL] using h
  | c :: cs, vs, hb, h => by
    simp only [DenL, SV.bdL, Bool.and_eq_true] at h hb ⊢
    obtain ⟨y, ys, e, h1, h2⟩ := h
    exact ⟨y, ys, e, den_take n m hb.1 h1, denL_take n m hb.2 h2⟩
end

/-- each slot of the weaker frame reads as in the stronger one -/
def frOK (fr : List (Nat × SV)) (n m : Nat) : List (Nat × SV) → Prop
  | [] => True
  | (t, s) :: r => slot fr t = s ∧ s.bd n m = true ∧ frOK fr n m r
def Res.bd (n m : Nat) : Res → Bool
  | .gone => true
  | .box _ cs => SV.bdL n m cs
  | .row _ _ _ xs => SV.bdL n m xs
  | .obj _ => true
/-- the weaker list of blocks: each as it is, or gone; what lies behind is left out -/
def rsOK (n m : Nat) : List Res → List Res → Prop
  | [], _ => True
  | _ :: _, [] => False
  | r' :: rs', r :: rs => (r' = .gone ∨ (r' = r ∧ r.bd n m = true)) ∧ rsOK n m rs' rs

theorem bdL_append (n m : Nat) : ∀ (l k : List SV), SV.bdL n m (l ++ k) = (SV.bdL n m l && SV.bdL n m k)
  | [], k => by simp [SV.bdL]
  | c :: l, k => by simp [SV.bdL, bdL_append n m l k, Bool.and_assoc]
theorem frOK_cons {fr r : List (Nat × SV)} {n m t : Nat} {s : SV} (h : slot fr t = s) (hb : s.bd n m = true) (hr : frOK fr n m r) : frOK fr n m ((t, s) :: r) := ⟨h, hb, hr⟩
theorem rsOK_cons {n m : Nat} {r r' : Res} {rs rs' : List Res} (h : r' = r) (hb : r'.bd n m = true) (hr : rsOK n m rs' rs) : rsOK n m (r' :: rs') (r :: rs) := ⟨.inr ⟨h, by rw [← h]; exact hb⟩, hr⟩
theorem rsOK_gone {n m : Nat} {r : Res} {rs rs' : List Res} (hr : rsOK n m rs' rs) : rsOK n m (.gone :: rs') (r :: rs) := ⟨.inl rfl, hr⟩
theorem row_bd (n m : Nat) {e : TypeId} {sz k : Nat} {l : List Value} : (Res.row e sz k (l.map .v)).bd n m = true := bdL_vs n m l
theorem row_eq {e : TypeId} {sz k k' : Nat} {l l' : List SV} (hk : k = k') (hl : l = l') : Res.row e sz k l = Res.row e sz k' l' := by rw [hk, hl]
theorem rsOK_get {n m : Nat} : ∀ {rs' rs : List Res} {k : Nat} {r' : Res}, rsOK n m rs' rs → rs'[k]? = some r' → ∃ r, rs[k]? = some r ∧ (r' = .gone ∨ (r' = r ∧ r.bd n m = true))
  | [], _, k, r', _, h => by simp at h
  | _ :: _, [], _, _, h, _ => h.elim
  | r0 :: rs', r :: rs, 0, r', h, hk => by
    simp at hk
    subst hk
    exact ⟨r, rfl, h.1⟩
  | r0 :: rs', r :: rs, k + 1, r', h, hk => by
    obtain ⟨q, h1, h2⟩ := rsOK_get (k := k) h.2 (by simpa using hk)
    exact ⟨q, by simpa using h1, h2⟩
theorem rsOK_len {n m : Nat} : ∀ {rs' rs : List Res}, rsOK n m rs' rs → rs'.length ≤ rs.length
  | [], _, _ => by simp
  | _ :: _, [], h => h.elim
  | _ :: rs', _ :: rs, h => by simpa using rsOK_len h.2

theorem resOK_take {B : Nat} {ν : List Value} {sl : List Sli} {w : World} {y : Value} {r : Res} (n m : Nat) (hb : r.bd n m = true) (h : ResOK B ν sl w y r) : ResOK B (ν.take n) (sl.take m) w y r := by
  cases r with
  | gone => trivial
  | box t cs => obtain ⟨b, vs, h1, h2, h3, h4⟩ := h; exact ⟨b, vs, h1, h2, denL_take n m hb h3, h4⟩
  | row e sz k xs => obtain ⟨vs, h1, h2⟩ := h; exact ⟨vs, denL_take n m hb h1, h2⟩
  | obj o => exact h

theorem frOK_look {fr : List (Nat × SV)} {n m : Nat} : ∀ {fr' : List (Nat × SV)} (t : Nat), frOK fr n m fr' → (slot fr' t = .junk ∨ (slot fr' t = slot fr t ∧ (slot fr t).bd n m = true))
  | [], t, _ => .inl rfl
  | (t', s) :: r, t, h => by
    simp only [slot]
    cases hb : (t' == t) with
    | true =>
      have : t' = t := by simpa using hb
      subst this
      refine .inr ⟨h.1.symm, ?_⟩
      rw [h.1]
      exact h.2.1
    | false => exact frOK_look t h.2.2

def slQ (q : Nat) : List Sli → Prop
  | [] => True
  | s :: r => s.q < q ∧ slQ q r
theorem slQ_mem {q : Nat} : ∀ {l : List Sli}, slQ q l → ∀ s ∈ l, s.q < q
  | [], _, s, hs => by cases hs
  | x :: l, h, s, hs => by
    cases List.mem_cons.1 hs with
    | inl e => subst e; exact h.1
    | inr e => exact slQ_mem h.2 s e

theorem Ent.mk {E : Ctx} {st : St} (fr' : List (Nat × SV)) (rs' : List Res) (m q : Nat) (h1 : frOK st.fr rs'.length m fr') (h2 : rsOK rs'.length m rs' st.rs) (h3 : slQ q (st.sl.take m)) (h4 : E.fx.isSome = true → 0 < rs'.length) :
    Ent E st ⟨fr', rs', st.sl.take m, st.sn.take q⟩ := by
  intro ν a w hG
  have hlen := rsOK_len h2
  refine ⟨ν.take rs'.length, hG.dfr, hG.size, fun t => ?_, ?_, fun x hx => take_get (h4 (by rw [hx]; rfl)) (hG.fx x hx), ?_, ?_, hG.below, hG.hB, fun s hs => hG.sn s (List.mem_of_mem_take hs), ?_, fun s hs => ?_⟩
  · rcases frOK_look t h1 with h | ⟨h, hb⟩
    · show Den _ _ (slot fr' t) _
      rw [h]; simp [Den]
    · show Den _ _ (slot fr' t) _
      rw [h]; exact den_take _ _ hb (hG.fr t)
  · simp only [List.length_take, hG.len]
    omega
  · intro k r hk
    obtain ⟨r0, hr0, h⟩ := rsOK_get h2 hk
    have hlt : k < rs'.length := (List.getElem?_eq_some_iff.1 hk).1
    obtain ⟨x, hx, hxr⟩ := hG.res k r0 hr0
    refine ⟨x, take_get hlt hx, ?_⟩
    rcases h with rfl | ⟨rfl, hb⟩
    · trivial
    · exact resOK_take _ _ hb hxr
  · intro k l r r' x x' b hne hk hl hx hx' hf hf'
    obtain ⟨r0, hr0, h⟩ := rsOK_get h2 hk
    obtain ⟨r0', hr0', h'⟩ := rsOK_get h2 hl
    have hltk : k < rs'.length := (List.getElem?_eq_some_iff.1 hk).1
    have hltl : l < rs'.length := (List.getElem?_eq_some_iff.1 hl).1
    rcases h with rfl | ⟨rfl, _⟩
    · exact hf.elim
    rcases h' with rfl | ⟨rfl, _⟩
    · exact hf'.elim
    rw [List.getElem?_take, if_pos hltk] at hx
    rw [List.getElem?_take, if_pos hltl] at hx'
    exact hG.dis k l r r' x x' b hne hr0 hr0' hx hx' hf hf'
  · intro s hs k r x b hk hx hf
    obtain ⟨r0, hr0, h⟩ := rsOK_get h2 hk
    have hltk : k < rs'.length := (List.getElem?_eq_some_iff.1 hk).1
    rcases h with rfl | ⟨rfl, _⟩
    · exact hf.elim
    rw [List.getElem?_take, if_pos hltk] at hx
    exact hG.snd s (List.mem_of_mem_take hs) k r x b hr0 hx hf
  · obtain ⟨q0, hq0, hok⟩ := hG.sls s (List.mem_of_mem_take hs)
    exact ⟨q0, take_get (slQ_mem h3 s hs) hq0, hok⟩

/-! ## A function -/
def frOf : Nat → List SV → List (Nat × SV)
  | _, [] => []
  | n, s :: r => (n, s) :: frOf (n + 1) r

theorem frOf_look : ∀ (n : Nat) (svs : List SV) (t : Nat), slot (frOf n svs) t = if t < n then .junk else (svs[t - n]?).getD .junk
  | n, [], t => by simp [frOf, slot]
  | n, s :: r, t => by
    simp only [frOf, slot]
    by_cases h : n = t
    · subst h; simp
    · have : (n == t) = false := by simpa using h
      rw [this]
      simp only [cond_false]
      rw [frOf_look (n + 1) r t]
      by_cases h2 : t < n
      · rw [if_pos (by omega), if_pos h2]
      · rw [if_neg (by omega), if_neg h2]
        have : t - n = (t - (n + 1)) + 1 := by omega
        rw [this]
        rfl

def retV (rs : List Nat) (tmps : Array Value) : Value :=
  match rs with
  | [t] => tmps.getD t undef
  | l => .tuple (l.map fun t => tmps.getD t undef).toArray

theorem resTmps_run {P : Program} {fn : Func} {rs : List Nat} (h : resTmps fn.results.toList = some rs) (tmps : Array Value) (w : World) :
    (results fn tmps).run P w = .ok (retV rs tmps) w := by
  have key : ∀ (g : ResultVar → Sem Value), (∀ t, g (.tmp t) = pure (tmps.getD t undef)) → ∀ (l : List ResultVar) (rs : List Nat), resTmps l = some rs → (l.mapM g).run P w = .ok (rs.map fun t => tmps.getD t undef) w := by
    intro g hg l
    induction l with
    | nil => intro rs h; simp only [resTmps, Option.some.injEq] at h; subst h; simp
    | cons r l ih =>
      intro rs h
      cases r with
      | tmp t =>
        simp only [resTmps] at h
        split at h
        · rename_i l' hl'
          injection h with h
          subst h
          have := ih l' hl'
          simp only [List.mapM_cons, Sem.run_bind, hg, Sem.run_pure, Result.andThen_ok, List.map_cons] at this ⊢
          rw [this]
          rfl
        · cases h
      | cell a t => simp [resTmps] at h
  unfold results
  rw [Array.mapM_eq_mapM_toList, Sem.run_bind, Sem.run_map, key _ (fun t => rfl) _ _ h]
  simp only [Result.andThen_ok, Sem.run_pure]
  congr 1
  match rs with
  | [] => rfl
  | [t] => rfl
  | a :: b :: l => simp [retV]

/-- what is asked where the function returns -/
def RetOK (E : Ctx) (st : St) (rs : List Nat) (R : Ending → World → Prop) : Prop := ∀ ν a w, Good E ν st a w → R (.returned (retV rs a.tmps)) w

/-- the function's own end -/
def Fin (rs : List Nat) (R : Ending → World → Prop) : Exit → Act → World → Prop
  | .normal, a, w => a.defers = [] ∧ R (.returned (retV rs a.tmps)) w
  | .ret, a, w => a.defers = [] ∧ R (.returned (retV rs a.tmps)) w
  | _, _, _ => False

theorem S.done {E : Ctx} {st : St} {k : List It} {rs : List Nat} {R : Ending → World → Prop} (h : RetOK E st rs R) : S E (Fin rs R) st (.code .ret :: k) :=
  S.ret fun ν a w hG => ⟨hG.dfr, h ν a w hG⟩
theorem S.end_ {E : Ctx} {st : St} {rs : List Nat} {R : Ending → World → Prop} (h : RetOK E st rs R) : S E (Fin rs R) st [] :=
  S.nil fun ν a w hG => ⟨hG.dfr, h ν a w hG⟩

theorem enter {P : Program} {f : Nat} {fn : Func} {ir : IFun} {args : List Value} {w : World} {R : Ending → World → Prop} (hf : P.funcs[f]? = some fn) (hc : compF P fn = some ir)
    (svs : List SV) (sl : List Sli) (hargs : DenL [] sl svs args) (hn : args.length ≤ ir.ntmps) (hsl : ∀ s ∈ sl, s.q = 0 ∧ SliOK w (· < w.heap.size) s)
    (h : S ⟨P, ir.ntmps, w.heap.size, w, none⟩ (Fin ir.results R) ⟨frOf 0 svs, [], sl, [⟨(· < w.heap.size), w⟩]⟩ [.code ir.body]) : Calls P f args.toArray w R := by
  unfold compF at hc
  split at hc
  · rename_i c rs hb hrs
    split at hc
    · rename_i ic hic
      injection hc with hc
      subst hc
      refine calls_of_wp hf hb ?_
      have hG : Good ⟨P, fn.ntmps, w.heap.size, w, none⟩ [] ⟨frOf 0 svs, [], sl, [⟨(· < w.heap.size), w⟩]⟩ { tmps := args.toArray ++ Array.replicate (fn.ntmps - args.toArray.size) undef, defers := [] } w := by
        refine ⟨rfl, ?_, fun t => ?_, rfl, (fun x hx => by cases hx), fun k r hk => by simp at hk, fun k l r r' x x' b _ hk => by simp at hk, Below.refl _ _, Nat.le_refl _, ?_, fun s hs k r x b hk => by simp at hk, fun s hs => ?_⟩
        · simp
          simp at hn
          omega
        · show Den [] sl (slot (frOf 0 svs) t) _
          rw [frOf_look]
          simp only [Nat.not_lt_zero, if_false, Nat.sub_zero]
          cases hs : svs[t]? with
          | none => simp [Den]
          | some s =>
            obtain ⟨y, hy, hd⟩ := hargs.get hs
            have hlt : t < args.length := (List.getElem?_eq_some_iff.1 hy).1
            have : (args.toArray ++ Array.replicate (fn.ntmps - args.toArray.size) undef).getD t undef = y := by
              rw [Array.getD_eq_getD_getElem?, Array.getElem?_append_left (by simpa using hlt)]
              simp [hy]
            rw [this]
            exact hd
        · intro s hs
          simp at hs
          subst hs
          exact fun b hb => ⟨hb, rfl⟩
        · obtain ⟨h1, h2⟩ := hsl s hs
          exact ⟨_, by rw [h1]; rfl, h2⟩
      refine wp_mono (h [] _ w hG c hic) fun e a' w' hq => ?_
      have fin : ∀ (a' : Act) (w' : World), a'.defers = [] ∧ R (.returned (retV rs a'.tmps)) w' → a'.defers = [] ∧ ∃ v, (results fn a'.tmps).run P w' = .ok v w' ∧ R (.returned v) w' := by
        intro a' w' ⟨h1, h2⟩
        exact ⟨h1, _, resTmps_run hrs a'.tmps w', h2⟩
      cases e with
      | normal => exact fin a' w' hq
      | ret => exact fin a' w' hq
      | exit id => simp only [exS, Fin] at hq
      | goto l => simp only [Fin] at hq
      | panic c => simp only [Fin] at hq
      | outgrown => simp only [Fin] at hq
    · cases hc
  · cases hc
end Go.Proofs.Ytaicmkocmnikjaa.Eng
