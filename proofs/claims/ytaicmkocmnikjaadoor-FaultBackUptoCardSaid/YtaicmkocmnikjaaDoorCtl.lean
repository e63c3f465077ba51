/- Control: the rules of the walk. -/
import Derived.Test.YtaicmkocmnikjaaDoorDrv
namespace Go.Proofs.YtaicmkocmnikjaaDoor.Eng
set_option linter.all false
open Go Go.RowKit

/-- what stands behind a form -/
theorem comp_inv {eff : Nat → Bool} {P : Program} {N : Nat} {code : Code} {ic : IC} (h : comp eff P N code = some ic) : match (generalizing := false) ic with
    | .skip => code = .skip
    | .reg l => ∃ id ops, code = .region id ops false ∧ compOps P N ops ops.toList = some l
    | .regd tg l => ∃ id ops, code = .region id ops true ∧ P.follows .mixedOrders = true ∧ chkD ops (tagsOf eff ops.toList) = true ∧ tg = tagsOf eff ops.toList ∧ compOps P N ops ops.toList = some l
    | .seq x y => ∃ a b, code = .seq a b ∧ comp eff P N a = some x ∧ comp eff P N b = some y
    | .cond c x y => ∃ a b, code = .cond c a b ∧ comp eff P N a = some x ∧ comp eff P N b = some y
    | .block id x => ∃ a, code = .block id a ∧ comp eff P N a = some x
    | .loop x => ∃ a, code = .loop a ∧ comp eff P N a = some x
    | .exit id => code = .exit id
    | .ret => code = .ret := by
  unfold comp at h
  split at h <;> (try (repeat' split at h)) <;> (try cases h)
  all_goals first
    | exact rfl
    | exact ⟨_, _, rfl, by assumption, by assumption⟩
    | exact ⟨_, _, rfl, by assumption⟩
    | exact ⟨_, rfl, by assumption⟩
    | (rename_i hh _ _ _; rw [Bool.and_eq_true] at hh; exact ⟨_, _, rfl, hh.1, hh.2, rfl, by assumption⟩)

inductive It where
  | code (c : IC)
  | blk (id : Nat)
  | inv (J : Act → World → Prop)

mutual
def wpS (E : Ctx) (Q : Exit → Act → World → Prop) : List It → Act → World → Prop
  | [], a, w => Q .normal a w
  | .code c :: k, a, w => ∀ code, comp E.eff E.P E.N code = some c → code.wp E.P (fun e a' w' => match e with
      | .normal => wpS E Q k a' w'
      | .exit id => exS E Q id k a' w'
      | e => Q e a' w') a w
  | .blk _ :: k, a, w => wpS E Q k a w
  | .inv J :: _, a, w => J a w
def exS (E : Ctx) (Q : Exit → Act → World → Prop) (id : Nat) : List It → Act → World → Prop
  | [], a, w => Q (.exit id) a w
  | .code _ :: k, a, w => exS E Q id k a w
  | .blk i :: k, a, w => if id = i then wpS E Q k a w else exS E Q id k a w
  | .inv _ :: k, a, w => exS E Q id k a w
end

def popTo (id : Nat) : List It → Option (List It)
  | [] => none
  | .code _ :: k => popTo id k
  | .blk i :: k => if id = i then some k else popTo id k
  | .inv _ :: k => popTo id k

/-- from every frame and world that the state fits, the rest goes through -/
def Wf (E : Ctx) : Prop := ∀ b, E.av b → b < E.w0.heap.size
def S (E : Ctx) (Q : Exit → Act → World → Prop) (st : St) (k : List It) : Prop := Wf E → ∀ ν a w, Good E ν st a w → wpS E Q k a w

def Ent (E : Ctx) (st st' : St) : Prop := Wf E → ∀ ν a w, Good E ν st a w → ∃ ν', Good E ν' st' a w

section
variable {E : Ctx} {Q : Exit → Act → World → Prop} {st : St} {k : List It}

theorem S.weaken {st' : St} (h : Ent E st st') (hs : S E Q st' k) : S E Q st k := fun wf ν a w hG => let ⟨ν', hG'⟩ := h wf ν a w hG; hs wf ν' a w hG'

theorem S.skip (h : S E Q st k) : S E Q st (.code .skip :: k) := by
  intro wf ν a w hG code hc
  have hc := comp_inv hc
  simp only at hc
  subst hc
  exact wp_skip (h wf ν a w hG)

theorem S.seq {x y : IC} (h : S E Q st (.code x :: .code y :: k)) : S E Q st (.code (.seq x y) :: k) := by
  intro wf ν a w hG code hc
  obtain ⟨ca, cb, rfl, hx, hy⟩ := comp_inv hc
  refine wp_seq (wp_mono (h wf ν a w hG ca hx) fun e a' w' hq => ?_)
  cases e with
  | normal => exact hq cb hy
  | exit id => exact hq
  | _ => exact hq

theorem S.cond {c : Operand} {x y : IC} {b : Bool} (hb : opv st.fr c = .v (.bool b)) (ht : b = true → S E Q st (.code x :: k)) (hf : b = false → S E Q st (.code y :: k)) : S E Q st (.code (.cond c x y) :: k) := by
  intro wf ν a w hG code hc
  obtain ⟨ca, cb, rfl, hx, hy⟩ := comp_inv hc
  have e1 := good_opv hG c
  rw [hb] at e1
  have e1 : a.eval c = .bool b := by simpa only [Den] using e1
  exact wp_cond_split e1 (fun hbt => ht hbt wf ν a w hG ca hx) (fun hbf => hf hbf wf ν a w hG cb hy)

/-- a value of which something is known, from now on fixed -/
theorem S.split (t : Nat) {Sx : Value → Prop} (ht : slot st.fr t = .any Sx) (h : ∀ y, Sx y → S E Q ⟨(t, .v y) :: st.fr, st.rs⟩ k) : S E Q st k := by
  intro wf ν a w hG
  have hd := hG.fr t
  rw [ht] at hd
  simp only [Den] at hd
  refine h _ hd wf ν a w ⟨hG.dfr, hG.size, fun t' => ?_, hG.rg, hG.frm, hG.nu⟩
  simp only [slot]
  cases hb : (t == t') with
  | true =>
    have : t = t' := by simpa using hb
    subst this
    simp [Den]
  | false => exact hG.fr t'

theorem S.block {id : Nat} {x : IC} (h : S E Q st (.code x :: .blk id :: k)) : S E Q st (.code (.block id x) :: k) := by
  intro wf ν a w hG code hc
  obtain ⟨ca, rfl, hx⟩ := comp_inv hc
  refine wp_block (wp_mono (h wf ν a w hG ca hx) fun e a' w' hq => ?_)
  cases e with
  | normal => exact hq
  | exit i =>
    simp only [exS] at hq
    simp only [Exit.inBlock]
    split
    · rename_i e; rw [if_pos e] at hq; exact hq
    · rename_i e; rw [if_neg e] at hq; exact hq
  | _ => exact hq

theorem S.blk {id : Nat} (h : S E Q st k) : S E Q st (.blk id :: k) := fun wf ν a w hG => h wf ν a w hG

theorem popTo_exS {id : Nat} : ∀ {k k' : List It}, popTo id k = some k' → ∀ a w, wpS E Q k' a w → exS E Q id k a w
  | [], _, h, _, _, _ => by cases h
  | .code _ :: k, k', h, a, w, hq => by simp only [exS]; exact popTo_exS (k := k) (by simpa only [popTo] using h) a w hq
  | .blk i :: k, k', h, a, w, hq => by
    simp only [popTo] at h
    simp only [exS]
    split
    · rename_i e; rw [if_pos e] at h; injection h with h; subst h; exact hq
    · rename_i e; rw [if_neg e] at h; exact popTo_exS (k := k) h a w hq
  | .inv _ :: k, k', h, a, w, hq => by simp only [exS]; exact popTo_exS (k := k) (by simpa only [popTo] using h) a w hq

theorem S.exit {id : Nat} {k' : List It} (hk : popTo id k = some k') (h : S E Q st k') : S E Q st (.code (.exit id) :: k) := by
  intro wf ν a w hG code hc
  have hc := comp_inv hc
  simp only at hc
  subst hc
  exact wp_exit (popTo_exS hk a w (h wf ν a w hG))

theorem S.ret (h : Wf E → ∀ ν a w, Good E ν st a w → Q .ret a w) : S E Q st (.code .ret :: k) := by
  intro wf ν a w hG code hc
  have hc := comp_inv hc
  simp only at hc
  subst hc
  exact wp_ret (h wf ν a w hG)

theorem S.nil (h : Wf E → ∀ ν a w, Good E ν st a w → Q .normal a w) : S E Q st [] := h

theorem S.inv {J : Act → World → Prop} (h : Wf E → ∀ ν a w, Good E ν st a w → J a w) : S E Q st (.inv J :: k) := h

theorem S.reg {ops : List IOper} (h : ev E ops st fun st' => S E Q st' k) : S E Q st (.code (.reg ops) :: k) := by
  intro wf ν a w hG code hc
  obtain ⟨id, cops, rfl, hl⟩ := comp_inv hc
  exact wp_region_list (ev_sound rfl (fun st' ν' a' w' hk hG' => hk wf ν' a' w' hG') cops.toList _ st ν a w hl h hG)

theorem S.regd {tags : List DT} {ops : List IOper} (hid : List Res) (hs : subR hid st.rs) (h : evD E hid tags ops ⟨st.fr, st.rs, [], [], []⟩ fun st' => S E Q st' k) : S E Q st (.code (.regd tags ops) :: k) := by
  intro wf ν a w hG code hc
  obtain ⟨id, cops, rfl, hm, hok, rfl, hl⟩ := comp_inv hc
  have hG' : Good E ν st a w.drew := GoodF.below hG (Below.refl _ _).drew
  exact wp_region_any hm (evD_sound wf rfl hok hl hs h (fun st' ν' a' w' hk hG2 => hk wf ν' a' w' hG2) hG')

/-- a loop: what holds at every round's head -/
theorem S.loop {body : IC} {X : Type} (stI : X → St) (pre : X → Prop) (m : X → Nat) (x0 : X) (h0 : pre x0) (hi : Ent E st (stI x0))
    (round : ∀ x, pre x → S E Q (stI x) (.code body :: .inv (fun a w => ∃ x' ν', pre x' ∧ m x' < m x ∧ Good E ν' (stI x') a w) :: k)) : S E Q st (.code (.loop body) :: k) := by
  intro wf ν a w hG code hc
  obtain ⟨cb, rfl, hx⟩ := comp_inv hc
  obtain ⟨ν', hG'⟩ := hi wf ν a w hG
  refine wp_loop_ghost (fun n a w => ∃ x ν, m x = n ∧ pre x ∧ Good E ν (stI x) a w) (m x0) ⟨x0, ν', rfl, h0, hG'⟩ ?_
  rintro n a w ⟨x, ν, rfl, hp, hGx⟩
  refine wp_mono (round x hp wf ν a w hGx cb hx) fun e a' w' hq => ?_
  cases e with
  | normal =>
    simp only [wpS] at hq
    obtain ⟨x', ν', hp', hlt, hG'⟩ := hq
    exact ⟨m x', hlt, x', ν', rfl, hp', hG'⟩
  | exit id => exact hq
  | _ => exact hq

/-- the end of a round -/
theorem S.next {X : Type} {stI : X → St} {pre : X → Prop} {m : X → Nat} {x : X} (x' : X) (hp : pre x') (hm : m x' < m x) (h : Ent E st (stI x')) :
    S E Q st (.inv (fun a w => ∃ x' ν', pre x' ∧ m x' < m x ∧ Good E ν' (stI x') a w) :: k) := by
  intro wf ν a w hG
  obtain ⟨ν', hG'⟩ := h wf ν a w hG
  exact ⟨x', ν', hp, hm, hG'⟩
end
end Go.Proofs.YtaicmkocmnikjaaDoor.Eng
