/- Regions, control and calls: the rules by which a function is walked. -/
import Derived.Test.YtaicmkocmnikjaaEfs
namespace Go.Proofs.Ytaicmkocmnikjaa.Eng
set_option linter.all false
open Go Go.RowKit

section
variable {E : Ctx} {ν : List Value} {st : St} {a : Act} {w : World}

theorem compOper_spec {P : Program} {N : Nat} {ops : Array Oper} {o : Oper} {io : IOper} (h : compOper P N ops o = some io) :
    dstOK N o.dst = true ∧ Is P o.type o.op io.op ∧ io.dst = o.dst ∧
      ((o.guard = none ∧ io.guard = none) ∨ ∃ j s want, o.guard = some (j, want) ∧ io.guard = some (s, want) ∧ (ops[j]?).bind (·.dst) = some s) := by
  unfold compOper at h
  split at h
  · rename_i hd
    split at h
    · rename_i io' g hio hg
      injection h with h
      subst h
      refine ⟨hd, comp_is hio, rfl, ?_⟩
      unfold compGuard at hg
      split at hg
      · injection hg with hg
        subst hg
        exact .inl ⟨by assumption, rfl⟩
      · rename_i j want heq
        split at hg
        · rename_i s hs
          injection hg with hg
          subst hg
          exact .inr ⟨j, s, want, heq, rfl, hs⟩
        · cases hg
    · cases h
  · cases h

theorem den_skip {sl : List Sli} {p : Bool} {s : SV} (hp : p = false) : Den ν sl (.g p s) undef := by
  unfold Den
  exact ⟨fun h => (by rw [hp] at h; cases h), fun _ => rfl⟩
theorem den_took {sl : List Sli} {p : Bool} {s : SV} {y : Value} (hp : p = true) (h : Den ν sl s y) : Den ν sl (.g p s) y := by
  unfold Den
  exact ⟨fun _ => h, fun h => (by rw [hp] at h; cases h)⟩
theorem undef_not_bool (b : Bool) : undef ≠ .bool b := by intro h; cases h

/-- what the guard says of the state -/
theorem guard_val {ops : Array Oper} {j s : Nat} (hs : (ops[j]?).bind (·.dst) = some s) (hG : Good E ν st a w) :
    (∀ b, slot st.fr s = .v (.bool b) → yielded ops a.tmps j = some b) ∧ (∀ q b, slot st.fr s = .g q (.v (.bool b)) → (q = true → yielded ops a.tmps j = some b) ∧ (q = false → yielded ops a.tmps j = none)) := by
  have hd := hG.fr s
  have hy : ∀ b, a.tmps.getD s undef = .bool b → yielded ops a.tmps j = some b := by
    intro b hb
    unfold yielded
    simp only [hs, Option.bind_some]
    rw [Array.getD_eq_getD_getElem?] at hb
    cases ht : a.tmps[s]? with
    | none => rw [ht] at hb; exact absurd hb (undef_not_bool b)
    | some x => rw [ht] at hb; simp at hb; subst hb; rfl
  have hn : a.tmps.getD s undef = undef → yielded ops a.tmps j = none := by
    intro hb
    unfold yielded
    simp only [hs, Option.bind_some]
    rw [Array.getD_eq_getD_getElem?] at hb
    cases ht : a.tmps[s]? with
    | none => rfl
    | some x => rw [ht] at hb; simp at hb; subst hb; rfl
  refine ⟨fun b hb => ?_, fun q b hb => ?_⟩
  · rw [hb] at hd
    exact hy b (by simpa only [Den] using hd)
  · rw [hb] at hd
    simp only [Den] at hd
    exact ⟨fun hq => hy b (hd.1 hq), fun hq => hn (hd.2 hq)⟩

theorem wanted_val {ops : Array Oper} {o : Oper} {j : Nat} {want : Bool} (hg : o.guard = some (j, want)) (tmps : Array Value) : Region.wanted o (yielded ops tmps) = (yielded ops tmps j == some want) := by
  simp [Region.wanted, hg]

theorem den_noFs {sl : List Sli} : ∀ {s : SV} {y : Value}, Den ν sl s y → Den ν sl (noFs s) y
  | .g p s, y, h => by
    simp only [Den, noFs] at h ⊢
    exact ⟨fun hp => den_noFs (h.1 hp), h.2⟩
  | .fs _ _ _, y, h => by simp only [noFs, Den]
  | .v _, y, h => h
  | .agg _, y, h => h
  | .tup _, y, h => h
  | .bp _ _, y, h => h
  | .rv _, y, h => h
  | .rp _ _, y, h => h
  | .sl _, y, h => h
  | .ep _ _ _, y, h => h
  | .clo _ _, y, h => h
  | .junk, y, h => h
theorem denL_noFs {sl : List Sli} : ∀ {cs : List SV} {ys : List Value}, DenL ν sl cs ys → DenL ν sl (cs.map noFs) ys
  | [], ys, h => h
  | c :: cs, ys, h => by
    simp only [DenL, List.map_cons] at h ⊢
    obtain ⟨y, r, rfl, h1, h2⟩ := h
    exact ⟨y, r, rfl, den_noFs h1, denL_noFs h2⟩
theorem fresh_noFs (b : Nat) (w : World) : ∀ (s : SV) (y : Value), Fresh b w (noFs s) y
  | .g p s, y => by
    simp only [noFs, Fresh]
    exact fun _ => fresh_noFs b w s y
  | .fs _ _ _, y => by simp only [noFs, Fresh]
  | .v _, y => by simp only [noFs, Fresh]
  | .agg _, y => by simp only [noFs, Fresh]
  | .tup _, y => by simp only [noFs, Fresh]
  | .bp _ _, y => by simp only [noFs, Fresh]
  | .rv _, y => by simp only [noFs, Fresh]
  | .rp _ _, y => by simp only [noFs, Fresh]
  | .sl _, y => by simp only [noFs, Fresh]
  | .ep _ _ _, y => by simp only [noFs, Fresh]
  | .clo _ _, y => by simp only [noFs, Fresh]
  | .junk, y => by simp only [noFs, Fresh]
theorem freshL_noFs {w : World} (b : Nat) : ∀ (cs : List SV) (ys : List Value), FreshL b w (cs.map noFs) ys
  | [], ys => by simp only [List.map_nil, FreshL]
  | c :: cs, [] => by simp only [List.map_cons, FreshL]
  | c :: cs, y :: ys => by
    simp only [List.map_cons, FreshL]
    exact ⟨fresh_noFs b w c y, freshL_noFs b cs ys⟩
theorem Good.noFr (h : Good E ν st a w) : Good E ν { st with fr := [] } a w :=
  ⟨h.dfr, h.size, fun t => by show Den _ _ (slot [] t) _; simp only [slot, Den], h.len, h.fx, h.res, h.dis, h.below, h.hB, h.sn, h.snd, h.sls⟩

/-- one operation, its guard decided to p -/
theorem evG_sound {oo : Oper} {io : IOp} (his : Is E.P oo.type oo.op io) (hd : dstOK E.N oo.dst = true) {p : Bool} {K : St → Prop} (h : evG E st p oo.dst io K) (hG : Good E ν st a w)
    {K' : Act → World → Prop} {Q : Exit → Act → World → Prop} (hK : ∀ st' ν' a' w', K st' → Good E ν' st' a' w' → K' a' w') :
    if p = true then oo.wp E.P a w K' Q else K' (a.put oo.dst undef) w := by
  have skip : p = false → ∀ s, K (st.put oo.dst (.g p s)) → K' (a.put oo.dst undef) w := fun hp s hk =>
    hK _ ν _ _ hk (hG.put hd (den_skip hp))
  have pure_case : (pureP st p io fun s => K (st.put oo.dst (.g p s))) → if p = true then oo.wp E.P a w K' Q else K' (a.put oo.dst undef) w := fun h => by
    obtain ⟨s, hs, hy⟩ := pureP_sound his h
    cases hp : p with
    | false => exact skip hp s hs
    | true =>
      refine wp_of_yl (hy ν a w hG hp) fun y hden => hK _ ν _ _ hs (hG.put hd ?_)
      exact den_took hp hden
  have eff_case : isEff io = true → evG E st p oo.dst io K → (∀ f args, io ≠ .call f args) → if p = true then oo.wp E.P a w K' Q else K' (a.put oo.dst undef) w := fun he h hnc => by
    have h' : (p = true → evU E st p oo.dst io K) ∧ (p = false → K (st.put oo.dst (.v undef))) := by
      unfold evG at h
      split at h
      · exact absurd rfl (hnc _ _)
      · rw [he] at h; exact h
    cases hp : p with
    | false => exact hK _ ν _ _ (h'.2 hp) (hG.put hd (by simp [Den]))
    | true => exact evU_sound his hd (h'.1 hp) hG hp hK
  cases hio : io with
  | call f args =>
    rw [hio] at h his
    obtain ⟨h1, s, y0, hs0, hr, hc⟩ := h
    cases hp : p with
    | false => exact skip hp _ hr
    | true =>
      obtain ⟨dst, op, ty, pos, after, guard⟩ := oo
      simp only at his
      cases his with
      | call c f hcc hcl =>
        show Oper.wp _ _ _ _ _ _
        have hden := argsV_den hG hp h1
        unfold Oper.wp
        rw [exec_call hcc, run_callFunc_ok hcl]
        refine (hc ν a w _ hG.noFr (fun _ => ⟨denL_noFs hden, freshL_noFs 0 _ _⟩) hp).mono ?_
        rintro e w' ⟨y, rfl, hy, _, hb⟩
        refine hK _ ν _ _ hr ((hG.below_ hb).put hd ?_)
        exact den_took hp (den_noFs (hy _ _))
  | alloc t z => exact eff_case (by rw [hio]; rfl) h (by rw [hio]; intro _ _ h; cases h)
  | box t z => exact eff_case (by rw [hio]; rfl) h (by rw [hio]; intro _ _ h; cases h)
  | store s x y => exact eff_case (by rw [hio]; rfl) h (by rw [hio]; intro _ _ h; cases h)
  | callv x l => exact eff_case (by rw [hio]; rfl) h (by rw [hio]; intro _ _ h; cases h)
  | app e s b x y => exact eff_case (by rw [hio]; rfl) h (by rw [hio]; intro _ _ h; cases h)
  | apps e s x => exact eff_case (by rw [hio]; rfl) h (by rw [hio]; intro _ _ h; cases h)
  | bsl e s n z q => exact eff_case (by rw [hio]; rfl) h (by rw [hio]; intro _ _ h; cases h)
  | _ => rw [hio] at h pure_case; exact pure_case h

theorem ev_sound {N : Nat} (hN : E.N = N) {ops : Array Oper} {Q : Exit → Act → World → Prop} {K : St → Prop} (hK : ∀ st' ν' a' w', K st' → Good E ν' st' a' w' → Q .normal a' w') :
    ∀ (l : List Oper) (il : List IOper) (st : St) (ν : List Value) (a : Act) (w : World), compOps E.P N ops l = some il → ev E il st K → Good E ν st a w → wpList E.P ops Q l a w
  | [], il, st, ν, a, w, hc, h, hG => by
    simp only [compOps, Option.some.injEq] at hc
    subst hc
    exact hK st ν a w h hG
  | o :: l, il, st, ν, a, w, hc, h, hG => by
    simp only [compOps] at hc
    split at hc
    · rename_i io ir hio hir
      injection hc with hc
      subst hc
      obtain ⟨hd, his, hdst, hg⟩ := compOper_spec hio
      rw [← hN] at hd
      have next : ∀ st' ν' a' w', (ev E ir st' K) → Good E ν' st' a' w' → wpList E.P ops Q l a' w' := fun st' ν' a' w' h' hG' => ev_sound hN hK l ir st' ν' a' w' hir h' hG'
      simp only [ev, ev1, hdst] at h
      rcases hg with ⟨hg1, hg2⟩ | ⟨j, s, want, hg1, hg2, hs⟩
      · rw [hg2] at h
        simp only at h
        unfold wpList
        rw [if_pos (by simp [Region.wanted, hg1])]
        exact .inl (evU_sound his hd h hG rfl next)
      · rw [hg2] at h
        simp only at h
        obtain ⟨gv1, gv2⟩ := guard_val hs hG
        have fin : ∀ p : Bool, (yielded ops a.tmps j == some want) = p → evG E st p o.dst io.op (fun st' => ev E ir st' K) → wpList E.P ops Q (o :: l) a w := by
          intro p hp h'
          have := evG_sound his hd h' hG next (Q := Q)
          unfold wpList
          rw [wanted_val hg1, hp]
          cases p with
          | true => exact .inl this
          | false => exact this
        split at h
        · rename_i b hb
          exact fin _ (by rw [gv1 b hb]; rfl) h
        · rename_i q b hb
          refine fin _ ?_ h
          cases hq : q with
          | true => rw [(gv2 q b hb).1 hq]; rfl
          | false => rw [(gv2 q b hb).2 hq]; rfl
        · exact h.elim
    · cases hc

end
end Go.Proofs.Ytaicmkocmnikjaa.Eng
