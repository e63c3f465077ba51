/- Arguments opened: what a reading of the data says of the cells, as trees; a law's last step. -/
import Derived.Test.YtaicmkocmnikjaaDoorVc
import Derived.Test.YtaicmkocmnikjaaDoorRows
import Derived.Carry
import Derived.ChangeArms
import Derived.ChangeSame
import Derived.Deep.Slices
import Derived.WalkKit
import Derived.ProofKit
import Derived.OpenShut
import Derived.JoinedCond
namespace Go.Proofs.YtaicmkocmnikjaaDoor
set_option linter.all false
open Go Go.RowKit Go.ChangeShapes Go.WideShapes Eng

theorem bulk_one {H : Type} (d : DataW H) : 1 ≤ Rows.uptoBulk d := by
  cases d with
  | lit l => cases l <;> simp [Rows.uptoBulk]
  | nil => simp [Rows.uptoBulk]
  | ptr d => simp [Rows.uptoBulk]
  | slice elems spare => simp [Rows.uptoBulk]
  | agg parts => simp [Rows.uptoBulk]
  | iface t d => simp [Rows.uptoBulk]
  | map entries => simp [Rows.uptoBulk]
  | held h => simp [Rows.uptoBulk]
theorem bulk_cap {H : Type} {l : List (DataW H)} (hk : Rows.uptoSmall H l = true) : Rows.uptoBulkAll l ≤ 1048576 := of_decide_eq_true hk
theorem bulk_app {H : Type} (l r : List (DataW H)) : Rows.uptoBulkAll (l ++ r) = Rows.uptoBulkAll l + Rows.uptoBulkAll r := by
  induction l with
  | nil => simp [Rows.uptoBulkAll]
  | cons x l ih => simp only [List.cons_append, Rows.uptoBulkAll, ih]; omega

def noB : Nat → Prop := fun _ => False

section
variable {H : Type} {enc : TypeId × Value → H} {P : Program} {W : World}

/-- what every reading of the type t says -/
def Opens (enc : TypeId × Value → H) (P : Program) (W : World) (t : TypeId) {α : Type} (tc : α → List C) (ok : α → Prop) (ms : α → Nat) : Prop :=
  ∀ (fuel : Nat) (cs : List Value) (x : DataW H × List MemPlace), DataW.trod enc P W 0 (fun _ => true) true fuel t cs = some x → ∃ a : α, FzL W noB (tc a) cs ∧ (∀ u ∈ cs, u.oneCell' = true) ∧ ok a ∧ ms a ≤ Rows.uptoBulk x.1

def I64 (n : Int) : Prop := -9223372036854775808 ≤ n ∧ n ≤ 9223372036854775807

theorem opens_bool {t : TypeId} (ht : P.underlying t = some .bool) : Opens enc P W t (fun b : Bool => [.v (.bool b)]) (fun _ => True) fun _ => 1 := by
  intro fuel cs x h
  obtain ⟨b, rfl, rfl⟩ := DataW.trod_bool ht h
  exact ⟨b, by simp [FzL, Fz], by simp [Value.oneCell'], trivial, by simp [Rows.uptoBulk]⟩
theorem opens_int {t : TypeId} (ht : P.underlying t = some (.int .i64)) : Opens enc P W t (fun n : Int => [.v (.int .i64 n)]) I64 fun _ => 1 := by
  intro fuel cs x h
  obtain ⟨n, rfl, rfl, hw⟩ := DataW.trod_int ht h
  refine ⟨n, by simp [FzL, Fz], by simp [Value.oneCell'], ?_, by simp [Rows.uptoBulk]⟩
  simpa [Lit.wf, IntKind.min, IntKind.max, IntKind.signed, IntKind.bits, I64] using hw
theorem opens_byte {t : TypeId} (ht : P.underlying t = some (.int .u8)) : Opens enc P W t byteC (fun _ => True) fun _ => 1 := by
  intro fuel cs x h
  obtain ⟨n, rfl, rfl, hw⟩ := DataW.trod_int ht h
  have hb : 0 ≤ n ∧ n ≤ 255 := by simpa [Lit.wf, IntKind.min, IntKind.max, IntKind.signed, IntKind.bits] using hw
  refine ⟨UInt8.ofNat n.toNat, ?_, by simp [Value.oneCell'], trivial, by simp [Rows.uptoBulk]⟩
  simp only [byteC, FzL, Fz]
  refine ⟨_, _, rfl, ?_, rfl⟩
  rw [UInt8.toNat_ofNat']
  congr 1
  omega
theorem opens_str {t : TypeId} (ht : P.underlying t = some .string) : Opens enc P W t (fun s : ByteArray => [.v (.string s)]) (fun s => s.size ≤ 9223372036854775807) fun s => s.size + 1 := by
  intro fuel cs x h
  obtain ⟨s, rfl, rfl, hw⟩ := DataW.trod_string ht h
  refine ⟨s, by simp [FzL, Fz], by simp [Value.oneCell'], hw, ?_⟩
  have : s.data.toList.length = s.size := by cases s; simp [ByteArray.size]
  simp only [Rows.uptoBulk, this]
  omega

theorem Opens.imp {t : TypeId} {α β : Type} {tc : α → List C} {ok : α → Prop} {ms : α → Nat} {tc' : β → List C} {ok' : β → Prop} {ms' : β → Nat} (h : Opens enc P W t tc ok ms)
    (f : ∀ a, ok a → ∃ b, tc a = tc' b ∧ ok' b ∧ ms' b ≤ ms a) : Opens enc P W t tc' ok' ms' := by
  intro fuel cs x hx
  obtain ⟨a, h0, h01, h1, h2⟩ := h fuel cs x hx
  obtain ⟨b, h3, h4, h5⟩ := f a h1
  exact ⟨b, by rw [← h3]; exact h0, h01, h4, Nat.le_trans h5 h2⟩

theorem FzA_cells {w : World} {O : Nat → Prop} {q : List C} {vs : List Value} {ad : Addr} {j : Nat} (hF : FzL w O q vs) (h1 : ∀ u ∈ vs, u.oneCell' = true) (hc : ∀ i v, vs[i]? = some v → w.cell? (ad.add (j + i)) = some v) : FzA w O q ad j := FzA.of hF h1 hc

/-- a slice, and what it holds -/
theorem opens_slice {t e : TypeId} {α : Type} {tc : α → List C} {ok : α → Prop} {ms : α → Nat} {sz : Nat} (ht : P.underlying t = some (.slice e)) (hc : P.cellsOf e = sz) (hsz : 0 < sz) (hlen : ∀ a, (tc a).length = sz)
    (he : Opens enc P W e tc ok ms) : Opens enc P W t (fun xs : List α => [.sl sz (xs.map tc)]) (fun xs => ∀ a ∈ xs, ok a) fun xs => 1 + (xs.map ms).sum := by
  intro fuel cs x h
  rcases Deep.open_slice ht h with ⟨rfl, rfl⟩ | ⟨a, len, cap, m, n, D, Pl, rfl, _, hl, hm, hmm, rfl, hx⟩
  · refine ⟨[], ?_, by simp [Value.oneCell'], (fun a ha => by cases ha), by simp [Rows.uptoBulk]⟩
    simp only [FzL, Fz]
    exact ⟨_, _, rfl, ⟨none, 0, rfl, Nat.le_refl _, Nat.zero_le _, fun h => by simp at h⟩, rfl⟩
  · have hlm : len ≤ m := by rw [hmm]; split <;> omega
    have key : ∀ i, i < len → ∃ (y : α) (vs : List Value), W.cells? 0 (a.add (i * sz)) sz = some vs ∧ FzL W noB (tc y) vs ∧ (∀ u ∈ vs, u.oneCell' = true) ∧ ok y ∧ ms y ≤ Rows.uptoBulk (D i) := by
      intro i hi
      obtain ⟨cs', h1, h2⟩ := hx i (by omega)
      obtain ⟨y, h31, h32, h3, h4⟩ := he _ _ _ h2
      rw [hc] at h1
      exact ⟨y, cs', h1, h31, h32, h3, h4⟩
    have build : ∀ k, k ≤ len → ∃ xs : List α, xs.length = k ∧ (∀ i y, xs[i]? = some y → ∃ vs, W.cells? 0 (a.add (i * sz)) sz = some vs ∧ FzL W noB (tc y) vs ∧ (∀ u ∈ vs, u.oneCell' = true) ∧ ok y) ∧ (xs.map ms).sum ≤ Rows.uptoBulkAll ((List.range k).map D) := by
      intro k
      induction k with
      | zero => intro _; exact ⟨[], rfl, (fun i y h => by simp at h), by simp⟩
      | succ k ih =>
        intro hk
        obtain ⟨xs, h1, h2, h3⟩ := ih (by omega)
        obtain ⟨y, vs, h4, h41, h42, h5, h6⟩ := key k (by omega)
        refine ⟨xs ++ [y], by simp [h1], fun i z hz => ?_, ?_⟩
        · rcases Nat.lt_or_ge i xs.length with hlt | hge
          · rw [List.getElem?_append_left hlt] at hz
            exact h2 i z hz
          · rw [List.getElem?_append_right hge] at hz
            have : i - xs.length = 0 := by
              rcases Nat.eq_zero_or_pos (i - xs.length) with h0 | h0
              · exact h0
              · obtain ⟨d, hd⟩ : ∃ d, i - xs.length = d + 1 := ⟨i - xs.length - 1, by omega⟩
                rw [hd] at hz; simp at hz
            rw [this] at hz
            simp at hz
            subst hz
            have : i = k := by omega
            subst this
            exact ⟨vs, h4, h41, h42, h5⟩
        · rw [List.map_append, List.sum_append, List.range_succ, List.map_append, bulk_app]
          simp only [List.map_cons, List.map_nil, List.sum_cons, List.sum_nil, Rows.uptoBulkAll]
          omega
    obtain ⟨xs, h1, h2, h3⟩ := build len (Nat.le_refl _)
    have hcell : ∀ (i : Nat) (y : α), xs[i]? = some y → (tc y).length = sz ∧ FzA W noB (tc y) a (i * sz) := by
      intro i y hy
      obtain ⟨vs, h4, h41, h42, _⟩ := h2 i y hy
      obtain ⟨_, h5, h6⟩ := World.cells?_some h4
      refine ⟨hlen _, FzA_cells h41 h42 fun j v hv => ?_⟩
      have hj : j < sz := by
        have := (List.getElem?_eq_some_iff.1 hv).1
        rwa [h5] at this
      have h7 := h6 j hj
      rw [hv, Deep.add_add] at h7
      exact h7
    refine ⟨xs, ?_, by simp [Value.oneCell'], fun y hy => ?_, ?_⟩
    · simp only [FzL]
      refine ⟨_, _, rfl, ?_, rfl⟩
      simp only [Fz]
      refine ⟨some a, cap, by simp [h1], by simp; omega, hm, fun h0 => ⟨a, rfl, ?_, (fun h => h), FzE.of fun k q hq => ?_⟩⟩
      · have hi : 0 < xs.length := by simpa using h0
        obtain ⟨hq1, hq2⟩ := hcell 0 xs[0] (List.getElem?_eq_getElem hi)
        have h9 : 0 < (tc xs[0]).length := by omega
        match htc : tc xs[0], h9, hq2 with
        | c :: cs, _, hq2 =>
          simp only [FzA] at hq2
          obtain ⟨⟨v, hv, _⟩, _⟩ := hq2
          have h10 := block_lt_of_cell hv
          rwa [add_block] at h10
      · rw [List.getElem?_map] at hq
        obtain ⟨y, hy, rfl⟩ := Option.map_eq_some_iff.1 hq
        rw [Nat.zero_add]; exact hcell k y hy
    · obtain ⟨i, hi⟩ := List.mem_iff_getElem?.1 hy
      exact (h2 i y hi).choose_spec.2.2.2
    · simp only [Rows.uptoBulk]
      omega

/-! ### Structs -/
/-- the fields lie one behind the other -/
def contig (P : Program) : List Field → Nat → Option Nat
  | [], n => some n
  | f :: fs, n => if f.offset = n then contig P fs (n + P.cellsOf f.type) else none

def Parts (enc : TypeId × Value → H) (P : Program) (W : World) (n : Nat) : List TypeId → List (List Value) → List (DataW H × List MemPlace) → Prop
  | [], cs, ys => cs = [] ∧ ys = []
  | f :: fs, cs, ys => ∃ c cr y yr, cs = c :: cr ∧ ys = y :: yr ∧ DataW.trod enc P W 0 (fun _ => true) true n f c = some y ∧ Parts enc P W n fs cr yr

theorem open_struct {t : TypeId} {fs : Array Field} {fuel : Nat} {cs : List Value} {x : DataW H × List MemPlace} (hu : P.underlying t = some (.struct fs)) (hc : contig P fs.toList 0 = some (P.cellsOf t)) (h : DataW.trod enc P W 0 (fun _ => true) true fuel t cs = some x) :
    ∃ (n : Nat) (ps : List (List Value)) (ys : List (DataW H × List MemPlace)), cs = ps.flatten ∧ x = (.agg (ys.map (·.1)), ys.flatMap (·.2)) ∧ Parts enc P W n (fs.toList.map (·.type)) ps ys := by
  obtain ⟨xs, n, rfl, rfl, hlen, hxl, hf⟩ := DataW.trod_struct hu h
  have gen : ∀ (l : List Field) (off tot : Nat) (zs : List (DataW H × List MemPlace)), contig P l off = some tot → zs.length = l.length → (∀ (i : Nat) (f : Field), l[i]? = some f → DataW.trod enc P W 0 (fun _ => true) true n f.type ((cs.drop f.offset).take (P.cellsOf f.type)) = zs[i]?) →
      off ≤ tot ∧ ∃ ps, (cs.drop off).take (tot - off) = ps.flatten ∧ Parts enc P W n (l.map (·.type)) ps zs := by
    intro l
    induction l with
    | nil =>
      intro off tot zs hc hl _
      simp only [contig, Option.some.injEq] at hc
      subst hc
      have : zs = [] := List.length_eq_zero_iff.1 hl
      subst this
      exact ⟨Nat.le_refl _, [], by simp, rfl, rfl⟩
    | cons f l ih =>
      intro off tot zs hc hl hf
      simp only [contig] at hc
      split at hc
      · rename_i ho
        cases zs with
        | nil => simp at hl
        | cons z zs =>
          obtain ⟨h1, ps, h2, h3⟩ := ih _ tot zs hc (by simpa using hl) fun i g hg => by have := hf (i + 1) g (by simpa using hg); simpa using this
          have h0 := hf 0 f rfl
          rw [ho] at h0
          refine ⟨by omega, ((cs.drop off).take (P.cellsOf f.type)) :: ps, ?_, _, _, _, _, rfl, rfl, h0, h3⟩
          rw [List.flatten_cons, ← h2, ← List.drop_drop]
          have e : tot - off = P.cellsOf f.type + (tot - (off + P.cellsOf f.type)) := by omega
          rw [e, List.take_add]
      · cases hc
  obtain ⟨_, ps, h2, h3⟩ := gen fs.toList 0 _ xs hc (by simpa using hxl) fun i f hi => hf i f (by simpa using hi)
  refine ⟨n, ps, xs, ?_, rfl, h3⟩
  rw [← h2, Nat.sub_zero, List.drop_zero, ← hlen, List.take_length]

theorem FzL.app {w : World} {O : Nat → Prop} : ∀ {cs ds : List C} {vs us : List Value}, FzL w O cs vs → FzL w O ds us → FzL w O (cs ++ ds) (vs ++ us)
  | [], ds, vs, us, h, k => by simp only [FzL] at h; subst h; simpa using k
  | c :: cs, ds, vs, us, h, k => by
    simp only [FzL] at h
    obtain ⟨y, ys, rfl, h1, h2⟩ := h
    exact ⟨y, ys ++ us, rfl, h1, FzL.app h2 k⟩

/-- the fields of a struct, one by one -/
def OpensP (enc : TypeId × Value → H) (P : Program) (W : World) (ts : List TypeId) {α : Type} (tc : α → List C) (ok : α → Prop) (ms : α → Nat) : Prop :=
  ∀ (n : Nat) (ps : List (List Value)) (ys : List (DataW H × List MemPlace)), Parts enc P W n ts ps ys → ∃ a : α, FzL W noB (tc a) ps.flatten ∧ (∀ u ∈ ps.flatten, u.oneCell' = true) ∧ ok a ∧ ms a ≤ Rows.uptoBulkAll (ys.map (·.1))
theorem opensP_nil : OpensP enc P W [] (fun _ : Unit => []) (fun _ => True) fun _ => 0 := by
  rintro n ps ys ⟨rfl, rfl⟩
  exact ⟨(), by simp [FzL], by simp, trivial, Nat.zero_le _⟩
theorem opensP_cons {t : TypeId} {ts : List TypeId} {α β : Type} {tc : α → List C} {ok : α → Prop} {ms : α → Nat} {tc' : β → List C} {ok' : β → Prop} {ms' : β → Nat} (h : Opens enc P W t tc ok ms) (h' : OpensP enc P W ts tc' ok' ms') :
    OpensP enc P W (t :: ts) (fun p : α × β => tc p.1 ++ tc' p.2) (fun p => ok p.1 ∧ ok' p.2) fun p => ms p.1 + ms' p.2 := by
  rintro n ps ys ⟨c, cr, y, yr, rfl, rfl, h1, h2⟩
  obtain ⟨a, a1, a2, a3, a4⟩ := h _ _ _ h1
  obtain ⟨b, b1, b2, b3, b4⟩ := h' _ _ _ h2
  refine ⟨(a, b), by rw [List.flatten_cons]; exact FzL.app a1 b1, fun u hu => ?_, ⟨a3, b3⟩, ?_⟩
  · rw [List.flatten_cons] at hu
    rcases List.mem_append.1 hu with hu | hu
    · exact a2 u hu
    · exact b2 u hu
  · simp only [List.map_cons, Rows.uptoBulkAll]
    omega
theorem opens_struct {t : TypeId} {fs : Array Field} {ts : List TypeId} {α : Type} {tc : α → List C} {ok : α → Prop} {ms : α → Nat} (hu : P.underlying t = some (.struct fs)) (hts : fs.toList.map (·.type) = ts) (hc : contig P fs.toList 0 = some (P.cellsOf t)) (h : OpensP enc P W ts tc ok ms) :
    Opens enc P W t tc ok fun a => ms a + 1 := by
  intro fuel cs x hx
  obtain ⟨n, ps, ys, rfl, rfl, hp⟩ := open_struct hu hc hx
  rw [hts] at hp
  obtain ⟨a, a1, a2, a3, a4⟩ := h _ _ _ hp
  exact ⟨a, a1, a2, a3, by simp only [Rows.uptoBulk]; omega⟩

/-- A LAW's last step: it returns true, and all reads as it did. -/
theorem law_post {f : Func} {s : ChangeSpec} {apart fresh handsOn again : Bool} {W' : World} {args : Array Value} {ds gs : List (DataW H)} {before : List MemPlace} {tb : TypeId} (hl : laidOutB P = true) (hpar : ∀ t ∈ f.params.toList, P.readableRec t = true ∧ t < P.types.size)
    (hrt : f.resultTypes = #[tb]) (htb : P.underlying tb = some .bool) (hv : s.vars = []) (hfn : s.fn H (ds ++ gs) = { results := [.lit (.bool true)], args := ds }) (hW : DataW.Whole enc P f.params.toList s.vars apart W args.toList ds gs before) (hb : Below W.heap.size W W') :
    s.post enc P f apart fresh handsOn again W args (.bool true) W' := by
  have hlt : ∀ p ∈ before, p.block < W.heap.size := fun p hp => hW.lt p hp
  obtain ⟨p, q, hA, hV, hps, hz, hn⟩ := id hW
  rw [hv] at hV
  obtain ⟨rfl, rfl⟩ := trodVars_none hV
  rw [List.append_nil] at hps
  subst hps
  have all : ∀ (sp : Nat → Bool) (ts : List TypeId) (vs : List Value) (es : List (DataW H)) (pl : List MemPlace), (∀ t ∈ ts, P.readableRec t = true ∧ t < P.types.size) → (∀ x ∈ pl, x.block < W.heap.size ∧ sp x.block = true) → DataW.TrodAll enc P W 0 (fun _ => true) true ts vs es pl → DataW.TrodAll enc P W' 0 sp true ts vs es pl := by
    intro sp ts
    induction ts with
    | nil =>
      intro vs es pl _ _ h
      cases vs <;> cases es <;> simp only [DataW.TrodAll] at h ⊢ <;> exact h
    | cons t ts ih =>
      intro vs es pl hts hpl h
      cases vs <;> cases es <;> simp only [DataW.TrodAll] at h ⊢
      obtain ⟨p1, p2, h1, h2, rfl⟩ := h
      refine ⟨p1, p2, ?_, ih _ _ _ (fun t ht => hts t (List.mem_cons_of_mem _ ht)) (fun x hx => hpl x (List.mem_append_right _ hx)) h2, rfl⟩
      exact WideElems.Trod_stays hl (hts t (List.mem_cons_self ..)).1 (hts t (List.mem_cons_self ..)).2 h1 (fun x hx => hb.same (hpl x (List.mem_append_left _ hx)).1) fun x hx => (hpl x (List.mem_append_left _ hx)).2
  have hres : ∀ (b : Nat) (sp : Nat → Bool) (hd : Bool), DataW.TrodAll enc P W' b sp hd f.resultTypes.toList ((Value.bool true).resultList f.resultTypes.size) (s.fn H (ds ++ [])).results [] := by
    intro b sp hd
    rw [hrt, hfn]
    exact trodAll_cons_mk (shut_bool htb true) trodAll_mk0
  have hargs : ∀ sp : Nat → Bool, (∀ p' ∈ before, sp p'.block = true) → DataW.TrodAll enc P W' 0 sp true f.params.toList args.toList (s.fn H (ds ++ [])).args before := fun sp hsp => by
    rw [hfn]
    exact all sp _ _ _ _ hpar (fun x hx => ⟨hlt x hx, hsp x hx⟩) hA
  have hvars : ∀ sp : Nat → Bool, DataW.TrodVars enc P W' sp s.vars (s.fn H (ds ++ [])).vars [] := fun sp => by rw [hv, hfn]; rfl
  have hold : ∀ p' ∈ before, (fun b => decide (b < W.heap.size)) p'.block = true := fun p' hp => by simpa using hlt p' hp
  refine ⟨ds, [], before, [], before, [], hW, hres _ _ _, hargs _ hold, hvars _, World.keptBut_mono (fun p' hp => ⟨hp, ?_⟩) (hb.frame (· ∈ before)), fun _ => ⟨ok_one hrt rfl (okWide_bool_mk htb _), _, _, ([] ++ before) ++ [], ⟨[] ++ before, [], trodAll_append (hargs _ (fun _ _ => rfl)) (hres _ _ _), hvars _, rfl, ?_, ?_⟩, ?_⟩⟩
  · exact Or.inr (by simpa using hp)
  · intro b off hp
    have hin : MemPlace.cell b off ∈ before := by simpa using hp
    rw [hb.frozen (hlt _ hin)]
    exact hz b off hin
  · intro ha
    have := hn ha
    simpa using this
  · intro p' hp _
    simpa using hp
end
end Go.Proofs.YtaicmkocmnikjaaDoor
