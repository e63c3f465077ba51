/- The effects: what is asked of one operation, and that it is sound. -/
import Derived.Test.YtaicmkocmnikjaaDoorEff
import Derived.Lib.AppendStr
namespace Go.Proofs.YtaicmkocmnikjaaDoor.Eng
set_option linter.all false
open Go Go.RowKit

/-- what a call does with the blocks of one's own -/
def CallT (E : Ctx) (rs : List Res) (f : Nat) (args : List C) (s : C) (rs' : List Res) (pk : List Nat) : Prop :=
  ∀ av ν w vs, RG av E.own0 E.w0.heap.size ν rs w → (∀ b, E.av b → av b) → Frm E.own0 E.w0 w → DenL ν w (OO av rs ν) args vs →
    Calls E.P f vs.toArray w fun e w' => ∃ y ν', e = .returned y ∧ RG av E.own0 E.w0.heap.size ν' rs' w' ∧ Mv rs ν w pk rs' ν' w' ∧ Den ν' w' (OO av rs' ν') s y
/-- a call, and what is asked behind it -/
def CallOK (E : Ctx) (rs : List Res) (f : Nat) (args : List C) (K : C → List Res → List Nat → Prop) : Prop := ∃ s rs' pk, K s rs' pk ∧ CallT E rs f args s rs' pk

/-- the elements of an appended slice -/
def srcOf (rs : List Res) (sz : Nat) (c : C) (k : Option Nat) (K : List (List C) → Prop) : Prop :=
  match c with
  | .rv l => some l ≠ k ∧ match rs[l]? with
    | some (.row _ z es) => z = sz ∧ K es
    | _ => False
  | .sl z es => z = sz ∧ K es
  | .nl => K []
  | .v (.slice none 0 0) => K []
  | _ => False

def setParts (es : List (List C)) : List (Nat × C) → List (List C)
  | [] => es
  | (j, c) :: r => setParts (es.set j (cellsS c)) r
def partsE (ov : Operand → C) : List (Nat × Operand) → List (Nat × C)
  | [] => []
  | (j, x) :: r => (j, strip (ov x)) :: partsE ov r
def bslOK (n sz : Nat) : List (Nat × C) → Prop
  | [] => True
  | (j, c) :: r => cellsOK c = true ∧ C.clL (cellsS c) = true ∧ C.ones (cellsS c) = true ∧ (cellsS c).length = sz ∧ j < n ∧ bslOK n sz r
def reqE (p : Bool) (ov : Operand → C) : List (Nat × Operand) → Prop
  | [] => True
  | (_, x) :: r => req p (ov x) ∧ reqE p ov r
def oneAll : List Value → Bool
  | [] => true
  | x :: r => x.oneCell' && oneAll r
theorem oneAll_spec : ∀ {l : List Value}, oneAll l = true → ∀ u ∈ l, u.oneCell' = true
  | [], _, u, hu => by cases hu
  | x :: l, h, u, hu => by
    simp only [oneAll, Bool.and_eq_true] at h
    cases List.mem_cons.1 hu with
    | inl e => subst e; exact h.1
    | inr e => exact oneAll_spec h.2 u e

def evE (E : Ctx) (ov : Operand → C) (rs : List Res) (o : IOp) (K : C → List Res → List Nat → Prop) : Prop :=
  match o with
  | .alloc t zero => oneAll zero = true ∧ K (.bp rs.length 0) (rs ++ [.box t (zero.map .v)]) []
  | .box t x => req true (ov x) ∧ cellsOK (strip (ov x)) = true ∧ C.ones (cellsS (strip (ov x))) = true ∧ K (.bp rs.length 0) (rs ++ [.box t (cellsS (strip (ov x)))]) []
  | .bsl e sz n zero parts => oneAll zero = true ∧ zero.length = sz ∧ 0 < sz ∧ reqE true ov parts ∧ bslOK n sz (partsE ov parts) ∧ (n * sz ≤ 16777216 ∧ n ≤ 16777216) ∧
      K (.rv rs.length) (rs ++ [.row e sz (setParts (List.replicate n (zero.map .v)) (partsE ov parts))]) []
  | .mksl e bytes zero l c => oneAll zero = true ∧ 0 < zero.length ∧ req true (ov l) ∧ req true (ov c) ∧ match strip (ov l), strip (ov c) with
    | .v (.int .i64 l), .v (.int .i64 c) => (0 ≤ l ∧ l ≤ c ∧ c ≤ 140737488355328 ∧ c.toNat * bytes ≤ 140737488355328) ∧ K (.rv rs.length) (rs ++ [.row e zero.length (List.replicate l.toNat (zero.map .v))]) []
    | _, _ => False
  | .store sz x y => req true (ov x) ∧ req true (ov y) ∧ cellsOK (strip (ov y)) = true ∧ C.ones (cellsS (strip (ov y))) = true ∧ (cellsS (strip (ov y))).length = sz ∧ match strip (ov x) with
    | .bp k off => match rs[k]? with
      | some (.box t cs) => off + sz ≤ cs.length ∧ K (.v undef) (rs.set k (.box t (cs.take off ++ cellsS (strip (ov y)) ++ cs.drop (off + sz)))) []
      | _ => False
    | .rp k z i off => match rs[k]? with
      | some (.row e z' es) => z = z' ∧ C.clL (cellsS (strip (ov y))) = true ∧ match es[i]? with
        | some q => off + sz ≤ q.length ∧ K (.v undef) (rs.set k (.row e z' (es.set i (q.take off ++ cellsS (strip (ov y)) ++ q.drop (off + sz))))) []
        | none => False
      | _ => False
    | _ => False
  | .call f args => argsR true ov args ∧ CallOK E rs f (argsV ov args) K
  | .callv x args => req true (ov x) ∧ argsR true ov args ∧ match strip (ov x) with
    | .v (.func (.func f) ⟨[]⟩ ⟨caps⟩) => callable E.P f = true ∧ CallOK E rs f (argsV ov args ++ caps.map .v) K
    | .clo f caps => callable E.P f = true ∧ CallOK E rs f (argsV ov args ++ caps) K
    | _ => False
  | .app e sz bytes s x => req true (ov s) ∧ req true (ov x) ∧ 0 < sz ∧ match strip (ov s) with
    | .rv k => match rs[k]? with
      | some (.row e' z es) => e' = e ∧ z = sz ∧ srcOf rs sz (strip (ov x)) (some k) fun ys =>
          (es.length + ys.length ≤ 140737488355328 ∧ (es.length + ys.length) * bytes ≤ 140737488355328) ∧ K (.rv k) (purgeRs [k] (rs.set k (.row e sz (es ++ ys)))) [k]
      | _ => False
    | .nl => srcOf rs sz (strip (ov x)) none fun ys => (ys.length ≤ 140737488355328 ∧ ys.length * bytes ≤ 140737488355328) ∧ K (.rv rs.length) (rs ++ [.row e sz ys]) []
    | .v (.slice none 0 0) => srcOf rs sz (strip (ov x)) none fun ys => (ys.length ≤ 140737488355328 ∧ ys.length * bytes ≤ 140737488355328) ∧ K (.rv rs.length) (rs ++ [.row e sz ys]) []
    | _ => False
  | .apps e s x => req true (ov s) ∧ req true (ov x) ∧ match strip (ov x) with
    | .v (.string b) => match strip (ov s) with
      | .rv k => match rs[k]? with
        | some (.row e' z es) => e' = e ∧ z = 1 ∧ es.length + b.size ≤ 140737488355328 ∧ K (.rv k) (purgeRs [k] (rs.set k (.row e 1 (es ++ b.data.toList.map byteC)))) [k]
        | _ => False
      | .v (.slice none 0 0) => b.size ≤ 140737488355328 ∧ K (.rv rs.length) (rs ++ [.row e 1 (b.data.toList.map byteC)]) []
      | _ => False
    | _ => False
  | .appz e bytes zero s x => oneAll zero = true ∧ 0 < zero.length ∧ req true (ov s) ∧ req true (ov x) ∧ match strip (ov s), strip (ov x) with
    | .v (.slice none 0 0), .v (.int .i64 n) => (0 < n ∧ n ≤ 140737488355328 ∧ n.toNat * bytes ≤ 140737488355328) ∧ K (.rv rs.length) (rs ++ [.row e zero.length (List.replicate n.toNat (zero.map .v))]) []
    | _, _ => False
  | .bsl0 _ => K .nl rs []
  | .mkmap str => K (.mp rs.length) (rs ++ [.map str []]) []
  | .mupd str m k v => req true (ov m) ∧ req true (ov k) ∧ req true (ov v) ∧ match strip (ov m), strip (ov k), strip (ov v) with
    | .mp j, .v key, .v u => match rs[j]? with
      | some (.map s es) => s = str ∧ keyOK str key = true ∧ K (.v undef) (rs.set j (.map str (mput key u es))) []
      | _ => False
    | _, _, _ => False
  | _ => False

section
variable {E : Ctx} {P : Program} {ν : List Value} {rs : List Res} {a : Act} {w : World} {av own0 : Nat → Prop} {n0 : Nat} {ov : Operand → C}

/-- a slice value that holds the cells 'news' -/
def Holds (w : World) (y : Value) (m sz : Nat) (news : List Value) : Prop :=
  ∃ A c, y = .slice A m c ∧ news.length = m * sz ∧ (0 < m → ∃ ad, A = some ad ∧ ∀ j u, news[j]? = some u → w.cell? (ad.add j) = some u)

/-- nothing appended -/
theorem run_append_zero {P : Program} (w : World) (t ty e : TypeId) (i : TypeInfo) (ht : P.underlying t = some (.slice e)) (hi : P.info? e = some i) (B : Option Addr) (n cap : Nat) (hn : n ≤ cap) (A : Option Addr) (c : Nat) :
    (Builtin.append_ #[t, t] ty #[.slice B n cap, .slice A 0 c]).run P w = .ok (.slice B n cap) w := by
  cases B <;> cases A <;> simp [Builtin.append_, run_underlying ht, sizeOf, typeInfo, hi, Builtin.lenOf, Builtin.firstCells, hn, storeCells, loadCells, loadCellsFrom]

theorem turned_of_grown {w w' : World} {x : Value} {F : Nat → Prop} (hg : w.grownBy w' x.ownBlock) (hF : ∀ b, x.ownBlock = some b → F b) : Turned w w' F :=
  ⟨hg.os, hg.tape, hg.output, hg.size, fun b hb hn => hg.block b hb fun e => hn (hF b e.symm)⟩

theorem blockOf_own {A : Option Addr} {n c b : Nat} (h : blockOf (.slice A n c) = some b) : (Value.slice A n c).ownBlock = some b := by
  cases A with
  | none => cases h
  | some ad => simp only [blockOf] at h; split at h; cases h; exact h

theorem run_append_any {P : Program} (w : World) (t ty e : TypeId) (i : TypeInfo) (z : Value) (ht : P.underlying t = some (.slice e)) (hi : P.info? e = some i) (hz : i.zero = some z)
    (hzs : z.cells.size = i.size) (hsz : 0 < i.size)
    (x : Value) (n : Nat) (xs : List Value) (hx : rowAt w e i.size x n xs)
    (y : Value) (m : Nat) (news : List Value) (hr : Holds w y m i.size news) (h1 : ∀ u ∈ news, u.oneCell' = true)
    (h63 : n + m ≤ 140737488355328) (hbytes : (n + m) * i.bytes ≤ 140737488355328) :
    ∃ x' w', (Builtin.append_ #[t, t] ty #[x, y]).run P w = .ok x' w' ∧ rowAt w' e i.size x' (n + m) (xs ++ news) ∧ Turned w w' (fun b => blockOf x = some b) ∧
      ∀ b, blockOf x' = some b → blockOf x = some b ∨ (w.heap.size ≤ b ∧ b < w'.heap.size) := by
  obtain ⟨A, c, rfl, hl, hr⟩ := hr
  rcases Nat.eq_zero_or_pos m with hm | hm
  · subst hm
    have hn0 : news = [] := List.eq_nil_of_length_eq_zero (by simpa using hl)
    subst hn0
    have hcap : ∃ B cap, x = .slice B n cap ∧ n ≤ cap := by
      rcases hx.2 with ⟨rfl, B, rfl⟩ | ⟨g, cap, cur, rfl, _, _, hnc, _⟩
      · exact ⟨B, 0, rfl, Nat.le_refl _⟩
      · exact ⟨_, cap, rfl, hnc⟩
    obtain ⟨B, cap, rfl, hnc⟩ := hcap
    exact ⟨_, w, run_append_zero w t ty e i ht hi B n cap hnc A c, by simpa using hx, ⟨rfl, rfl, rfl, Nat.le_refl _, fun _ _ _ => rfl⟩, fun b hb => .inl hb⟩
  · obtain ⟨ad, rfl, hcells⟩ := hr hm
    rcases hx.2 with ⟨rfl, B, rfl⟩ | ⟨g, cap, cur, rfl, hc0, hg, hnc, hcm, hcs, htake⟩
    · have hx0 : xs = [] := List.eq_nil_of_length_eq_zero (by simpa using hx.1)
      subst hx0
      simp only [Nat.zero_add, List.nil_append] at h63 hbytes ⊢
      have fin : (Builtin.append_ #[t, t] ty #[.slice B 0 0, .slice (some ad) m c]).run P w = .ok (.slice (some ⟨w.heap.size, 0, none⟩) m (grownCap w m 0 e)) (w.drew.alloc (.cells (news.toArray ++ Builtin.zeroCells z.cells (grownCap w m 0 e - m)) e)) := by
        cases B with
        | none => exact run_append_nil (P := P) w t ty e i z ht hi hz ad m c news hl hcells hm (by omega) (by omega)
        | some b =>
          have := run_append_grow (P := P) w t ty e i z ht hi hz b 0 0 [] (by simp) (by simp) ad m c news hl hcells (by omega) (by omega) (by rw [Nat.zero_add, nextslicecap_zero hm]; omega)
          simpa using this
      have hge := grownCap_ge w m 0 e
      have hcm : grownCap w m 0 e ≤ maxLen := grownCap_le_maxLen w m 0 e (by simp only [maxLen]; omega)
      refine ⟨_, _, fin, ⟨hl, .inr ⟨w.heap.size, _, _, rfl, by omega, heap_alloc_new w.drew _, hge, hcm, ?_, ?_⟩⟩, ⟨rfl, rfl, rfl, by simp, fun b hb _ => heap_alloc_old w.drew _ hb⟩, fun b hb => ?_⟩
      · simp only [Array.size_append, List.size_toArray, size_zeroCells, hzs, hl, ← Nat.add_mul]
        congr 1
        omega
      · simp only [Array.toList_append]
        rw [← hl]
        exact List.take_left
      · simp only [blockOf] at hb
        split at hb
        · cases hb
        · injection hb with hb
          subst hb
          exact .inr ⟨Nat.le_refl _, by simp⟩
    · have hown : w.ownsRow 0 e i.size (.slice (some ⟨g, 0, none⟩) n cap) n xs := ⟨hx.1, .inr ⟨g, cap, cur, rfl, Nat.zero_le _, hg, hnc, hcm, hcs, htake⟩⟩
      obtain ⟨v', w', hrun, h2, h3, _, h5⟩ := run_append_own_at (P := P) w 0 t ty e i z i.size i.bytes ht hi hz rfl rfl hzs hsz _ n xs hown ad m c news hl hcells h1 (by simp only [maxLen]; omega) hbytes (Nat.zero_le _)
      have hb : blockOf (.slice (some ⟨g, 0, none⟩) n cap) = some g := by simp only [blockOf]; rw [if_neg (by omega)]
      refine ⟨v', w', hrun, .of h2, turned_of_grown h3 (fun b hb' => by simp only [Value.ownBlock] at hb'; rw [hb]; exact hb'), fun b hb' => ?_⟩
      obtain ⟨A', c', rfl⟩ := (rowAt.of h2).slice
      have := blockOf_own hb'
      rcases h5 with h5 | h5
      · rw [this] at h5; left; rw [hb]; exact h5.symm
      · rw [this] at h5
        injection h5 with h5
        subst h5
        refine .inr ⟨Nat.le_refl _, ?_⟩
        rcases h2.2 with ⟨hbad, _⟩ | ⟨g', cap', cur', he, _, hh, _⟩
        · omega
        · injection he with he
          subst he
          simp only [Value.ownBlock] at this
          injection this with this
          subst this
          exact (Array.getElem?_eq_some_iff.1 hh).1

theorem run_append_str {P : Program} (w : World) (base : Nat) (t u ty e : TypeId) (i : TypeInfo) (ht : P.underlying t = some (.slice e)) (hu : P.underlying u = some .string) (hi : P.info? e = some i) (hz : i.zero = some (.int .u8 0))
    (hsize : i.size = 1) (hby : i.bytes = 1) (v : Value) (n : Nat) (xs : List Value) (hown : w.ownsRow base e 1 v n xs) (s : ByteArray) (hb : n + s.size ≤ 140737488355328) (hbase : base ≤ w.heap.size) :
    ∃ v' w', (Builtin.append_ #[t, u] ty #[v, .string s]).run P w = .ok v' w' ∧ w'.ownsRow base e 1 v' (n + s.size) (xs ++ Lib.strCells s) ∧ w.grownBy w' (Value.ownBlock v) ∧ (Value.ownBlock v' = Value.ownBlock v ∨ Value.ownBlock v' = some w.heap.size) := by
  obtain ⟨v', w', hrun, h1, h2, _⟩ := Lib.run_append_own_string w base t u ty e i ht hu hi hz hsize hby v n xs hown s (by simp only [maxLen]; omega) hb hbase
  refine ⟨v', w', hrun, h1, h2, ?_⟩
  have same : ∀ {v'' : Value} {w'' : World}, (Builtin.append_ #[t, u] ty #[v, .string s]).run P w = .ok v'' w'' → v' = v'' := fun h => by
    rw [hrun] at h; injection h
  rcases hown.2 with ⟨rfl, rfl⟩ | ⟨g, cap, cur, rfl, hbg, hg, hnc, hcm, hcs, htake⟩
  · by_cases hm : s.size = 0
    · refine .inl ?_
      rcases h1.2 with ⟨rfl, _⟩ | ⟨g', cap', cur', rfl, _⟩
      · rfl
      · have hf := Lib.run_firstCells_string (P := P) w 1 s
        rw [hm] at hf
        have : (Builtin.append_ #[t, u] ty #[.slice none 0 0, .string s]).run P w = .ok (.slice none 0 0) w := by
          simp [Builtin.append_, run_underlying ht, run_underlying hu, sizeOf, typeInfo, hi, hsize, Builtin.lenOf, hm, hf]
        have := same this
        cases this
    · have := same (run_append_nil_string (P := P) w t u ty e i (.int .u8 0) ht hu hi hz s (by omega) (by omega) (by rw [hby]; omega))
      subst this
      exact .inr rfl
  · by_cases hroom : n + s.size ≤ cap
    · have hcs' : cur.size = cap := by simpa using hcs
      have := same (Lib.run_append_room_string (P := P) w t u ty e i ht hu hi hsize g n cap cur hg s hroom (by omega))
      subst this
      exact .inl rfl
    · have holds : ∀ j u, xs[j]? = some u → w.cell? ((⟨g, 0, none⟩ : Addr).add j) = some u := hown.cells (g := g) rfl
      have := same (Lib.run_append_grow_string (P := P) w t u ty e i (.int .u8 0) ht hu hi hz ⟨g, 0, none⟩ n cap xs (by rw [hsize]; simpa using hown.1) holds s (by omega) (by omega) (by rw [hby]; exact growslice_fits (by omega) (by omega)))
      subst this
      exact .inr rfl


theorem row_holds {e sz m : Nat} {y : Value} {vs : List Value} (h : rowAt w e sz y m vs) : Holds w y m sz vs := by
  obtain ⟨A, c, rfl⟩ := h.slice
  refine ⟨A, c, rfl, h.1, fun h0 => ?_⟩
  rcases h.2 with ⟨hm, _⟩ | ⟨g, cap, cur, hx, _⟩
  · omega
  · injection hx with h1 h2 h3
    subst h1
    exact ⟨_, rfl, h.cells⟩

theorem srcOf_sound {sz : Nat} {c : C} {k : Option Nat} {K : List (List C) → Prop} (h : srcOf rs sz c k K) : ∃ ys, K ys ∧ ∀ av own0 n0 ν w, RG av own0 n0 ν rs w → ∀ y, Den ν w (OO av rs ν) c y →
    (∀ q ∈ ys, q.length = sz) ∧ ∃ vs, FzL w (OO av rs ν) ys.flatten vs ∧ (∀ u ∈ vs, u.oneCell' = true) ∧ Holds w y ys.length sz vs := by
  have empty : ∀ (A : Option Addr) (c' : Nat) (w : World) (O : Nat → Prop), (∀ q ∈ ([] : List (List C)), q.length = sz) ∧ ∃ vs, FzL w O ([] : List (List C)).flatten vs ∧ (∀ u ∈ vs, u.oneCell' = true) ∧ Holds w (.slice A 0 c') ([] : List (List C)).length sz vs :=
    fun A c' w O => ⟨by simp, [], by simp [FzL], by simp, A, c', rfl, by simp, fun h0 => absurd h0 (by simp)⟩
  unfold srcOf at h
  split at h
  · rename_i l
    obtain ⟨_, h⟩ := h
    split at h
    · rename_i te z es hl
      obtain ⟨rfl, h⟩ := h
      refine ⟨_, h, fun av own0 n0 ν w hR y hy => ?_⟩
      simp only [Den] at hy
      obtain ⟨h0, vs, hD, h1, hown⟩ := hR.get hl hy.1
      exact ⟨h0, vs, hD, h1, row_holds hown⟩
    · exact h.elim
  · rename_i z es
    obtain ⟨rfl, h⟩ := h
    refine ⟨_, h, fun av own0 n0 ν w hR y hy => ?_⟩
    simp only [Den, Fz] at hy
    obtain ⟨A, c', rfl, h1, h2, h3⟩ := hy
    rcases Nat.eq_zero_or_pos es.length with h0 | h0
    · have he : es = [] := List.eq_nil_of_length_eq_zero h0
      subst he
      exact empty A c' w _
    · obtain ⟨ad, rfl, _, _, hE⟩ := h3 h0
      obtain ⟨k0, vs, k1, k2, k3⟩ := FzE.cells hE
      exact ⟨k0, vs, k1, k2, some ad, c', rfl, by rw [k1.length, flat_len k0], fun _ => ⟨ad, rfl, k3⟩⟩
  · refine ⟨_, h, fun av own0 n0 ν w hR y hy => ?_⟩
    simp only [Den] at hy
    obtain ⟨A, rfl⟩ := hy
    exact empty A 0 w _
  · refine ⟨_, h, fun av own0 n0 ν w hR y hy => ?_⟩
    simp only [Den] at hy
    subst hy
    exact empty none 0 w _
  · exact h.elim

theorem FzL.append {O : Nat → Prop} : ∀ {cs ds : List C} {vs us : List Value}, FzL w O cs vs → FzL w O ds us → FzL w O (cs ++ ds) (vs ++ us)
  | [], ds, vs, us, h, k => by simp only [FzL] at h; subst h; simpa using k
  | c :: cs, ds, vs, us, h, k => by
    simp only [FzL] at h
    obtain ⟨y, ys, rfl, h1, h2⟩ := h
    exact ⟨y, ys ++ us, rfl, h1, FzL.append h2 k⟩
theorem FzL.take {O : Nat → Prop} : ∀ {cs : List C} {vs : List Value} (n : Nat), FzL w O cs vs → FzL w O (cs.take n) (vs.take n)
  | [], vs, n, h => by simp only [FzL] at h; subst h; simp [FzL]
  | c :: cs, vs, 0, h => by simp [FzL]
  | c :: cs, vs, n + 1, h => by
    simp only [FzL] at h
    obtain ⟨y, ys, rfl, h1, h2⟩ := h
    exact ⟨y, ys.take n, rfl, h1, FzL.take n h2⟩
theorem FzL.drop {O : Nat → Prop} : ∀ {cs : List C} {vs : List Value} (n : Nat), FzL w O cs vs → FzL w O (cs.drop n) (vs.drop n)
  | [], vs, n, h => by simp only [FzL] at h; subst h; simp [FzL]
  | c :: cs, vs, 0, h => by simpa using h
  | c :: cs, vs, n + 1, h => by
    simp only [FzL] at h
    obtain ⟨y, ys, rfl, h1, h2⟩ := h
    simpa using FzL.drop n h2
theorem FzL.vs {O : Nat → Prop} : ∀ (xs : List Value), FzL w O (xs.map .v) xs
  | [] => by simp [FzL]
  | x :: xs => ⟨x, xs, rfl, by simp [Fz], FzL.vs xs⟩

theorem flat_replicate_get {α : Type} (l : List α) : ∀ (n j : Nat), j < n * l.length → (List.replicate n l).flatten[j]? = l[j % l.length]?
  | 0, j, h => by omega
  | n + 1, j, h => by
    rw [List.replicate_succ, List.flatten_cons, List.getElem?_append]
    split
    · rename_i hlt
      rw [Nat.mod_eq_of_lt hlt]
    · rename_i hge
      have hpos : 0 < l.length := by
        rcases Nat.eq_zero_or_pos l.length with h0 | h0
        · rw [h0] at h; omega
        · exact h0
      have e1 : (n + 1) * l.length = n * l.length + l.length := by rw [Nat.add_mul]; omega
      rw [flat_replicate_get l n (j - l.length) (by omega)]
      rw [show j % l.length = (j - l.length) % l.length by rw [Nat.mod_eq_sub_mod (by omega)]]
theorem zeros_flat (z : Array Value) (n : Nat) (hz : 0 < z.size) : ((Array.range (n * z.size)).map fun j => z[j % z.size]!).toList = (List.replicate n z.toList).flatten := by
  apply List.ext_getElem?
  intro j
  rcases Nat.lt_or_ge j (n * z.size) with h | h
  · rw [flat_replicate_get z.toList n j (by simpa using h)]
    have hm := Nat.mod_lt j hz
    simp [h, hm]
  · rw [List.getElem?_eq_none (by simpa using h), List.getElem?_eq_none]
    rw [flat_len (sz := z.size) (fun e he => by rw [List.eq_of_mem_replicate he]; simp)]
    simpa using h

theorem splice_set {sz : Nat} : ∀ (ps : List (Nat × C)) (es : List (List C)) (n : Nat), es.length = n → (∀ e ∈ es, e.length = sz) → bslOK n sz ps →
    splice es.flatten (ps.map fun (j, c) => (j * sz, sz, c)) = (setParts es ps).flatten ∧ spliceOK es.flatten (ps.map fun (j, c) => (j * sz, sz, c)) ∧ (setParts es ps).length = n ∧ (∀ e ∈ setParts es ps, e.length = sz)
  | [], es, n, hn, hl, _ => ⟨rfl, trivial, hn, hl⟩
  | (j, c) :: ps, es, n, hn, hl, h => by
    simp only [bslOK] at h
    obtain ⟨h1, _, _, h2, h3, h4⟩ := h
    have hf := flat_set (c := cellsS c) hl (show j < es.length by omega)
    obtain ⟨k1, k2, k3, k4⟩ := splice_set (sz := sz) ps (es.set j (cellsS c)) n (by simpa using hn) (fun e he => by
      rcases List.mem_or_eq_of_mem_set he with h' | h'
      · exact hl e h'
      · rw [h']; exact h2) h4
    have hlen := flat_len hl
    refine ⟨?_, ⟨h1, h2, ?_, ?_⟩, k3, k4⟩
    · simp only [List.map_cons, splice, setParts]
      rw [← hf]; exact k1
    · rw [hlen, hn]
      have : (j + 1) * sz ≤ n * sz := Nat.mul_le_mul_right _ h3
      rw [Nat.add_mul] at this
      omega
    · rw [← hf]; exact k2

theorem partsE_get {p : Bool} : ∀ {r : List (Nat × Operand)}, reqE p ov r → (partsE ov r).length = r.length ∧
    ∀ (j i : Nat) (x : Operand), r[j]? = some (i, x) → req p (ov x) ∧ (partsE ov r)[j]? = some (i, strip (ov x))
  | [], _ => by simp [partsE]
  | (o, x) :: r, h => by
    simp only [reqE] at h
    obtain ⟨h1, h2⟩ := partsE_get (p := p) h.2
    refine ⟨by simp [partsE, h1], fun j i x' hj => ?_⟩
    cases j with
    | zero => simp at hj; obtain ⟨rfl, rfl⟩ := hj; exact ⟨h.1, rfl⟩
    | succ j => simp at hj; obtain ⟨h3, h4⟩ := h2 j i x' hj; exact ⟨h3, by simpa [partsE] using h4⟩
theorem bslOK_get {n sz : Nat} : ∀ {ps : List (Nat × C)}, bslOK n sz ps → ∀ (j i : Nat) (c : C), ps[j]? = some (i, c) → cellsOK c = true
  | [], _, j, i, c, h => by simp at h
  | (i0, c0) :: ps, h, 0, i, c, hj => by simp at hj; obtain ⟨rfl, rfl⟩ := hj; exact h.1
  | (i0, c0) :: ps, h, j + 1, i, c, hj => by simp only [bslOK] at h; exact bslOK_get h.2.2.2.2.2 j i c (by simpa using hj)
theorem clL_mem : ∀ {cs : List C}, C.clL cs = true → ∀ c ∈ cs, c.cl = true
  | [], _, c, hc => by cases hc
  | c0 :: cs, h, c, hc => by
    simp only [C.clL, Bool.and_eq_true] at h
    cases List.mem_cons.1 hc with
    | inl e => subst e; exact h.1
    | inr e => exact clL_mem h.2 c e
theorem clL_of : ∀ {cs : List C}, (∀ c ∈ cs, c.cl = true) → C.clL cs = true
  | [], _ => rfl
  | c0 :: cs, h => by simp only [C.clL, Bool.and_eq_true]; exact ⟨h c0 (by simp), clL_of fun c hc => h c (by simp [hc])⟩
theorem setParts_cl {n sz : Nat} : ∀ {ps : List (Nat × C)} {es : List (List C)}, bslOK n sz ps → (∀ e ∈ es, C.clL e = true) → ∀ e ∈ setParts es ps, C.clL e = true
  | [], es, _, h, e, he => h e he
  | (i0, c0) :: ps, es, hb, h, e, he => by
    simp only [bslOK] at hb
    refine setParts_cl (es := es.set i0 (cellsS c0)) hb.2.2.2.2.2 (fun e' he' => ?_) e he
    rcases List.mem_or_eq_of_mem_set he' with h' | h'
    · exact h e' h'
    · rw [h']; exact hb.2.1
theorem setParts_ones {n sz : Nat} : ∀ {ps : List (Nat × C)} {es : List (List C)}, bslOK n sz ps → (∀ e ∈ es, C.ones e = true) → ∀ e ∈ setParts es ps, C.ones e = true
  | [], es, _, h, e, he => h e he
  | (i0, c0) :: ps, es, hb, h, e, he => by
    simp only [bslOK] at hb
    refine setParts_ones (es := es.set i0 (cellsS c0)) hb.2.2.2.2.2 (fun e' he' => ?_) e he
    rcases List.mem_or_eq_of_mem_set he' with h' | h'
    · exact h e' h'
    · rw [h']; exact hb.2.2.1
theorem ones_mem : ∀ {cs : List C}, C.ones cs = true → ∀ c ∈ cs, c.one = true
  | [], _, c, hc => by cases hc
  | c0 :: cs, h, c, hc => by
    simp only [C.ones, Bool.and_eq_true] at h
    cases List.mem_cons.1 hc with
    | inl e => subst e; exact h.1
    | inr e => exact ones_mem h.2 c e
theorem ones_of : ∀ {cs : List C}, (∀ c ∈ cs, c.one = true) → C.ones cs = true
  | [], _ => rfl
  | c0 :: cs, h => by simp only [C.ones, Bool.and_eq_true]; exact ⟨h c0 (by simp), ones_of fun c hc => h c (by simp [hc])⟩
theorem flat_cl {es : List (List C)} (h : ∀ e ∈ es, C.clL e = true) : C.clL es.flatten = true := clL_of fun c hc => by
  obtain ⟨e, he, hce⟩ := List.mem_flatten.1 hc
  exact clL_mem (h e he) c hce
theorem flat_ones {es : List (List C)} (h : ∀ e ∈ es, C.ones e = true) : C.ones es.flatten = true := ones_of fun c hc => by
  obtain ⟨e, he, hce⟩ := List.mem_flatten.1 hc
  exact ones_mem (h e he) c hce
theorem vs_cl (l : List Value) : C.clL (l.map .v) = true := clL_of fun c hc => by obtain ⟨x, _, rfl⟩ := List.mem_map.1 hc; rfl
theorem vs_ones {l : List Value} (h : oneAll l = true) : C.ones (l.map .v) = true := ones_of fun c hc => by obtain ⟨x, hx, rfl⟩ := List.mem_map.1 hc; exact oneAll_spec h x hx
end
end Go.Proofs.YtaicmkocmnikjaaDoor.Eng
