/- Texts of scripts, in plain words: lines, their parts, numbers. -/
import Derived.Test.YtaicmkocmnikjaaDoorFw
import Derived.Lib.SplitLaws
import Derived.Lib.CutLaws
import Derived.Lib.AtoiAll
namespace Go.Proofs.YtaicmkocmnikjaaDoor
set_option linter.all false
open Go Go.RowKit Eng

/-- the parts between spaces -/
def spl : List UInt8 → List (List UInt8)
  | [] => [[]]
  | c :: r => if c = 32 then [] :: spl r else match spl r with
    | [] => [[c]]
    | p :: ps => (c :: p) :: ps
theorem spl_ne (l : List UInt8) : spl l ≠ [] := by
  cases l with
  | nil => simp [spl]
  | cons c r => unfold spl; split <;> (try split) <;> simp
theorem spl_none : ∀ {l : List UInt8}, (32 : UInt8) ∉ l → spl l = [l]
  | [], _ => rfl
  | c :: r, h => by
    have h1 : c ≠ 32 := fun e => h (by rw [e]; exact List.mem_cons_self ..)
    have h2 : (32 : UInt8) ∉ r := fun e => h (List.mem_cons_of_mem _ e)
    unfold spl
    rw [if_neg h1, spl_none h2]
theorem spl_hit : ∀ {a r : List UInt8}, (32 : UInt8) ∉ a → spl (a ++ 32 :: r) = a :: spl r
  | [], r, _ => by simp [spl]
  | c :: a, r, h => by
    have h1 : c ≠ 32 := fun e => h (by rw [e]; exact List.mem_cons_self ..)
    have h2 : (32 : UInt8) ∉ a := fun e => h (List.mem_cons_of_mem _ e)
    rw [List.cons_append]
    conv => lhs; unfold spl
    rw [if_neg h1, spl_hit h2]
theorem mem_split {l : List UInt8} {c : UInt8} (h : c ∈ l) : ∃ a r, l = a ++ c :: r ∧ c ∉ a := by
  induction l with
  | nil => cases h
  | cons x l ih =>
    by_cases e : x = c
    · subst e; exact ⟨[], l, rfl, by simp⟩
    · rcases List.mem_cons.1 h with h | h
      · exact absurd h.symm e
      · obtain ⟨a, r, rfl, ha⟩ := ih h
        refine ⟨x :: a, r, rfl, fun hm => ?_⟩
        rcases List.mem_cons.1 hm with hm | hm
        · exact e hm.symm
        · exact ha hm
theorem spl_three {l p0 p1 p2 : List UInt8} (h : spl l = [p0, p1, p2]) : l = p0 ++ 32 :: (p1 ++ 32 :: p2) ∧ (32 : UInt8) ∉ p0 ∧ (32 : UInt8) ∉ p1 ∧ (32 : UInt8) ∉ p2 := by
  by_cases h0 : (32 : UInt8) ∈ l
  · obtain ⟨a, r, rfl, ha⟩ := mem_split h0
    rw [spl_hit ha] at h
    injection h with h1 h
    subst h1
    by_cases h2 : (32 : UInt8) ∈ r
    · obtain ⟨b, t, rfl, hb⟩ := mem_split h2
      rw [spl_hit hb] at h
      injection h with h3 h
      subst h3
      by_cases h4 : (32 : UInt8) ∈ t
      · obtain ⟨c, u, rfl, hc⟩ := mem_split h4
        rw [spl_hit hc] at h
        injection h with _ h
        exact absurd h (spl_ne _)
      · rw [spl_none h4] at h
        injection h with h _
        subst h
        exact ⟨rfl, ha, hb, h4⟩
    · rw [spl_none h2] at h
      injection h with _ h
      cases h
  · rw [spl_none h0] at h
    injection h with _ h
    cases h

theorem index_one (c : UInt8) : ∀ l : List UInt8, Lib.index l [c] = Lib.indexByte l c
  | [] => rfl
  | b :: l => by
    unfold Lib.index Lib.indexByte
    rw [index_one c l]
    have : List.isPrefixOf [c] (b :: l) = (b == c) := by
      simp only [List.isPrefixOf, Bool.and_true]
      rw [Bool.beq_comm]
    rw [this]

theorem ib_some {l : List UInt8} {c : UInt8} {i : Nat} (h : Lib.indexByte l c = i) : l = l.take i ++ c :: l.drop (i + 1) ∧ c ∉ l.take i := by
  obtain ⟨h1, h2⟩ := Lib.indexByte_some h
  have hlt : i < l.length := (List.getElem?_eq_some_iff.1 h1).1
  refine ⟨?_, fun hm => ?_⟩
  · have hd := List.drop_eq_getElem_cons hlt
    have hg : l[i] = c := by rw [List.getElem?_eq_getElem hlt] at h1; exact Option.some.inj h1
    rw [hg] at hd
    rw [← hd, List.take_append_drop]
  · obtain ⟨k, hk⟩ := List.mem_iff_getElem?.1 hm
    rw [List.getElem?_take] at hk
    split at hk
    · exact h2 k (by assumption) hk
    · cases hk
theorem ib_none {l : List UInt8} {c : UInt8} (h : Lib.indexByte l c = -1) : c ∉ l := fun hm => by
  obtain ⟨k, hk⟩ := List.mem_iff_getElem?.1 hm
  exact Lib.indexByte_none h k hk
theorem ib_app {a r : List UInt8} {c : UInt8} (h : c ∉ a) : Lib.indexByte (a ++ c :: r) c = (a.length : Int) := by
  induction a with
  | nil => simp [Lib.indexByte]
  | cons b a ih =>
    have h1 : (b == c) = false := by
      simp only [beq_eq_false_iff_ne, ne_eq]
      exact fun e => h (by rw [e]; exact List.mem_cons_self ..)
    have h2 := ih fun e => h (List.mem_cons_of_mem _ e)
    rw [List.cons_append]
    unfold Lib.indexByte
    rw [h1, h2]
    simp only [Bool.false_eq_true, if_false]
    rw [if_neg (by first | (simp; done) | (simp; omega))]
    simp only [List.length_cons]
    omega

theorem splitK_spl : ∀ (k : Nat) (s : List UInt8), s.count 32 = k → Lib.splitK [32] 0 k s = spl s
  | 0, s, h => by
    have : (32 : UInt8) ∉ s := List.count_eq_zero.1 h
    rw [spl_none this]
    rfl
  | k + 1, s, h => by
    have hm : (32 : UInt8) ∈ s := by
      apply Classical.byContradiction
      intro hn
      rw [List.count_eq_zero.2 hn] at h
      omega
    obtain ⟨a, r, rfl, ha⟩ := mem_split hm
    have hi : Lib.index (a ++ 32 :: r) [32] = (a.length : Int) := by rw [index_one, ib_app ha]
    unfold Lib.splitK
    rw [hi, if_neg (by first | (simp; done) | (simp; omega)), spl_hit ha]
    have e1 : (a ++ 32 :: r).take ((a.length : Int).toNat + 0) = a := by simp
    have e2 : (a ++ 32 :: r).drop ((a.length : Int).toNat + [(32 : UInt8)].length) = r := by
      simp only [Int.toNat_natCast, List.length_singleton]
      rw [← List.drop_drop]
      simp
    rw [e1, e2]
    have hr : r.count 32 = k := by
      rw [List.count_append, List.count_eq_zero.2 ha, List.count_cons_self] at h
      omega
    rw [splitK_spl k r hr]
def sp : ByteArray := ⟨#[32]⟩
theorem splitB_spl (l : List UInt8) : Lib.splitB sp 0 (Lib.countB (bs l) sp) (bs l) = (spl l).map bs := by
  have h1 : Lib.countB (bs l) sp = l.count 32 := by
    have : Lib.countB (bs l) sp = Lib.count (bs l).data.toList sp.data.toList := rfl
    rw [this, list_bs]
    exact Lib.count_one 32 l
  have h2 := Lib.splitB_data sp 0 (l.count 32) (bs l)
  rw [list_bs] at h2
  have h3 : sp.data.toList = [32] := rfl
  rw [h3, splitK_spl _ l rfl] at h2
  rw [h1, ← h2, List.map_map]
  have : (bs ∘ fun x : ByteArray => x.data.toList) = id := by
    funext x
    exact bs_list x
  rw [this, List.map_id]

/-! ### Digits -/
theorem digit_ne {d : Nat} (h : d < 10) : UInt8.ofNat (48 + d) ≠ 32 ∧ UInt8.ofNat (48 + d) ≠ 10 := by
  have : d = 0 ∨ d = 1 ∨ d = 2 ∨ d = 3 ∨ d = 4 ∨ d = 5 ∨ d = 6 ∨ d = 7 ∨ d = 8 ∨ d = 9 := by omega
  rcases this with rfl | rfl | rfl | rfl | rfl | rfl | rfl | rfl | rfl | rfl <;> decide
theorem dec_ne (u : Nat) : ∀ c ∈ Lib.decDigits u, c ≠ 32 ∧ c ≠ 10 := by
  induction u using Nat.strongRecOn with
  | _ u ih =>
    intro c hc
    rw [Lib.decDigits] at hc
    split at hc
    · rename_i h
      simp only [List.mem_singleton] at hc
      subst hc
      exact digit_ne h
    · rcases List.mem_append.1 hc with hc | hc
      · exact ih _ (by omega) c hc
      · simp only [List.mem_singleton] at hc
        subst hc
        exact digit_ne (Nat.mod_lt _ (by decide))
theorem itoa_ne (n : Int) : ∀ c ∈ Lib.itoa n, c ≠ 32 ∧ c ≠ 10 := by
  intro c hc
  unfold Lib.itoa at hc
  split at hc
  · rcases List.mem_cons.1 hc with rfl | hc
    · decide
    · exact dec_ne _ c hc
  · exact dec_ne _ c hc

/-! ### A line -/
def numL (p : List UInt8) : Option Int :=
  match Lib.atoiAll p with
  | .ok v => if 0 ≤ v ∧ Lib.itoa v = p then some v else none
  | _ => none
def wix (p : List UInt8) : Option Nat := wordsL.findIdx? fun w => decide (w = bs p)
def lineF (l : List UInt8) : Option Ft :=
  match spl l with
  | [p0, p1, p2] => match numL p0, numL p2, wix p1 with
    | some a, some b, some k => some ⟨a, k, b⟩
    | _, _, _ => none
  | _ => none
def lineR (l : List UInt8) : Option Ft :=
  match spl l with
  | [p0, p1, p2] => match wix p1, Lib.atoiAll p0, Lib.atoiAll p2 with
    | some k, .ok a, .ok b => if 0 ≤ a ∧ 0 ≤ b ∧ lineB ⟨a, k, b⟩ = bs (l ++ [10]) then some ⟨a, k, b⟩ else none
    | _, _, _ => none
  | _ => none

theorem app_space {a b c d : List UInt8} (ha : (32 : UInt8) ∉ a) (hb : (32 : UInt8) ∉ b) (h : a ++ 32 :: c = b ++ 32 :: d) : a = b ∧ c = d := by
  have h1 := ib_app (r := c) ha
  have h2 := ib_app (r := d) hb
  rw [h, h2] at h1
  have hl : a.length = b.length := by omega
  have := List.append_inj h hl
  exact ⟨this.1, by have := this.2; injection this⟩
theorem wix_word {p : List UInt8} {k : Nat} (h : wix p = some k) : k ≤ 5 ∧ wordB k = bs p := by
  unfold wix at h
  rw [List.findIdx?_eq_some_iff_getElem] at h
  obtain ⟨h1, h2, _⟩ := h
  have hw : wordsL.length = 6 := rfl
  refine ⟨by omega, ?_⟩
  unfold wordB
  rw [Int.toNat_natCast, List.getElem?_eq_getElem h1]
  simpa using h2
theorem lineB_list (x : Ft) : lineB x = bs (Lib.itoa x.tick ++ 32 :: ((wordB x.kind).data.toList ++ 32 :: (Lib.itoa x.n ++ [10]))) := by
  unfold lineB itoaB
  have h1 : (ByteArray.mk #[32]) = bs [32] := rfl
  have h2 : (ByteArray.mk #[10]) = bs [10] := rfl
  have h3 : wordB x.kind = bs (wordB x.kind).data.toList := (bs_list _).symm
  rw [h1, h2]
  conv => lhs; rw [h3]
  simp only [bs_app, List.append_assoc, List.cons_append, List.nil_append]
theorem bs_inj {a b : List UInt8} (h : bs a = bs b) : a = b := by
  have := congrArg (fun x : ByteArray => x.data.toList) h
  simpa [list_bs] using this
theorem lineF_eq (l : List UInt8) : lineF l = lineR l := by
  unfold lineF lineR
  split
  · rename_i p0 p1 p2 hs
    obtain ⟨hl, h0, h1, h2⟩ := spl_three hs
    cases hw : wix p1 with
    | none =>
      cases numL p0 <;> cases numL p2 <;> rfl
    | some k =>
      obtain ⟨hk5, hkw⟩ := wix_word hw
      unfold numL
      rcases ha : Lib.atoiAll p0 with a | _ | _
      · rcases hb : Lib.atoiAll p2 with b | _ | _
        · skip
          simp only
          have hiff : (0 ≤ a ∧ 0 ≤ b ∧ lineB ⟨a, k, b⟩ = bs (l ++ [10])) ↔ ((0 ≤ a ∧ Lib.itoa a = p0) ∧ (0 ≤ b ∧ Lib.itoa b = p2)) := by
            rw [lineB_list]
            simp only
            rw [hkw, list_bs, hl]
            constructor
            · rintro ⟨g1, g2, g3⟩
              have g4 := bs_inj g3
              simp only [List.append_assoc, List.cons_append] at g4
              obtain ⟨e1, e2⟩ := app_space (fun hm => (itoa_ne a _ hm).1 rfl) h0 g4
              obtain ⟨_, e3⟩ := app_space h1 h1 e2
              exact ⟨⟨g1, e1⟩, g2, List.append_cancel_right e3⟩
            · rintro ⟨⟨g1, rfl⟩, g2, rfl⟩
              exact ⟨g1, g2, by simp⟩
          by_cases hc : 0 ≤ a ∧ 0 ≤ b ∧ lineB ⟨a, k, b⟩ = bs (l ++ [10])
          · obtain ⟨g1, g2⟩ := hiff.1 hc
            rw [if_pos hc, if_pos g1, if_pos g2]
          · rw [if_neg hc]
            by_cases g1 : 0 ≤ a ∧ Lib.itoa a = p0
            · have g2 : ¬ (0 ≤ b ∧ Lib.itoa b = p2) := fun g2 => hc (hiff.2 ⟨g1, g2⟩)
              rw [if_pos g1, if_neg g2]
            · rw [if_neg g1]
        · simp only; split <;> simp_all
        · simp only; split <;> simp_all
      · simp only
      · simp only
  · rfl

/-- the script of a text -/
def cutNL (l : List UInt8) : Option (List UInt8 × List UInt8) := if 0 ≤ Lib.indexByte l 10 then some (l.take (Lib.indexByte l 10).toNat, l.drop ((Lib.indexByte l 10).toNat + 1)) else none
def readF : Nat → List UInt8 → Option (List Ft)
  | 0, _ => none
  | n + 1, l => if l = [] then some [] else match cutNL l with
    | none => none
    | some (a, r) => match lineF a with
      | none => none
      | some x => (readF n r).map (x :: ·)
theorem cutNL_lt {l a r : List UInt8} (h : cutNL l = some (a, r)) : r.length < l.length ∧ l = a ++ 10 :: r ∧ (10 : UInt8) ∉ a := by
  unfold cutNL at h
  split at h
  · rename_i h0
    obtain ⟨i, hi⟩ : ∃ i : Nat, Lib.indexByte l 10 = i := ⟨(Lib.indexByte l 10).toNat, by omega⟩
    rw [hi] at h
    simp only [Int.toNat_natCast, Option.some.injEq, Prod.mk.injEq] at h
    obtain ⟨rfl, rfl⟩ := h
    obtain ⟨e1, e2⟩ := ib_some hi
    refine ⟨?_, e1, e2⟩
    have := congrArg List.length e1
    simp only [List.length_append, List.length_cons] at this
    omega
  · cases h
theorem readF_fuel : ∀ (n m : Nat) (l : List UInt8), l.length < n → l.length < m → readF n l = readF m l
  | 0, _, _, h, _ => by omega
  | _, 0, _, _, h => by omega
  | n + 1, m + 1, l, h1, h2 => by
    unfold readF
    split
    · rfl
    · split
      · rfl
      · rename_i a r hc
        obtain ⟨h3, _, _⟩ := cutNL_lt hc
        rw [readF_fuel n m r (by omega) (by omega)]
def readL (l : List UInt8) : Option (List Ft) := readF (l.length + 1) l
theorem readL_nil : readL [] = some [] := rfl
theorem readL_step {l : List UInt8} (h : l ≠ []) : readL l = match cutNL l with
    | none => none
    | some (a, r) => match lineF a with
      | none => none
      | some x => (readL r).map (x :: ·) := by
  have e : readL l = readF (l.length + 1) l := rfl
  rw [e]
  unfold readF
  rw [if_neg h]
  split
  · rfl
  · rename_i a r hc
    obtain ⟨h3, _, _⟩ := cutNL_lt hc
    rw [readF_fuel l.length (r.length + 1) r (by omega) (by omega)]
    rfl
end Go.Proofs.YtaicmkocmnikjaaDoor
