/- Scripts that are made: valid; their texts are read back. -/
import Derived.Test.YtaicmkocmnikjaaDoorRe
import Derived.Test.YtaicmkocmnikjaaDoorF5
namespace Go.Proofs.YtaicmkocmnikjaaDoor
set_option linter.all false
open Go Go.RowKit Eng

set_option maxRecDepth 10000
set_option maxHeartbeats 1000000

theorem numL_small : ∀ v : Fin 61, numL (Lib.itoa (v.1 : Int)) = some (v.1 : Int) := by decide +kernel
theorem wix_small : ∀ k : Fin 6, wix (wordB (k.1 : Int)).data.toList = some k.1 := by decide +kernel
theorem word_plain : ∀ k : Fin 6, (32 : UInt8) ∉ (wordB (k.1 : Int)).data.toList ∧ (10 : UInt8) ∉ (wordB (k.1 : Int)).data.toList := by decide +kernel
def lineOf (x : Ft) : List UInt8 := Lib.itoa x.tick ++ 32 :: ((wordB x.kind).data.toList ++ 32 :: Lib.itoa x.n)
theorem fin_int {n : Int} {k : Nat} (h0 : 0 ≤ n) (h : n < k) : ∃ v : Fin k, n = (v.1 : Int) := ⟨⟨n.toNat, by omega⟩, by simp; omega⟩
theorem lineF_line {x : Ft} (h : FtSmall x) : lineF (lineOf x) = some x ∧ (10 : UInt8) ∉ lineOf x := by
  obtain ⟨t, k, n⟩ := x
  obtain ⟨h1, h2, h3, h4, h5, h6⟩ := h
  simp only at h1 h2 h3 h4 h5 h6
  obtain ⟨vt, rfl⟩ := fin_int (k := 61) h1 (by omega)
  obtain ⟨vk, rfl⟩ := fin_int (k := 6) h3 (by omega)
  obtain ⟨vn, rfl⟩ := fin_int (k := 61) h5 (by omega)
  obtain ⟨w1, w2⟩ := word_plain vk
  have s1 : (32 : UInt8) ∉ Lib.itoa (vt.1 : Int) := fun hm => (itoa_ne _ _ hm).1 rfl
  have s2 : (32 : UInt8) ∉ Lib.itoa (vn.1 : Int) := fun hm => (itoa_ne _ _ hm).1 rfl
  have n1 : (10 : UInt8) ∉ Lib.itoa (vt.1 : Int) := fun hm => (itoa_ne _ _ hm).2 rfl
  have n2 : (10 : UInt8) ∉ Lib.itoa (vn.1 : Int) := fun hm => (itoa_ne _ _ hm).2 rfl
  refine ⟨?_, ?_⟩
  · unfold lineF lineOf
    simp only
    rw [spl_hit s1, spl_hit w1, spl_none s2]
    simp only
    rw [numL_small vt, numL_small vn, wix_small vk]
  · unfold lineOf
    simp only [List.mem_append, List.mem_cons, not_or]
    exact ⟨n1, by decide, w2, by decide, n2⟩
theorem lineB_line (x : Ft) : (lineB x).data.toList = lineOf x ++ [10] := by
  rw [lineB_list, list_bs]
  simp [lineOf]
theorem scriptL_cons (x : Ft) (f : List Ft) : scriptL (x :: f) = lineOf x ++ 10 :: scriptL f := by
  unfold scriptL
  rw [List.flatMap_cons, lineB_line]
  simp
theorem scriptL_app (f g : List Ft) : scriptL (f ++ g) = scriptL f ++ scriptL g := by
  unfold scriptL
  rw [List.flatMap_append]
theorem cutNL_line {a r : List UInt8} (h : (10 : UInt8) ∉ a) : cutNL (a ++ 10 :: r) = some (a, r) := by
  unfold cutNL
  rw [ib_app h, if_pos (by omega)]
  simp
theorem readL_script : ∀ {f : List Ft}, (∀ x ∈ f, FtSmall x) → ∀ r, readL (scriptL f ++ r) = (readL r).map (f ++ ·)
  | [], _, r => by
    have : scriptL [] = [] := rfl
    rw [this, List.nil_append]
    cases readL r <;> simp
  | x :: f, h, r => by
    obtain ⟨h1, h2⟩ := lineF_line (h x (List.mem_cons_self ..))
    rw [scriptL_cons, List.append_assoc, List.cons_append, readL_step (by simp), cutNL_line h2]
    simp only
    rw [h1]
    simp only
    rw [readL_script fun y hy => h y (List.mem_cons_of_mem _ hy)]
    cases readL r <;> simp
theorem readL_back {f : List Ft} (h : ∀ x ∈ f, FtSmall x) : readL (scriptL f) = some f := by
  have := readL_script h []
  rw [List.append_nil, readL_nil] at this
  simpa using this

theorem down_late {l : List Ft} {n t : Int} (h : ∀ x ∈ l, x.tick ≤ t ∧ x.tick ≤ 2000) : downB l n t = downB l n 2000 := by
  unfold downB
  have : ∀ b, l.foldl (downStep n t) b = l.foldl (downStep n 2000) b := by
    induction l with
    | nil => intro b; rfl
    | cons x l ih =>
      intro b
      simp only [List.foldl_cons]
      have hx := h x (List.mem_cons_self ..)
      have : downStep n t b x = downStep n 2000 b x := by
        unfold downStep
        simp only [hx.1, hx.2, true_and]
      rw [this]
      exact ih (fun y hy => h y (List.mem_cons_of_mem _ hy)) _
  exact this false
theorem scr_le (raw : List Int) : ∀ j, ∀ x ∈ (scr raw j).1, x.tick ≤ (scr raw j).2
  | 0, x, hx => by simp [scr] at hx
  | j + 1, x, hx => by
    have hs : (scr raw (j + 1)).2 = (scr raw j).2 + at0 raw (3 * j) % 4 := rfl
    simp only [scr, scrStep, List.mem_append, List.mem_singleton] at hx
    rcases hx with hx | rfl
    · have := scr_le raw j x hx
      rw [hs]; omega
    · rw [hs]; exact Int.le_refl _
theorem ferr_app {l : List Ft} {x : Ft} {arms : Int} {i : Nat} (h : i < l.length) : ferr (l ++ [x]) arms i = ferr l arms i := by
  unfold ferr
  have h1 : (l ++ [x])[i]? = l[i]? := List.getElem?_append_left h
  have h2 : lastT (l ++ [x]) i = lastT l i := by
    unfold lastT
    split
    · rfl
    · rw [List.getElem?_append_left (by omega)]
  have h3 : (l ++ [x]).take i = l.take i := by rw [List.take_append_of_le_length (by omega)]
  rw [h1, h2, h3]
theorem scr_ok (raw : List Int) : ∀ j, j ≤ 20 → ∀ i, i < j → ferr (scr raw j).1 2 i = none
  | 0, _, i, hi => by omega
  | j + 1, hj, i, hi => by
    have hlen := scr_len raw j
    have htk := scr_tick raw j
    have hsm := scr_small raw (j + 1) hj
    have hle := scr_le raw j
    have hex : ∃ x, (scr raw (j + 1)).1 = (scr raw j).1 ++ [x] ∧ (scr raw j).2 ≤ x.tick ∧ (x.kind = 3 → downB (scr raw j).1 x.n x.tick = false) ∧ (x.kind = 4 → downB (scr raw j).1 x.n x.tick = true) := by
      refine ⟨_, rfl, by simp only; omega, ?_, ?_⟩
      · intro hk
        simp only at hk ⊢
        split at hk
        · cases hk
        · rename_i hn
          split at hk
          · rename_i h4; exact h4.2
          · rename_i h4
            cases hd : downB (scr raw j).1 (at0 raw (3 * j + 2) % 2) ((scr raw j).2 + at0 raw (3 * j) % 4) with
            | false => rfl
            | true => exact absurd ⟨hk, hd⟩ hn
      · intro hk
        simp only at hk ⊢
        split at hk
        · rename_i h3; exact h3.2
        · rename_i hn
          split at hk
          · cases hk
          · rename_i h4
            cases hd : downB (scr raw j).1 (at0 raw (3 * j + 2) % 2) ((scr raw j).2 + at0 raw (3 * j) % 4) with
            | true => rfl
            | false => exact absurd ⟨hk, hd⟩ h4
    obtain ⟨x, hx, hxt, hx3, hx4⟩ := hex
    have hxs : FtSmall x := hsm x (by rw [hx]; simp)
    rw [hx]
    rcases Nat.lt_or_ge i j with hlt | hge
    · rw [ferr_app (by omega)]
      exact scr_ok raw j (by omega) i hlt
    · have hij : i = (scr raw j).1.length := by omega
      obtain ⟨b1, b2, b3, b4, b5, b6⟩ := hxs
      have hdl : downB (scr raw j).1 x.n x.tick = downB (scr raw j).1 x.n 2000 := down_late fun y hy => by
        have := hle y hy
        omega
      have hlast : lastT ((scr raw j).1 ++ [x]) i ≤ x.tick := by
        unfold lastT
        split
        · exact b1
        · rw [List.getElem?_append_left (by omega)]
          have hi1 : i - 1 < (scr raw j).1.length := by omega
          rw [List.getElem?_eq_getElem hi1]
          have := hle _ (List.getElem_mem hi1)
          simp only [Option.map_some, Option.getD_some]
          omega
      unfold ferr
      rw [hij, List.getElem?_concat_length]
      simp only
      rw [← hij]
      have htake : ((scr raw j).1 ++ [x]).take i = (scr raw j).1 := by rw [hij]; simp
      rw [htake, ← hdl]
      rw [if_neg (by omega), if_neg (by omega), if_neg (by omega), if_neg (by omega), if_neg]
      rintro (⟨e1, e2⟩ | ⟨e1, e2⟩)
      · rw [hx3 e1] at e2; cases e2
      · rw [hx4 e1] at e2; cases e2
theorem script_ok (raw : List Int) : faultsE (scriptF raw) 2 = 0 := by
  have hlen := scr_len raw (min 20 (raw.length / 3))
  refine faultsE_none (by unfold scriptF; omega) fun i hi => scr_ok raw _ (by omega) i (by unfold scriptF at hi; omega)
end Go.Proofs.YtaicmkocmnikjaaDoor
