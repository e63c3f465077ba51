/- The effects are sound: one operation. -/
import Derived.Test.YtaicmkocmnikjaaEff
import Derived.Lib.AppendStr
namespace Go.Proofs.Ytaicmkocmnikjaa.Eng
set_option linter.all false
open Go Go.RowKit

section
variable {E : Ctx} {ν : List Value} {st : St} {a : Act} {w : World}

/-- a slice value that holds the cells 'news' -/
def Holds (w : World) (y : Value) (m sz : Nat) (news : List Value) : Prop :=
  ∃ A c, y = .slice A m c ∧ news.length = m * sz ∧ (0 < m → ∃ ad, A = some ad ∧ ∀ j u, news[j]? = some u → w.cell? (ad.add j) = some u)

theorem run_append_of_nil {P : Program} (w : World) (base : Nat) (t ty e : TypeId) (i : TypeInfo) (size : Nat) (ht : P.underlying t = some (.slice e)) (hi : P.info? e = some i)
    (v : Value) (n : Nat) (xs : List Value) (hown : w.ownsRow base e size v n xs) (c : Nat) : (Builtin.append_ #[t, t] ty #[v, .slice none 0 c]).run P w = .ok v w := by
  rcases hown.2 with ⟨rfl, rfl⟩ | ⟨g, cap, cur, rfl, _, _, hnc, _⟩
  · simp [Builtin.append_, run_underlying ht, sizeOf, typeInfo, hi, Builtin.lenOf, Builtin.firstCells]
  · simp [Builtin.append_, run_underlying ht, sizeOf, typeInfo, hi, Builtin.lenOf, Builtin.firstCells, hnc, storeCells]

theorem run_append_any {P : Program} (w : World) (base : Nat) (t ty e : TypeId) (i : TypeInfo) (z : Value) (ht : P.underlying t = some (.slice e)) (hi : P.info? e = some i) (hz : i.zero = some z)
    (hzs : z.cells.size = i.size) (hsz : 0 < i.size)
    (v : Value) (n : Nat) (xs : List Value) (hown : w.ownsRow base e i.size v n xs)
    (y : Value) (m : Nat) (news : List Value) (hr : Holds w y m i.size news) (h1 : ∀ u ∈ news, u.oneCell' = true)
    (h63 : n + m ≤ maxLen) (hbytes : (n + m) * i.bytes ≤ 140737488355328) (hbase : base ≤ w.heap.size) :
    ∃ v' w', (Builtin.append_ #[t, t] ty #[v, y]).run P w = .ok v' w' ∧ w'.ownsRow base e i.size v' (n + m) (xs ++ news) ∧ w.grownBy w' v.ownBlock ∧
      (v'.ownBlock = v.ownBlock ∨ v'.ownBlock = some w.heap.size) := by
  obtain ⟨A, c, rfl, hl, hr⟩ := hr
  rcases A with _ | ad
  · have hm : m = 0 := by
      rcases Nat.eq_zero_or_pos m with h0 | h0
      · exact h0
      · obtain ⟨ad, h, _⟩ := hr h0
        cases h
    subst hm
    have hn : news = [] := List.eq_nil_of_length_eq_zero (by simpa using hl)
    subst hn
    exact ⟨v, w, run_append_of_nil w base t ty e i i.size ht hi v n xs hown c, by simpa using hown, ⟨rfl, rfl, rfl, Nat.le_refl _, fun _ _ _ => rfl⟩, .inl rfl⟩
  · have hcells : ∀ j u, news[j]? = some u → w.cell? (ad.add j) = some u := by
      intro j u hu
      rcases Nat.eq_zero_or_pos m with h0 | h0
      · subst h0
        have hn : news = [] := List.eq_nil_of_length_eq_zero (by simpa using hl)
        subst hn
        simp at hu
      · obtain ⟨ad', h, hc⟩ := hr h0
        injection h with h
        subst h
        exact hc j u hu
    obtain ⟨v', w', hrun, h2, h3, _, h5⟩ := run_append_own_at (P := P) w base t ty e i z i.size i.bytes ht hi hz rfl rfl hzs hsz v n xs hown ad m c news hl hcells h1 h63 hbytes hbase
    exact ⟨v', w', hrun, h2, h3, h5⟩

theorem run_append_str {P : Program} (w : World) (base : Nat) (t u ty e : TypeId) (i : TypeInfo) (ht : P.underlying t = some (.slice e)) (hu : P.underlying u = some .string) (hi : P.info? e = some i) (hz : i.zero = some (.int .u8 0))
    (hsize : i.size = 1) (hby : i.bytes = 1) (v : Value) (n : Nat) (xs : List Value) (hown : w.ownsRow base e 1 v n xs) (s : ByteArray) (hb : n + s.size ≤ 140737488355328) (hbase : base ≤ w.heap.size) :
    ∃ v' w', (Builtin.append_ #[t, u] ty #[v, .string s]).run P w = .ok v' w' ∧ w'.ownsRow base e 1 v' (n + s.size) (xs ++ Lib.strCells s) ∧ w.grownBy w' (blockOf v) ∧ (blockOf v' = blockOf v ∨ blockOf v' = some w.heap.size) := by
  obtain ⟨v', w', hrun, h1, h2, _⟩ := Lib.run_append_own_string w base t u ty e i ht hu hi hz hsize hby v n xs hown s (by simp only [maxLen]; omega) hb hbase
  have hob : v.ownBlock = blockOf v := by
    rcases hown.2 with ⟨rfl, _⟩ | ⟨g, cap, cur, rfl, _⟩ <;> rfl
  rw [hob] at h2
  refine ⟨v', w', hrun, h1, h2, ?_⟩
  have same : ∀ {v'' : Value} {w'' : World}, (Builtin.append_ #[t, u] ty #[v, .string s]).run P w = .ok v'' w'' → v' = v'' := fun h => by
    rw [hrun] at h; injection h
  rcases hown.2 with ⟨rfl, rfl⟩ | ⟨g, cap, cur, rfl, hbg, hg, hnc, hcm, hcs, htake⟩
  · by_cases hm : s.size = 0
    · refine .inl ?_
      rcases h1.2 with ⟨rfl, _⟩ | ⟨g', cap', cur', rfl, _⟩
      · rfl
      · have hf := Lib.run_firstCells_string (P := P) w 1 s
        rw [hm] at hf
        have : (Builtin.append_ #[t, u] ty #[.slice none 0 0, .string s]).run P w = .ok (.slice none 0 0) w := by
          simp [Builtin.append_, run_underlying ht, run_underlying hu, sizeOf, typeInfo, hi, hsize, Builtin.lenOf, hm, hf]
        have := same this
        cases this
    · have := same (run_append_nil_string (P := P) w t u ty e i (.int .u8 0) ht hu hi hz s (by omega) (by omega) (by rw [hby]; omega))
      subst this
      exact .inr rfl
  · by_cases hroom : n + s.size ≤ cap
    · have hcs' : cur.size = cap := by simpa using hcs
      have := same (Lib.run_append_room_string (P := P) w t u ty e i ht hu hi hsize g n cap cur hg s hroom (by omega))
      subst this
      exact .inl rfl
    · have holds : ∀ j u, xs[j]? = some u → w.cell? ((⟨g, 0, none⟩ : Addr).add j) = some u := hown.cells (g := g) rfl
      have := same (Lib.run_append_grow_string (P := P) w t u ty e i (.int .u8 0) ht hu hi hz ⟨g, 0, none⟩ n cap xs (by rw [hsize]; simpa using hown.1) holds s (by omega) (by omega) (by rw [hby]; exact growslice_fits (by omega) (by omega)))
      subst this
      exact .inr rfl

theorem own_holds {B : Nat} {e : TypeId} {sz m : Nat} {y : Value} {vs : List Value} (h : w.ownsRow B e sz y m vs) : Holds w y m sz vs := by
  rcases h.2 with ⟨rfl, rfl⟩ | ⟨g, cap, cur, rfl, _⟩
  · exact ⟨none, 0, rfl, h.1, fun h0 => absurd h0 (by omega)⟩
  · exact ⟨_, _, rfl, h.1, fun _ => ⟨_, rfl, h.cells (g := g) rfl⟩⟩

theorem flat_get {sz : Nat} (f : Nat → List Value) : ∀ (n : Nat), (∀ i, i < n → (f i).length = sz) → ((List.range n).flatMap f).length = n * sz ∧
    ∀ j u, ((List.range n).flatMap f)[j]? = some u → ∃ i r, i < n ∧ j = i * sz + r ∧ (f i)[r]? = some u
  | 0, _ => by simp
  | n + 1, h => by
    obtain ⟨h1, h2⟩ := flat_get f n (fun i hi => h i (by omega))
    have hn := h n (by omega)
    rw [List.range_succ, List.flatMap_append]
    refine ⟨by rw [List.length_append, h1]; simp [hn, Nat.add_mul], fun j u hu => ?_⟩
    rw [List.getElem?_append] at hu
    split at hu
    · obtain ⟨i, r, hi, he, hr⟩ := h2 j u hu
      exact ⟨i, r, by omega, he, hr⟩
    · rename_i hge
      rw [h1] at hge hu
      simp at hu
      exact ⟨n, j - n * sz, by omega, by omega, hu⟩

theorem sli_holds {S : Nat → Prop} {s : Sli} {q : World} (hs : SliOK q S s) (hw : ∀ b, S b → b < w.heap.size ∧ w.heap[b]? = q.heap[b]?) : Holds w s.val s.n s.sz ((List.range s.n).flatMap s.at_) := by
  obtain ⟨A, c, hv, _, hlen, _, hc⟩ := hs
  obtain ⟨h1, h2⟩ := flat_get s.at_ s.n hlen
  refine ⟨A, c, hv, h1, fun h0 => ?_⟩
  obtain ⟨ad, rfl, hS, hcell⟩ := hc h0
  refine ⟨ad, rfl, fun j u hu => ?_⟩
  obtain ⟨i, r, hi, rfl, hr⟩ := h2 j u hu
  have h3 := hcell i hi r u hr
  rw [← h3]
  refine World.cell?_of_block ?_
  have hb : (ad.add (i * s.sz + r)).block = ad.block := by unfold Addr.add; split <;> rfl
  rw [hb]
  exact (hw ad.block hS).2

theorem srcOf_sound {sz : Nat} {s : SV} {k : Option Nat} {K : Nat → List SV → Prop} (h : srcOf st sz s k K) : ∃ m ys, K m ys ∧ ∀ (E : Ctx) ν a w, Good E ν st a w → ∀ y, Den ν st.sl s y → ∃ vs, DenL ν st.sl ys vs ∧ (∀ u ∈ vs, u.oneCell' = true) ∧ Holds w y m sz vs := by
  unfold srcOf at h
  split at h
  · rename_i l
    obtain ⟨_, h⟩ := h
    split at h
    · rename_i te z m ys hl
      obtain ⟨rfl, h⟩ := h
      refine ⟨_, _, h, fun E ν a w hG y hy => ?_⟩
      simp only [Den] at hy
      obtain ⟨x, hx, vs, hD, h1, hown⟩ := hG.res l _ hl
      rw [hx] at hy
      injection hy with hy
      subst hy
      exact ⟨vs, hD, h1, own_holds hown⟩
    · exact h.elim
  · rename_i j
    split at h
    · rename_i q hq
      obtain ⟨rfl, h⟩ := h
      refine ⟨_, _, h, fun E ν a w hG y hy => ?_⟩
      simp only [Den] at hy
      obtain ⟨s, hs, rfl⟩ := hy
      rw [hq] at hs
      injection hs with hs
      subst hs
      obtain ⟨sn, hsn, hok⟩ := hG.sls q (List.mem_of_getElem? hq)
      refine ⟨_, DenL.vs _, fun u hu => ?_, sli_holds hok (hG.sn sn (List.mem_of_getElem? hsn))⟩
      obtain ⟨i, hi, hu⟩ := List.mem_flatMap.1 hu
      obtain ⟨_, _, _, _, _, hone, _⟩ := hok
      exact hone i (List.mem_range.1 hi) u hu
    · exact h.elim
  · exact h.elim

theorem onesS_den (hG : Good E ν st a w) : ∀ {cs : List SV} {vs : List Value}, DenL ν st.sl cs vs → onesS st cs → ∀ u ∈ vs, u.oneCell' = true
  | [], vs, h, _ => by simp only [DenL] at h; subst h; simp
  | c :: cs, vs, h, ho => by
    simp only [DenL] at h
    obtain ⟨y, ys, rfl, h1, h2⟩ := h
    intro u hu
    cases List.mem_cons.1 hu with
    | inl e => subst e; exact oneS_den hG h1 ho.1
    | inr e => exact onesS_den hG h2 ho.2 u e

theorem grown_alloc (w : World) (o : Obj) : Below w.heap.size w (w.alloc o) := (Below.refl _ _).alloc (Nat.le_refl _) _
theorem grown_setRow (w : World) (g : Nat) (cs : Array Value) : w.grownBy (w.setRow g cs) (some g) :=
  ⟨rfl, rfl, rfl, by simp, fun k _ hk => setRow_other w g k _ (fun e => hk (by rw [e]))⟩

theorem ownBlock_blockOf {A : Option Addr} {n c : Nat} : (Value.slice A n c).ownBlock = blockOf (.slice A n c) := by
  cases A <;> rfl

/-- a store into a block that is known -/
theorem run_store_block {P : Program} {t : TypeId} {i : TypeInfo} {b off : Nat} {te : TypeId} {cur : Array Value} {y : Value} (hi : P.info? t = some i) (hb : w.heap[b]? = some (.cells cur te (0, 0)))
    (hl : y.cells.toList.length = i.size) (hfit : off + i.size ≤ cur.size) (h1 : ∀ u ∈ y.cells.toList, u.oneCell' = true) :
    (Instr.storeAt t (.pointer (some ⟨b, off, none⟩)) y).run P w = .ok () (w.setRow b (cur.toList.take off ++ y.cells.toList ++ cur.toList.drop (off + i.size)).toArray) := by
  have hst := run_storeCells_at P b off te y.cells.toList 0 cur w hb (by rw [hl]; simpa using hfit) h1
  simp only [Nat.add_zero, hl] at hst
  have hs : y.cells.size = i.size := by simpa using hl
  simp [Instr.storeAt, Instr.sureAddr, storeVar, sizeOf, typeInfo, hi, hs, hst]

theorem exec_callv {a : Act} {c : Call} {x : Operand} {f : Nat} {caps : List Value} {ty : TypeId} {dst : Option Tmp} {pos : String} {after : Array Edge} {guard : Option (Nat × Bool)} (hc : c.callee = .value x) (hx : a.eval x = .func (.func f) #[] caps.toArray) :
    execOp a.eval { dst, op := .call c, type := ty, pos, after, guard } = callFunc f (c.args.toList.map a.eval ++ caps).toArray := by
  obtain ⟨cal, args, ats⟩ := c
  simp only at hc
  subst hc
  have : execOp a.eval { dst, op := .call { callee := .value x, args, argTypes := ats }, type := ty, pos, after, guard } = (Deferred.ofValue (a.eval x) (args.map a.eval) >>= fun d => invoke d.target d.args) := rfl
  rw [this, hx]
  obtain ⟨args⟩ := args
  have h2 : (Deferred.ofValue (.func (.func f) #[] caps.toArray) ((⟨args⟩ : Array Operand).map a.eval) >>= fun d => invoke d.target d.args) = callFunc f (#[] ++ (⟨args⟩ : Array Operand).map a.eval ++ caps.toArray) := rfl
  rw [h2]
  simp

set_option maxHeartbeats 1000000 in
theorem evU_sound {oo : Oper} {io : IOp} (his : Is E.P oo.type oo.op io) (hd : dstOK E.N oo.dst = true) {p : Bool} {K : St → Prop} (h : evU E st p oo.dst io K) (hG : Good E ν st a w) (hp : p = true)
    {K' : Act → World → Prop} {Q : Exit → Act → World → Prop} (hK : ∀ st' ν' a' w', K st' → Good E ν' st' a' w' → K' a' w') : oo.wp E.P a w K' Q := by
  have pure_case : (pureP st p io fun s => K (st.put oo.dst s)) → oo.wp E.P a w K' Q := fun h => by
    obtain ⟨s, hs, hy⟩ := pureP_sound his h
    exact wp_of_yl (hy ν a w hG hp) fun y hden => hK _ ν _ _ hs (hG.put hd hden)
  have val_case : ∀ (w' : World) (y : Value) (st' : St) (ν' : List Value) (s : SV), (execOp a.eval oo).run E.P w = .ok (.value y) w' → Good E ν' st' a w' → Den ν' st'.sl s y → K (st'.put oo.dst s) → oo.wp E.P a w K' Q := by
    intro w' y st' ν' s hrun hG' hden hk
    unfold Oper.wp
    rw [hrun]
    exact hK _ ν' _ _ hk (hG'.put hd hden)
  have call_case : ∀ (f : Nat) (sv : List SV) (vs : List Value), (execOp a.eval oo).run E.P w = .ok (.enter f vs.toArray) w → DenL ν st.sl sv vs → CallOK E st f sv (fun st' s => K (st'.put oo.dst s)) → oo.wp E.P a w K' Q := by
    intro f sv vs hrun hD hc
    unfold Oper.wp
    rw [hrun]
    refine (hc ν a w vs hG hD).mono ?_
    rintro e w' ⟨y, st', s, ν', rfl, hk, hG', hden⟩
    exact hK _ ν' _ _ hk (hG'.put hd hden)
  obtain ⟨dst, op, ty, pos, after, guard⟩ := oo
  simp only at his hd pure_case val_case call_case h
  cases his with
  | alloc t i z hi hz =>
    obtain ⟨h1, h⟩ := h
    refine val_case (w.alloc (.cells z.cells t)) (.pointer (some ⟨w.heap.size, 0, none⟩)) _ (ν ++ [.pointer (some ⟨w.heap.size, 0, none⟩)]) _ ?_ ?_ ?_ h
    · simp [execOp, Instr.alloc, newVar, newRow, zeroValue, typeInfo, hi, hz]
    · refine hG.add (grown_alloc w _) (fun b hb => by simp [fp, blockOf] at hb; omega) ?_
      exact ⟨w.heap.size, z.cells.toList, rfl, hG.hB, DenL.vs _, h1, by simpa using heap_alloc_new w (.cells z.cells t)⟩
    · exact ⟨w.heap.size, by rw [← hG.len]; simp, rfl⟩
  | box t x =>
    obtain ⟨h0, h1, h2, h⟩ := h
    have e1 := opS hG hp h0
    have hc := cellsS_den hG e1 h1
    refine val_case (w.alloc (.cells (a.eval x).cells t)) (.pointer (some ⟨w.heap.size, 0, none⟩)) _ (ν ++ [.pointer (some ⟨w.heap.size, 0, none⟩)]) _ ?_ ?_ ?_ h
    · simp [execOp, Instr.box, newVar, newRow]
    · refine hG.add (grown_alloc w _) (fun b hb => by simp [fp, blockOf] at hb; omega) ?_
      exact ⟨w.heap.size, (a.eval x).cells.toList, rfl, hG.hB, denL_ext _ hc, onesS_den hG hc h2, by simpa using heap_alloc_new w (.cells (a.eval x).cells t)⟩
    · exact ⟨w.heap.size, by rw [← hG.len]; simp, rfl⟩
  | store t x y i hi =>
    obtain ⟨h0, h1, h2, h3, h4, h⟩ := h
    have e1 := opS hG hp h0
    have e2 := opS hG hp h1
    have hc := cellsS_den hG e2 h2
    have ho := onesS_den hG hc h3
    have hlen : (a.eval y).cells.toList.length = i.size := by rw [hc.length, h4]
    have fin : ∀ (w' : World) (st' : St), (Instr.storeAt t (a.eval x) (a.eval y)).run E.P w = .ok () w' → Good E ν st' a w' → K (st'.put dst (.v undef)) → Oper.wp E.P { dst, op := .store t x y, type := ty, pos, after, guard } a w K' Q := by
      intro w' st' hrun hG' hk
      unfold Oper.wp
      have : (execOp a.eval { dst, op := .store t x y, type := ty, pos, after, guard }).run E.P w = .ok .skip w' := by simp [execOp, hrun]
      rw [this]
      exact hK _ ν _ _ hk (hG'.put hd (by simp [Den]))
    split at h
    · rename_i k off hx
      split at h
      · rename_i tb cs hk
        obtain ⟨hfit, h⟩ := h
        rw [hx] at e1
        simp only [Den] at e1
        obtain ⟨b, hb, e1⟩ := e1
        obtain ⟨xk, hxk, b', vs, rfl, hB, hD, hone, hh⟩ := hG.res k _ hk
        rw [hb] at hxk
        injection hxk with hxk
        injection hxk with hxk; injection hxk with hxk; injection hxk with hxk
        subst hxk
        have hrun := run_store_block (P := E.P) (w := w) (y := a.eval y) (off := off) hi hh hlen (by simp [hD.length]; exact hfit) ho
        refine fin _ _ (by rw [e1]; exact hrun) (hG.upd (r' := .box tb (cs.take off ++ cellsS (strip (opv st y)) ++ cs.drop (off + i.size))) hk hb (turned_grown (grown_setRow w b _) (fun b' h' => h')) (fun b' h' => .inl h') ?_) h
        refine ⟨b, vs.take off ++ (a.eval y).cells.toList ++ vs.drop (off + i.size), rfl, hB, ((hD.take _).append hc).append (hD.drop _), ?_, ?_⟩
        · intro u hu
          simp only [List.append_assoc, List.mem_append] at hu
          rcases hu with hu | hu | hu
          · exact hone u (List.mem_of_mem_take hu)
          · exact ho u hu
          · exact hone u (List.mem_of_mem_drop hu)
        · rw [setRow_heap w b _ _ tb (0, 0) hh]
      · exact h.elim
    · rename_i k off hx
      split at h
      · rename_i te z n xs hk
        obtain ⟨hfit, h⟩ := h
        rw [hx] at e1
        simp only [Den] at e1
        obtain ⟨b, n', c, hb, e1⟩ := e1
        obtain ⟨xk, hxk, vs, hD, hone, hown⟩ := hG.res k _ hk
        rw [hb] at hxk
        injection hxk with hxk
        subst hxk
        have hvl := hD.length
        obtain ⟨hl1, hown2⟩ := hown
        rcases hown2 with ⟨hbad, _⟩ | ⟨g, cap, cur, hv, hg, hh, hnc, hcm, hcs, htake⟩
        · cases hbad
        · injection hv with hv hv2 hv3
          injection hv with hv; injection hv with hv
          subst hv hv2 hv3
          have hcl : cur.toList.length = n' * 0 + cur.size := by simp
          have hnz : n' * z ≤ cur.size := by rw [hcs]; exact Nat.mul_le_mul_right _ hnc
          have hrun := run_store_block (P := E.P) (w := w) (y := a.eval y) (off := off) hi hh hlen (by omega) ho
          have htk : cur.toList.take off = vs.take off := by
            rw [← htake, List.take_take, Nat.min_eq_left (by omega)]
          have hdr : (cur.toList.drop (off + i.size)).take (n' * z - (off + i.size)) = vs.drop (off + i.size) := by
            rw [← htake, List.drop_take]
          refine fin _ _ (by rw [e1]; exact hrun) (hG.upd (r' := .row te z n' (xs.take off ++ cellsS (strip (opv st y)) ++ xs.drop (off + i.size))) hk hb (turned_grown (grown_setRow w b _) (fun b' h' => h')) (fun b' h' => .inl h') ?_) h
          refine ⟨vs.take off ++ (a.eval y).cells.toList ++ vs.drop (off + i.size), ((hD.take _).append hc).append (hD.drop _), ?_, ?_, .inr ⟨b, _, _, rfl, hg, setRow_heap w b _ _ te (0, 0) hh, hnc, hcm, ?_, ?_⟩⟩
          · intro u hu
            simp only [List.append_assoc, List.mem_append] at hu
            rcases hu with hu | hu | hu
            · exact hone u (List.mem_of_mem_take hu)
            · exact ho u hu
            · exact hone u (List.mem_of_mem_drop hu)
          · simp only [List.length_append, List.length_take, List.length_drop, hlen]; omega
          · simp only [List.size_toArray, List.length_append, List.length_take, List.length_drop, hlen, Array.length_toList]; omega
          · have hla : (cur.toList.take off ++ (a.eval y).cells.toList).length = off + i.size := by
              simp only [List.length_append, List.length_take, Array.length_toList, hlen]; omega
            rw [List.take_append, hla, List.take_of_length_le (by omega), hdr, htk]
      · exact h.elim
    · exact h.elim
  | bsl t e n ps i z ht hi hz hn =>
    obtain ⟨h1, h2, h3, h4, ⟨h5, h6⟩, h⟩ := h
    generalize hzero : ((Array.range (n * i.size)).map fun j => z.cells[j % z.cells.size]!) = zero at *
    have hzl : zero.size = n * i.size := by rw [← hzero]; simp
    obtain ⟨hl2, hg2⟩ := partsV_get h2
    have hlm : (ps.toList.map fun (j, x) => (j * i.size, i.size, x)).length = ps.toList.length := by simp
    obtain ⟨us, hf, hD⟩ := fill_splice (st := st) (ν := ν) (sl := st.sl) (fun j => some (j * i.size, i.size)) (ps.toList.map fun (j, x) => (j, a.eval x)) (partsV st (ps.toList.map fun (j, x) => (j * i.size, i.size, x))) (zero.toList.map .v) zero.toList
      (by rw [hl2]; simp) (fun j f v hj => by
        simp only [List.getElem?_map, Option.map_eq_some_iff] at hj
        obtain ⟨⟨f', x⟩, hj, he⟩ := hj
        simp only [Prod.mk.injEq] at he
        obtain ⟨rfl, rfl⟩ := he
        have hrj : (ps.toList.map fun (j, x) => (j * i.size, i.size, x))[j]? = some (f' * i.size, i.size, x) := by simp [hj]
        obtain ⟨hrq, hpv⟩ := hg2 j _ _ x hrj
        exact ⟨_, _, _, hpv, rfl, cellsS_den hG (opS hG hp hrq) (spliceOK_cells h3 j _ _ _ hpv)⟩) (DenL.vs _) h3
    have hul : us.length = n * i.size := by
      have : ∀ (qs : List (Nat × Nat × SV)) (cs : List SV), spliceOK st cs qs → (splice cs qs).length = cs.length := by
        intro qs
        induction qs with
        | nil => intro cs _; rfl
        | cons q qs ih =>
          obtain ⟨o, s, x⟩ := q
          intro cs hq
          simp only [spliceOK] at hq
          obtain ⟨_, q1, q2, q3⟩ := hq
          simp only [splice]
          rw [ih _ q3]
          simp only [List.length_append, List.length_take, List.length_drop, q1]
          omega
      rw [hD.length, this _ _ h3]
      simp [hzl]
    have hone := onesS_den hG hD h4
    refine val_case (w.alloc (.cells us.toArray e)) (.slice (some ⟨w.heap.size, 0, none⟩) n n) _ (ν ++ [.slice (some ⟨w.heap.size, 0, none⟩) n n]) _ ?_ ?_ ?_ h
    · have hzr : (zeroValue e).run E.P w = .ok z w := by simp [zeroValue, typeInfo, hi, hz]
      have hn' : ¬ n * i.size > 2 ^ 24 := by omega
      simp only [Array.toArray_toList] at hf
      have e1 : (ps.map fun (i, x) => (i, a.eval x)).toList = ps.toList.map fun (i, x) => (i, a.eval x) := by simp
      simp only [execOp, Instr.buildSlice, Sem.run_bind, run_underlying ht w, Result.andThen_ok, sizeOf, typeInfo, run_program, hi, Sem.run_pure, hn', if_false, hn, hzr, hzero, e1, hf]
      simp [newRow]
    · refine hG.add (grown_alloc w _) (fun b hb => by simp [fp, blockOf] at hb; omega) ?_
      exact ⟨us, denL_ext _ hD, hone, hul, .inr ⟨w.heap.size, n, us.toArray, rfl, hG.hB, heap_alloc_new w _, Nat.le_refl _, by simp only [maxLen]; omega, by simp [hul], by show us.take (n * i.size) = us; rw [← hul]; exact List.take_length⟩⟩
    · show (ν ++ [_])[st.rs.length]? = some _
      rw [← hG.len]
      simp
  | call c f hc hcl =>
    obtain ⟨h1, h⟩ := h
    exact call_case f _ _ (by rw [exec_call hc, run_callFunc_ok hcl]) (argsV_den hG hp h1) h
  | callv c x hc =>
    obtain ⟨h0, h1, h⟩ := h
    have e1 := opS hG hp h0
    split at h
    · rename_i f caps hx
      obtain ⟨hcl, h⟩ := h
      rw [hx] at e1
      have e1 := den_v e1
      exact call_case f _ _ (by rw [exec_callv hc e1, run_callFunc_ok hcl]) ((argsV_den hG hp h1).append (DenL.vs _)) h
    · rename_i f caps hx
      obtain ⟨hcl, h⟩ := h
      rw [hx] at e1
      simp only [Den] at e1
      obtain ⟨vs, hD, e1⟩ := e1
      exact call_case f _ _ (by rw [exec_callv hc e1, run_callFunc_ok hcl]) ((argsV_den hG hp h1).append hD) h
    · exact h.elim
  | app c t e i s x hc hat ha ht hi z hz hzs =>
    obtain ⟨cal, ⟨args⟩, ⟨ats⟩⟩ := c
    simp only at hc hat ha
    subst hc hat ha
    obtain ⟨h0, h1, h2, h⟩ := h
    have e1 := opS hG hp h0
    have e2 := opS hG hp h1
    have exec : ∀ v' w', (Builtin.append_ #[t, t] ty #[a.eval s, a.eval x]).run E.P w = .ok v' w' →
        (execOp a.eval { dst, op := .call { callee := .builtin .append, args := ⟨[s, x]⟩, argTypes := ⟨[t, t]⟩ }, type := ty, pos, after, guard }).run E.P w = .ok (.value v') w' := by
      intro v' w' hr
      simp [execOp, resolve, invoke, builtin, hr]
    split at h
    · rename_i k hs
      split at h
      · rename_i e' z' n xs hk
        obtain ⟨hfx, rfl, rfl, h⟩ := h
        obtain ⟨m, ys, ⟨⟨hb1, hb2⟩, h⟩, hsrc⟩ := srcOf_sound h
        obtain ⟨vs, hD, hone, hH⟩ := hsrc E ν a w hG _ e2
        rw [hs] at e1
        simp only [Den] at e1
        obtain ⟨xk, hxk, us, hDu, honeu, hown⟩ := hG.res k _ hk
        rw [hxk] at e1
        injection e1 with e1
        subst e1
        obtain ⟨v', w', hrun, hown', hgr, hat⟩ := run_append_any (P := E.P) w E.B t ty e' i z ht hi hz hzs h2 _ n us hown _ m vs hH hone (by simp only [maxLen]; omega) hb2 hG.hB
        have hsl : ∀ {w : World} {v : Value} {n : Nat} {vs : List Value}, w.ownsRow E.B e' i.size v n vs → v.ownBlock = blockOf v := fun h => by
          rcases h.2 with ⟨rfl, _⟩ | ⟨g, cap, cur, rfl, _⟩ <;> rfl
        rw [hsl hown, hsl hown'] at hat
        rw [hsl hown] at hgr
        refine val_case w' v' _ (ν.set k v') _ (exec v' w' hrun) (hG.repl (r' := .row e' i.size (n + m) (xs ++ ys)) hfx hk hxk (turned_grown hgr (fun b' h' => h')) (fun b hb => ?_) ⟨us ++ vs, hDu.append hD, ?_, hown'⟩) ?_ h
        · have hb : blockOf v' = some b := hb
          rcases hat with hat | hat
          · exact .inl (by show blockOf _ = some b; rw [← hat]; exact hb)
          · rw [hb] at hat
            injection hat with hat
            exact .inr (by omega)
        · intro u hu
          rcases List.mem_append.1 hu with hu | hu
          · exact honeu u hu
          · exact hone u hu
        · show (ν.set k v')[k]? = some v'
          rw [List.getElem?_set]
          simp [(List.getElem?_eq_some_iff.1 hxk).1]
      · exact h.elim
    · rename_i hs
      obtain ⟨m, ys, ⟨⟨hb1, hb2⟩, h⟩, hsrc⟩ := srcOf_sound h
      obtain ⟨vs, hD, hone, hH⟩ := hsrc E ν a w hG _ e2
      rw [hs] at e1
      have e1 := den_v e1
      obtain ⟨v', w', hrun, hown', hgr, hat⟩ := run_append_any (P := E.P) w E.B t ty e i z ht hi hz hzs h2 _ 0 [] (World.ownsRow_nil w E.B e i.size) _ m vs hH hone (by simp only [maxLen]; omega) (by rw [Nat.zero_add]; exact hb2) hG.hB
      rw [← e1] at hrun
      simp only [Nat.zero_add, List.nil_append] at hown'
      have hsl : v'.ownBlock = blockOf v' := by
        rcases hown'.2 with ⟨rfl, _⟩ | ⟨g, cap, cur, rfl, _⟩ <;> rfl
      have hbel : Below w.heap.size w w' := (Below.refl _ _).grown hgr (Nat.le_refl _) (fun k hk => by simp [Value.ownBlock] at hk)
      refine val_case w' v' _ (ν ++ [v']) _ (exec v' w' hrun) (hG.add (r := .row e i.size m ys) hbel (fun b hb => ?_) ⟨vs, denL_ext _ hD, hone, hown'⟩) ?_ h
      · have hb : blockOf v' = some b := hb
        rw [hsl] at hat
        rcases hat with hat | hat
        · rw [hb] at hat; simp [Value.ownBlock] at hat
        · rw [hb] at hat
          injection hat with hat
          omega
      · show (ν ++ [v'])[st.rs.length]? = some v'
        rw [← hG.len]
        simp
    · exact h.elim
  | apps c t t' e i s x hc hat ha ht ht' hi hz hs1 hb1 =>
    obtain ⟨cal, ⟨args⟩, ⟨ats⟩⟩ := c
    simp only at hc hat ha
    subst hc hat ha
    obtain ⟨h0, h1, h⟩ := h
    have e1 := opS hG hp h0
    have e2 := opS hG hp h1
    have exec : ∀ v' w', (Builtin.append_ #[t, t'] ty #[a.eval s, a.eval x]).run E.P w = .ok v' w' →
        (execOp a.eval { dst, op := .call { callee := .builtin .append, args := ⟨[s, x]⟩, argTypes := ⟨[t, t']⟩ }, type := ty, pos, after, guard }).run E.P w = .ok (.value v') w' := by
      intro v' w' hr
      simp [execOp, resolve, invoke, builtin, hr]
    have hone : ∀ (b : ByteArray), ∀ u ∈ (b.data.toList.map fun b => Value.int .u8 b.toNat), u.oneCell' = true := by
      intro b u hu
      obtain ⟨q, _, rfl⟩ := List.mem_map.1 hu
      rfl
    split at h
    · rename_i k b hs hx
      split at h
      · rename_i e' z' n xs hk
        obtain ⟨hfx, rfl, rfl, hb, h⟩ := h
        rw [hx] at e2
        have e2 := den_v e2
        rw [hs] at e1
        simp only [Den] at e1
        obtain ⟨xk, hxk, us, hDu, honeu, hown⟩ := hG.res k _ hk
        rw [hxk] at e1
        injection e1 with e1
        subst e1
        obtain ⟨v', w', hrun, hown', hgr, hat⟩ := run_append_str (P := E.P) w E.B t t' ty e' i ht ht' hi hz hs1 hb1 _ n us hown b hb hG.hB
        rw [← e2] at hrun
        refine val_case w' v' _ (ν.set k v') _ (exec v' w' hrun) (hG.repl (r' := .row e' 1 (n + b.size) (xs ++ (b.data.toList.map fun b => Value.int .u8 b.toNat).map .v)) hfx hk hxk (turned_grown hgr (fun b' h' => h')) (fun b' hb' => ?_) ⟨us ++ (b.data.toList.map fun b => Value.int .u8 b.toNat), hDu.append (DenL.vs _), ?_, hown'⟩) ?_ h
        · have hb' : blockOf v' = some b' := hb'
          rcases hat with hat | hat
          · exact .inl (by show blockOf _ = some b'; rw [← hat]; exact hb')
          · rw [hb'] at hat
            injection hat with hat
            exact .inr (by omega)
        · intro u hu
          rcases List.mem_append.1 hu with hu | hu
          · exact honeu u hu
          · exact hone b u hu
        · show (ν.set k v')[k]? = some v'
          rw [List.getElem?_set]
          simp [(List.getElem?_eq_some_iff.1 hxk).1]
      · exact h.elim
    · rename_i b hs hx
      obtain ⟨hb, h⟩ := h
      rw [hx] at e2
      have e2 := den_v e2
      rw [hs] at e1
      have e1 := den_v e1
      obtain ⟨v', w', hrun, hown', hgr, hat⟩ := run_append_str (P := E.P) w E.B t t' ty e i ht ht' hi hz hs1 hb1 _ 0 [] (World.ownsRow_nil w E.B e 1) b (by omega) hG.hB
      rw [← e1, ← e2] at hrun
      simp only [Nat.zero_add, List.nil_append] at hown'
      have hbel : Below w.heap.size w w' := (Below.refl _ _).grown hgr (Nat.le_refl _) (fun k hk => by simp [blockOf] at hk)
      refine val_case w' v' _ (ν ++ [v']) _ (exec v' w' hrun) (hG.add (r := .row e 1 b.size ((b.data.toList.map fun b => Value.int .u8 b.toNat).map .v)) hbel (fun b' hb' => ?_) ⟨b.data.toList.map fun c : UInt8 => Value.int .u8 c.toNat, DenL.vs _, hone b, hown'⟩) ?_ h
      · have hb' : blockOf v' = some b' := hb'
        rcases hat with hat | hat
        · rw [hb'] at hat; simp [blockOf] at hat
        · rw [hb'] at hat
          injection hat with hat
          omega
      · show (ν ++ [v'])[st.rs.length]? = some v'
        rw [← hG.len]
        simp
    · exact h.elim
  | _ => exact pure_case h
end
end Go.Proofs.Ytaicmkocmnikjaa.Eng
