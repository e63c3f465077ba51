/- How 'simp' goes through the walk: it looks at the state alone, not at what stands behind. And the calls that hand back one value. -/
import Derived.Test.YtaicmkocmnikjaaCtl
namespace Go.Proofs.Ytaicmkocmnikjaa.Eng
set_option linter.all false
open Go Go.RowKit

section
variable {E : Ctx} {st st' : St}
@[congr] theorem ev_congr {l : List IOper} {K : St → Prop} (h : st = st') : ev E l st K = ev E l st' K := by rw [h]
@[congr] theorem ev1_congr {o : IOper} {K : St → Prop} (h : st = st') : ev1 E o st K = ev1 E o st' K := by rw [h]
@[congr] theorem evD_congr {l : List IOper} {K : St → Prop} (h : st = st') : evD E l st K = evD E l st' K := by rw [h]
@[congr] theorem evD1_congr {o : IOper} {K : St → Prop} (h : st = st') : evD1 E o st K = evD1 E o st' K := by rw [h]
@[congr] theorem evU_congr {p : Bool} {d : Option Nat} {o : IOp} {K : St → Prop} (h : st = st') : evU E st p d o K = evU E st' p d o K := by rw [h]
@[congr] theorem evG_congr {p p' : Bool} {d : Option Nat} {o : IOp} {K : St → Prop} (h : st = st') (hp : p = p') : evG E st p d o K = evG E st' p' d o K := by rw [h, hp]
@[congr] theorem pureP_congr {p p' : Bool} {o : IOp} {K : SV → Prop} (h : st = st') (hp : p = p') : pureP st p o K = pureP st' p' o K := by rw [h, hp]
@[congr] theorem binP_congr {op : BinOp} {x y x' y' : Value} {p : Bool} {K : SV → Prop} (h : x = x') (h' : y = y') : binP op x y p K = binP op x' y' p K := by rw [h, h']
@[congr] theorem pickP_congr {c c' : Bool} {x y x' y' : SV} {K : SV → Prop} (h0 : c = c') (h : x = x') (h' : y = y') : pickP c x y K = pickP c' x' y' K := by rw [h0, h, h']
@[congr] theorem loadP_congr {g : Bool} {n : Nat} {s s' : SV} {K : SV → Prop} (h : st = st') (h' : s = s') : loadP st g n s K = loadP st' g n s' K := by rw [h, h']
@[congr] theorem srcOf_congr {n : Nat} {s s' : SV} {k : Option Nat} {K : Nat → List SV → Prop} (h : st = st') (h' : s = s') : srcOf st n s k K = srcOf st' n s' k K := by rw [h, h']
@[congr] theorem CallOK_congr {f : Nat} {l l' : List SV} {K : St → SV → Prop} (h : st = st') (h' : l = l') : CallOK E st f l K = CallOK E st' f l' K := by rw [h, h']
@[congr] theorem CallQ_congr {p p' : Bool} {f : Nat} {l l' : List SV} {K : SV → Prop} (h : st = st') (hp : p = p') (h' : l = l') : CallQ E st p f l K = CallQ E st' p' f l' K := by rw [h, hp, h']
@[congr] theorem evDp_congr {pg pg' : Option Bool} {o : IOp} {K : SV → Prop} (h : st = st') (hp : pg = pg') : evDp E st pg o K = evDp E st' pg' o K := by rw [h, hp]
@[congr] theorem S_congr {Q : Exit → Act → World → Prop} {k : List It} (h : st = st') : S E Q st k = S E Q st' k := by rw [h]
end

theorem purge_vs (k : Nat) (l : List Value) : purgeL k (l.map .v) = l.map .v := by
  unfold purgeL
  rw [List.map_map]
  rfl

theorem purgeL_nil (k : Nat) : purgeL k [] = [] := rfl
theorem purgeL_cons (k : Nat) (s : SV) (l : List SV) : purgeL k (s :: l) = s.purge k :: purgeL k l := rfl
theorem purgeL_append (k : Nat) (l m : List SV) : purgeL k (l ++ m) = purgeL k l ++ purgeL k m := by simp [purgeL]

theorem wrap_i64 {n : Int} (h : -9223372036854775808 ≤ n ∧ n ≤ 9223372036854775807) : IntKind.i64.wrap n = n := by
  have h1 : IntKind.i64.wrap n = (if n % 18446744073709551616 ≥ 9223372036854775808 then n % 18446744073709551616 - 18446744073709551616 else n % 18446744073709551616) := by
    simp [IntKind.wrap, IntKind.signed, IntKind.bits]
  rw [h1]
  split <;> omega
theorem wrap_u64 {n : Int} (h : 0 ≤ n ∧ n ≤ 18446744073709551615) : IntKind.u64.wrap n = n := by
  have h1 : IntKind.u64.wrap n = n % 18446744073709551616 := by
    simp [IntKind.wrap, IntKind.signed, IntKind.bits]
  rw [h1]
  omega
theorem wrap_u32 {n : Int} (h : 0 ≤ n ∧ n ≤ 4294967295) : IntKind.u32.wrap n = n := by
  have h1 : IntKind.u32.wrap n = n % 4294967296 := by
    simp [IntKind.wrap, IntKind.signed, IntKind.bits]
  rw [h1]
  omega
theorem wrap_u8 {n : Int} (h : 0 ≤ n ∧ n ≤ 255) : IntKind.u8.wrap n = n := by
  have h1 : IntKind.u8.wrap n = n % 256 := by
    simp [IntKind.wrap, IntKind.signed, IntKind.bits]
  rw [h1]
  omega
theorem wrap_u64_mod (n : Int) : IntKind.u64.wrap n = n % 18446744073709551616 := by
  simp [IntKind.wrap, IntKind.signed, IntKind.bits]
theorem wrap_u32_mod (n : Int) : IntKind.u32.wrap n = n % 4294967296 := by
  simp [IntKind.wrap, IntKind.signed, IntKind.bits]
theorem wrap_u8_mod (n : Int) : IntKind.u8.wrap n = n % 256 := by
  simp [IntKind.wrap, IntKind.signed, IntKind.bits]
theorem bits_i64 : IntKind.i64.bits = 64 := rfl
theorem bits_u64 : IntKind.u64.bits = 64 := rfl
theorem bits_u32 : IntKind.u32.bits = 32 := rfl
theorem bits_u8 : IntKind.u8.bits = 8 := rfl

theorem int_eq {k : IntKind} {a b : Int} (h : a = b) : SV.v (.int k a) = SV.v (.int k b) := by rw [h]
theorem bool_eq {a b : Bool} (h : a = b) : SV.v (.bool a) = SV.v (.bool b) := by rw [h]

/-! ## Values written out -/
mutual
def valOf (sl : List Sli) (ρ : Nat → Option Value) : SV → Option Value
  | .v x => some x
  | .agg cs => match valsOf sl ρ cs with
    | some l => some (.agg l.toArray)
    | none => none
  | .tup cs => match valsOf sl ρ cs with
    | some l => some (.tuple l.toArray)
    | none => none
  | .sl j => match sl[j]? with
    | some s => some s.val
    | none => none
  | .clo f cs => match valsOf sl ρ cs with
    | some l => some (.func (.func f) #[] l.toArray)
    | none => none
  | .rv k => ρ k
  | _ => none
def valsOf (sl : List Sli) (ρ : Nat → Option Value) : List SV → Option (List Value)
  | [] => some []
  | c :: cs => match valOf sl ρ c, valsOf sl ρ cs with
    | some x, some l => some (x :: l)
    | _, _ => none
end
mutual
theorem valOf_den {ν : List Value} {sl : List Sli} {ρ : Nat → Option Value} (hρ : ∀ l v, ρ l = some v → ν[l]? = some v) : ∀ {s : SV} {x y : Value}, valOf sl ρ s = some x → Den ν sl s y → y = x
  | .v _, x, y, h, hd => by simp only [valOf, Option.some.injEq] at h; subst h; simpa only [Den] using hd
  | .agg cs, x, y, h, hd => by
    simp only [valOf] at h
    simp only [Den] at hd
    obtain ⟨vs, h1, rfl⟩ := hd
    split at h
    · rename_i l hl
      injection h with h
      subst h
      rw [valsOf_den hρ hl h1]
    · cases h
  | .tup cs, x, y, h, hd => by
    simp only [valOf] at h
    simp only [Den] at hd
    obtain ⟨vs, h1, rfl⟩ := hd
    split at h
    · rename_i l hl
      injection h with h
      subst h
      rw [valsOf_den hρ hl h1]
    · cases h
  | .sl j, x, y, h, hd => by
    simp only [valOf] at h
    simp only [Den] at hd
    obtain ⟨s, h1, rfl⟩ := hd
    rw [h1] at h
    injection h with h
  | .clo f cs, x, y, h, hd => by
    simp only [valOf] at h
    simp only [Den] at hd
    obtain ⟨vs, h1, rfl⟩ := hd
    split at h
    · rename_i l hl
      injection h with h
      subst h
      rw [valsOf_den hρ hl h1]
    · cases h
  | .bp _ _, x, y, h, _ => by simp only [valOf] at h; cases h
  | .rv k, x, y, h, hd => by
    simp only [valOf] at h
    simp only [Den] at hd
    rw [hρ k x h] at hd
    injection hd with hd
    exact hd.symm
  | .rp _ _, x, y, h, _ => by simp only [valOf] at h; cases h
  | .ep _ _ _, x, y, h, _ => by simp only [valOf] at h; cases h
  | .g _ _, x, y, h, _ => by simp only [valOf] at h; cases h
  | .fs _ _ _, x, y, h, _ => by simp only [valOf] at h; cases h
  | .junk, x, y, h, _ => by simp only [valOf] at h; cases h
theorem valsOf_den {ν : List Value} {sl : List Sli} {ρ : Nat → Option Value} (hρ : ∀ l v, ρ l = some v → ν[l]? = some v) : ∀ {cs : List SV} {l vs : List Value}, valsOf sl ρ cs = some l → DenL ν sl cs vs → vs = l
  | [], l, vs, h, hd => by simp only [valsOf, Option.some.injEq] at h; subst h; simpa only [DenL] using hd
  | c :: cs, l, vs, h, hd => by
    simp only [valsOf] at h
    simp only [DenL] at hd
    obtain ⟨y, ys, rfl, h1, h2⟩ := hd
    split at h
    · rename_i x l' hx hl
      injection h with h
      subst h
      rw [valOf_den hρ hx h1, valsOf_den hρ hl h2]
    · cases h
end

section
variable {E : Ctx} {ν : List Value} {st : St} {a : Act} {w : World}
theorem Good.sli (hG : Good E ν st a w) {j : Nat} {s : Sli} (h : st.sl[j]? = some s) : SliOK w (· < w.heap.size) s := by
  obtain ⟨q, hq, A, c, h1, h2, h3, h4, h5⟩ := hG.sls s (List.mem_of_getElem? h)
  refine ⟨A, c, h1, h2, h3, h4, fun h0 => ?_⟩
  obtain ⟨ad, e, hS, hc⟩ := h5 h0
  have hs := hG.sn q (List.mem_of_getElem? hq) ad.block hS
  refine ⟨ad, e, hs.1, fun i hi j v hv => ?_⟩
  rw [← hc i hi j v hv]
  have hb : (ad.add (i * s.sz + j)).block = ad.block := by unfold Addr.add; split <;> rfl
  exact World.cell?_of_block (by rw [hb]; exact hs.2)

theorem ret1 {t : Nat} {R : Ending → World → Prop} {x : Value} (hx : valOf st.sl (fun _ => none) (slot st.fr t) = some x) (h : ∀ w, Below E.B E.w0 w → R (.returned x) w) : RetOK E st [t] R := by
  intro ν a w hG
  have := valOf_den (fun _ _ h => by cases h) hx (hG.fr t)
  show R (.returned (a.tmps.getD t undef)) w
  rw [this]
  exact h w hG.below
theorem ret2 {t u : Nat} {R : Ending → World → Prop} {x y : Value} (hx : valOf st.sl (fun _ => none) (slot st.fr t) = some x) (hy : valOf st.sl (fun _ => none) (slot st.fr u) = some y) (h : ∀ w, Below E.B E.w0 w → R (.returned (.tuple #[x, y])) w) : RetOK E st [t, u] R := by
  intro ν a w hG
  have h1 := valOf_den (fun _ _ h => by cases h) hx (hG.fr t)
  have h2 := valOf_den (fun _ _ h => by cases h) hy (hG.fr u)
  show R (.returned (.tuple [a.tmps.getD t undef, a.tmps.getD u undef].toArray)) w
  rw [h1, h2]
  exact h w hG.below
theorem ret3 {t u q : Nat} {R : Ending → World → Prop} {x y z : Value} (hx : valOf st.sl (fun _ => none) (slot st.fr t) = some x) (hy : valOf st.sl (fun _ => none) (slot st.fr u) = some y) (hz : valOf st.sl (fun _ => none) (slot st.fr q) = some z)
    (h : ∀ w, Below E.B E.w0 w → R (.returned (.tuple #[x, y, z])) w) : RetOK E st [t, u, q] R := by
  intro ν a w hG
  have h1 := valOf_den (fun _ _ h => by cases h) hx (hG.fr t)
  have h2 := valOf_den (fun _ _ h => by cases h) hy (hG.fr u)
  have h3 := valOf_den (fun _ _ h => by cases h) hz (hG.fr q)
  show R (.returned (.tuple [a.tmps.getD t undef, a.tmps.getD u undef, a.tmps.getD q undef].toArray)) w
  rw [h1, h2, h3]
  exact h w hG.below

/-- a readable slice, in a later world -/
theorem SliOK.move {w0 w : World} {T T' : Nat → Prop} {s : Sli} (h : SliOK w0 T s) (hT : ∀ b, T b → T' b ∧ w.heap[b]? = w0.heap[b]?) : SliOK w T' s := by
  obtain ⟨A, c, h1, h2, h3, h4, h5⟩ := h
  refine ⟨A, c, h1, h2, h3, h4, fun h0 => ?_⟩
  obtain ⟨ad, e, hS, hc⟩ := h5 h0
  refine ⟨ad, e, (hT _ hS).1, fun i hi j v hv => ?_⟩
  rw [← hc i hi j v hv]
  have hb : (ad.add (i * s.sz + j)).block = ad.block := by unfold Addr.add; split <;> rfl
  exact World.cell?_of_block (by rw [hb]; exact (hT _ hS).2)
/-- the same, of a snapshot of the state -/
theorem Good.snap (hG : Good E ν st a w) {j : Nat} {q : Snap} (hq : st.sn[j]? = some q) : ∀ b, q.S b → b < w.heap.size ∧ w.heap[b]? = q.w.heap[b]? := hG.sn q (List.mem_of_getElem? hq)

/-- a call that hands back a known value and leaves what was there -/
theorem CallOK.q {f : Nat} {args : List SV} {K : St → SV → Prop} (vs : List Value) (r : Value) (hv : valsOf st.sl (fun _ => none) args = some vs)
    (h : ∀ ν a w, Good E ν st a w → Calls E.P f vs.toArray w fun e w' => e = .returned r ∧ Below w.heap.size w w') (hk : K st (.v r)) : CallOK E st f args K := by
  intro ν a w us hG hD
  have := valsOf_den (fun _ _ h => by cases h) hv hD
  subst this
  refine (h ν a w hG).mono ?_
  rintro e w' ⟨rfl, hb⟩
  exact ⟨r, st, .v r, ν, rfl, hk, hG.below_ hb, rfl⟩
/-- the same with a tuple of results -/
theorem CallOK.qt {f : Nat} {args : List SV} {K : St → SV → Prop} (vs : List Value) (rs : List Value) (hv : valsOf st.sl (fun _ => none) args = some vs)
    (h : ∀ ν a w, Good E ν st a w → Calls E.P f vs.toArray w fun e w' => e = .returned (.tuple rs.toArray) ∧ Below w.heap.size w w') (hk : K st (.tup (rs.map .v))) : CallOK E st f args K := by
  intro ν a w us hG hD
  have := valsOf_den (fun _ _ h => by cases h) hv hD
  subst this
  refine (h ν a w hG).mono ?_
  rintro e w' ⟨rfl, hb⟩
  exact ⟨_, st, .tup (rs.map .v), ν, rfl, hk, hG.below_ hb, rs, DenL.vs _, rfl⟩
theorem CallQ.q {p : Bool} {f : Nat} {args : List SV} {K : SV → Prop} (vs : List Value) (r : Value) (hv : p = true → valsOf st.sl (fun _ => none) args = some vs)
    (h : p = true → ∀ ν a w, Good E ν { st with fr := [] } a w → Calls E.P f vs.toArray w fun e w' => e = .returned r ∧ Below w.heap.size w w') (hk : K (.v r)) : CallQ E st p f args K := by
  refine ⟨.v r, r, fun _ _ => by simp only [Den], hk, fun ν a w us hG hD hp => ?_⟩
  have := valsOf_den (fun _ _ h => by cases h) (hv hp) (hD hp).1
  subst this
  refine (h hp ν a w hG).mono ?_
  rintro e w' ⟨rfl, hb⟩
  exact ⟨r, rfl, fun _ _ => by simp only [Den], by simp only [Fresh], hb⟩
/-- a fresh slice handed back -/
theorem CallQ.f {p : Bool} {f : Nat} {args : List SV} {K : SV → Prop} (vs : List Value) (sz n : Nat) (at_ : Nat → List Value) (hv : p = true → valsOf st.sl (fun _ => none) args = some vs)
    (h : p = true → ∀ ν a w, Good E ν { st with fr := [] } a w → Calls E.P f vs.toArray w fun e w' => ∃ y, e = .returned y ∧ SliOK w' (fun c => w.heap.size ≤ c ∧ c < w'.heap.size) ⟨0, y, n, sz, at_⟩ ∧ Below w.heap.size w w') (hk : K (.fs sz n at_)) : CallQ E st p f args K := by
  refine ⟨.fs sz n at_, undef, fun _ _ => by simp only [Den], hk, fun ν a w us hG hD hp => ?_⟩
  have := valsOf_den (fun _ _ h => by cases h) (hv hp) (hD hp).1
  subst this
  refine (h hp ν a w hG).mono ?_
  rintro e w' ⟨y, rfl, hs, hb⟩
  exact ⟨y, rfl, fun _ _ => by simp only [Den], by simp only [Fresh]; exact hs, hb⟩
/-- a fresh slice handed in, as the only argument -/
theorem CallQ.arg {p : Bool} {f : Nat} {sz n : Nat} {at_ : Nat → List Value} {K : SV → Prop} (r : Value)
    (h : p = true → ∀ ν a w y, Good E ν { st with fr := [] } a w → SliOK w (fun c => c < w.heap.size) ⟨0, y, n, sz, at_⟩ → Calls E.P f #[y] w fun e w' => e = .returned r ∧ Below w.heap.size w w') (hk : K (.v r)) : CallQ E st p f [.fs sz n at_] K := by
  refine ⟨.v r, r, fun _ _ => by simp only [Den], hk, fun ν a w us hG hD hp => ?_⟩
  obtain ⟨h1, h2⟩ := hD hp
  simp only [DenL, Den] at h1
  obtain ⟨y, ys, rfl, _, rfl⟩ := h1
  simp only [FreshL, Fresh] at h2
  refine (h hp ν a w y hG (h2.1.move fun b hb => ⟨hb.2, rfl⟩)).mono ?_
  rintro e w' ⟨rfl, hb⟩
  exact ⟨r, rfl, fun _ _ => by simp only [Den], by simp only [Fresh], hb⟩
end

/-! ## Objects -/
section
variable {E : Ctx} {st : St}
/-- a call that turns one object -/
theorem CallOK.obj {f : Nat} {args : List SV} {K : St → SV → Prop} (k : Nat) (o o' : Own) (vs : Value → List Value) (r : Value) (hk : st.rs[k]? = some (.obj o))
    (hv : ∀ x, valsOf st.sl (fun l => if l = k then some x else none) args = some (vs x))
    (h : ∀ ν a w x, Good E ν st a w → ν[k]? = some x → o.Ok x w → Calls E.P f (vs x).toArray w fun e w' => e = .returned r ∧ o'.Ok x w' ∧ Turned w w' (o.fp x w) ∧ ∀ b, o'.fp x w' b → o.fp x w b ∨ w.heap.size ≤ b)
    (hK : K (st.setRs k (.obj o')) (.v r)) : CallOK E st f args K := by
  intro ν a w us hG hD
  obtain ⟨x, hx, hok, hB⟩ := hG.res k _ hk
  have := valsOf_den (ρ := fun l => if l = k then some x else none) (fun l v hl => by
    split at hl
    · rename_i e; subst e; rw [← hl]; exact hx
    · cases hl) (hv x) hD
  subst this
  refine (h ν a w x hG hx hok).mono ?_
  rintro e w' ⟨rfl, hok', ht, hf⟩
  refine ⟨r, _, .v r, ν, rfl, hK, hG.upd (r' := .obj o') hk hx ht hf ⟨hok', fun b hb => ?_⟩, rfl⟩
  rcases hf b hb with hb | hb
  · exact hB b hb
  · exact Nat.le_trans hG.hB hb

/-- a method, its receiver (or any argument) an object -/
theorem enterO {P : Program} {f : Nat} {fn : Func} {ir : IFun} {args : List Value} {w : World} {R : Ending → World → Prop} (hf : P.funcs[f]? = some fn) (hc : compF P fn = some ir)
    (o : Own) (x : Value) (hok : o.Ok x w) (svs : List SV) (sl : List Sli) (hargs : DenL [x] sl svs args) (hn : args.length ≤ ir.ntmps)
    (hsl : ∀ s ∈ sl, s.q = 0 ∧ SliOK w (fun b => b < w.heap.size ∧ ¬ o.fp x w b) s)
    (h : S ⟨P, ir.ntmps, 0, w, some x⟩ (Fin ir.results R) ⟨frOf 0 svs, [.obj o], sl, [⟨fun b => b < w.heap.size ∧ ¬ o.fp x w b, w⟩]⟩ [.code ir.body]) : Calls P f args.toArray w R := by
  unfold compF at hc
  split at hc
  · rename_i c rs hb hrs
    split at hc
    · rename_i ic hic
      injection hc with hc
      subst hc
      refine calls_of_wp hf hb ?_
      have one : ∀ (k : Nat) (r : Res), [Res.obj o][k]? = some r → k = 0 ∧ r = .obj o := by
        intro k r hk
        cases k with
        | zero => simp at hk; exact ⟨rfl, hk.symm⟩
        | succ k => simp at hk
      have hG : Good ⟨P, fn.ntmps, 0, w, some x⟩ [x] ⟨frOf 0 svs, [.obj o], sl, [⟨fun b => b < w.heap.size ∧ ¬ o.fp x w b, w⟩]⟩ { tmps := args.toArray ++ Array.replicate (fn.ntmps - args.toArray.size) undef, defers := [] } w := by
        refine ⟨rfl, ?_, fun t => ?_, rfl, (fun y hy => by injection hy with hy; subst hy; rfl), fun k r hk => ?_, fun k l r r' y y' b hne hk hl => ?_, Below.refl _ _, Nat.zero_le _, ?_, fun s hs k r y b hk hy hfp => ?_, fun s hs => ?_⟩
        · simp
          simp at hn
          omega
        · show Den [x] sl (slot (frOf 0 svs) t) _
          rw [frOf_look]
          simp only [Nat.not_lt_zero, if_false, Nat.sub_zero]
          cases hs : svs[t]? with
          | none => simp [Den]
          | some s =>
            obtain ⟨y, hy, hd⟩ := hargs.get hs
            have hlt : t < args.length := (List.getElem?_eq_some_iff.1 hy).1
            have : (args.toArray ++ Array.replicate (fn.ntmps - args.toArray.size) undef).getD t undef = y := by
              rw [Array.getD_eq_getD_getElem?, Array.getElem?_append_left (by simpa using hlt)]
              simp [hy]
            rw [this]
            exact hd
        · obtain ⟨rfl, rfl⟩ := one k r hk
          exact ⟨x, rfl, hok, fun b _ => Nat.zero_le b⟩
        · obtain ⟨rfl, _⟩ := one k r hk
          obtain ⟨rfl, _⟩ := one l r' hl
          exact absurd rfl hne
        · intro s hs
          simp at hs
          subst hs
          exact fun b hb => ⟨hb.1, rfl⟩
        · simp at hs
          subst hs
          obtain ⟨rfl, rfl⟩ := one k r hk
          simp at hy
          subst hy
          exact fun hS => hS.2 hfp
        · obtain ⟨h1, h2⟩ := hsl s hs
          exact ⟨_, by rw [h1]; rfl, h2⟩
      refine wp_mono (h [x] _ w hG c hic) fun e a' w' hq => ?_
      have fin : ∀ (a' : Act) (w' : World), a'.defers = [] ∧ R (.returned (retV rs a'.tmps)) w' → a'.defers = [] ∧ ∃ v, (results fn a'.tmps).run P w' = .ok v w' ∧ R (.returned v) w' := by
        intro a' w' ⟨h1, h2⟩
        exact ⟨h1, _, resTmps_run hrs a'.tmps w', h2⟩
      cases e with
      | normal => exact fin a' w' hq
      | ret => exact fin a' w' hq
      | exit id => simp only [exS, Fin] at hq
      | goto l => simp only [Fin] at hq
      | panic c => simp only [Fin] at hq
      | outgrown => simp only [Fin] at hq
    · cases hc
  · cases hc

/-- a method's end: what it leaves -/
theorem retO {P : Program} {N : Nat} {w0 : World} {x : Value} {o o' : Own} {rs : List Nat} {fr : List (Nat × SV)} {rss : List Res} {sl : List Sli} {sns : List Snap} (r : Value)
    (hr : ∀ ν a w, Good ⟨P, N, 0, w0, some x⟩ ν ⟨fr, rss, sl, ⟨fun b => b < w0.heap.size ∧ ¬ o.fp x w0 b, w0⟩ :: sns⟩ a w → retV rs a.tmps = r)
    (hp : ∀ ν a w, Good ⟨P, N, 0, w0, some x⟩ ν ⟨fr, rss, sl, ⟨fun b => b < w0.heap.size ∧ ¬ o.fp x w0 b, w0⟩ :: sns⟩ a w → o'.Ok x w ∧ ∀ b, o'.fp x w b → ∃ (k : Nat) (q : Res) (y : Value), rss[k]? = some q ∧ ν[k]? = some y ∧ fp q y w b) :
    RetOK ⟨P, N, 0, w0, some x⟩ ⟨fr, rss, sl, ⟨fun b => b < w0.heap.size ∧ ¬ o.fp x w0 b, w0⟩ :: sns⟩ rs fun e w' => e = .returned r ∧ o'.Ok x w' ∧ Turned w0 w' (o.fp x w0) ∧ ∀ b, o'.fp x w' b → o.fp x w0 b ∨ w0.heap.size ≤ b := by
  intro ν a w hG
  obtain ⟨h1, h2⟩ := hp ν a w hG
  have hs := hG.sn _ (List.mem_cons_self ..)
  refine ⟨by rw [hr ν a w hG], h1, ⟨hG.below, fun b hb hn => (hs b ⟨hb, hn⟩).2⟩, fun b hb => ?_⟩
  obtain ⟨k, q, y, hk, hy, hf⟩ := h2 b hb
  have hns := hG.snd _ (List.mem_cons_self ..) k q y b hk hy hf
  rcases Nat.lt_or_ge b w0.heap.size with hlt | hge
  · refine .inl ?_
    refine Classical.byContradiction fun hno => hns ⟨hlt, hno⟩
  · exact .inr hge
end

attribute [go_sem] ev_nil ev_cons evD_nil evD_cons KC KP KG KN KR KRD evDp gd noFs clrFs St.clr Option.getD_none purgeL_nil purgeL_cons purgeL_append bytesV bytesU bytesV_map bytesU_map sliceBnd ev1 evU evG evD1 pureP binP pickP loadP opv slot strip req reqs argsV argsR partsV splice spliceOK cellsS cellsOK aggCells oneS onesS St.put St.addRs St.setRs St.purge purgeFr purgeRs purge_vs SV.purge SV.has SV.hasL Res.purge srcOf isEff Value.oneCell' cond_true cond_false Bool.and_true Bool.true_and Bool.and_false Bool.false_and List.getElem?_cons_zero List.getElem?_cons_succ List.getElem?_nil List.map_cons List.map_nil List.length_cons List.length_nil List.cons_append List.nil_append List.append_nil List.take_succ_cons List.take_zero List.drop_succ_cons List.drop_zero List.take_nil List.drop_nil List.set_cons_zero List.set_cons_succ List.mem_cons List.not_mem_nil or_false forall_eq forall_eq_or_imp true_and and_true and_self ne_eq not_false_eq_true implies_true forall_const true_implies Nat.le_refl Nat.zero_add Nat.add_zero Int.toNat_natCast bits_i64 bits_u64 bits_u32 bits_u8 Nat.min_self List.getD_cons_zero List.getD_cons_succ Option.getD_some
end Go.Proofs.Ytaicmkocmnikjaa.Eng
