/- How 'simp' goes through the walk: it looks at what is known alone, not at what stands behind. -/
import Derived.Test.YtaicmkocmnikjaaDoorFun
namespace Go.Proofs.YtaicmkocmnikjaaDoor.Eng
set_option linter.all false
open Go Go.RowKit

section
variable {E : Ctx} {st st' : St} {x x' : DS} {hid : List Res} {p p' : Bool} {d : Option Nat} {ov : Operand → C} {rs rs' : List Res} {fr : List (Nat × C)}
@[congr] theorem ev_congr {l : List IOper} {K : St → Prop} (h : st = st') : ev E l st K = ev E l st' K := by rw [h]
@[congr] theorem ev1_congr {o : IOper} {K : St → Prop} (h : st = st') : ev1 E o st K = ev1 E o st' K := by rw [h]
@[congr] theorem evU_congr {o : IOp} {K : St → Prop} (h : st = st') : evU E st d o K = evU E st' d o K := by rw [h]
@[congr] theorem evG_congr {o : IOp} {K : St → Prop} (h : st = st') (hp : p = p') : evG E st p d o K = evG E st' p' d o K := by rw [h, hp]
@[congr] theorem CallH_congr {f : Nat} {l l' : List C} {ok ok' : Prop} {K : St → Prop} (h : st = st') (hp : p = p') (hl : l = l') (ho : ok = ok') : CallH E st p f l ok d K = CallH E st' p' f l' ok' d K := by rw [h, hp, hl, ho]
@[congr] theorem evE_congr {o : IOp} {K : C → List Res → List Nat → Prop} : evE E ov rs o K = evE E ov rs o K := rfl
@[congr] theorem pureP_congr {o : IOp} {K : C → Prop} (hp : p = p') : pureP ov rs p o K = pureP ov rs p' o K := by rw [hp]
@[congr] theorem evQ_congr {o : IOp} {K : C → Prop} (hp : p = p') : evQ E ov rs p o K = evQ E ov rs p' o K := by rw [hp]
@[congr] theorem evQ1_congr {o : IOper} {K : C → Prop} : evQ1 E fr rs o K = evQ1 E fr rs o K := rfl
@[congr] theorem evF1_congr {o : IOper} {K : C → Prop} : evF1 fr rs o K = evF1 fr rs o K := rfl
@[congr] theorem ev1d_congr {t : DT} {o : IOper} {K : DS → Prop} (h : x = x') : ev1d E hid t o x K = ev1d E hid t o x' K := by rw [h]
@[congr] theorem evD_congr {ts : List DT} {l : List IOper} {K : St → Prop} (h : x = x') : evD E hid ts l x K = evD E hid ts l x' K := by rw [h]
@[congr] theorem binP_congr {op : BinOp} {x y x' y' : Value} {K : C → Prop} (h : x = x') (h' : y = y') (hp : p = p') : binP op x y p K = binP op x' y' p' K := by rw [h, h', hp]
@[congr] theorem pickP_congr {c c' : Bool} {x y x' y' : C} {K : C → Prop} (hp : p = p') (h0 : c = c') (h : x = x') (h' : y = y') : pickP p c x y K = pickP p' c' x' y' K := by rw [h0, h, h', hp]
@[congr] theorem loadP_congr {g : Bool} {n : Nat} {s s' : C} {K : C → Prop} (h' : s = s') : loadP rs g n s K = loadP rs g n s' K := by rw [h']
@[congr] theorem loadJ_congr {g : Bool} {n : Nat} {s s' : C} {K : C → Prop} (hp : p = p') (h' : s = s') : loadJ rs g n p s K = loadJ rs g n p' s' K := by rw [hp, h']
@[congr] theorem loadCs_congr {g : Bool} {n : Nat} {s s' : List C} {K : C → Prop} (h' : s = s') : loadCs g n s K = loadCs g n s' K := by rw [h']
@[congr] theorem srcOf_congr {n : Nat} {s s' : C} {k : Option Nat} {K : List (List C) → Prop} (h' : s = s') : srcOf rs n s k K = srcOf rs n s' k K := by rw [h']
@[congr] theorem CallOK_congr {f : Nat} {l l' : List C} {K : C → List Res → List Nat → Prop} (h' : l = l') : CallOK E rs f l K = CallOK E rs f l' K := by rw [h']
@[congr] theorem CallQ_congr {f : Nat} {l l' : List C} {K : C → Prop} (h' : l = l') : CallQ E rs p f l K = CallQ E rs p f l' K := by rw [h']
@[congr] theorem retP_congr {l : List RV} {K : List C → Prop} : retP fr rs l K = retP fr rs l K := rfl
@[congr] theorem eqC_congr {ks : List LK} {cs ds cs' ds' : List C} {K : Bool → Prop} (h : cs = cs') (h' : ds = ds') : eqC ks cs ds K = eqC ks cs' ds' K := by rw [h, h']
@[congr] theorem S_congr {Q : Exit → Act → World → Prop} {k : List It} (h : st = st') : S E Q st k = S E Q st' k := by rw [h]
end

theorem forall_eq_t {p : Prop} : (true = true → p) = p := by simp
theorem forall_eq_f {p : Prop} : (false = true → p) = True := by simp
theorem forall_eq_g {p : Prop} : (false = false → p) = p := by simp
theorem forall_eq_h {p : Prop} : (true = false → p) = True := by simp

theorem wrap_i64 {n : Int} (h : -9223372036854775808 ≤ n ∧ n ≤ 9223372036854775807) : IntKind.i64.wrap n = n := by
  have h1 : IntKind.i64.wrap n = (if n % 18446744073709551616 ≥ 9223372036854775808 then n % 18446744073709551616 - 18446744073709551616 else n % 18446744073709551616) := by
    simp [IntKind.wrap, IntKind.signed, IntKind.bits]
  rw [h1]
  split <;> omega
theorem wrap_u64 {n : Int} (h : 0 ≤ n ∧ n ≤ 18446744073709551615) : IntKind.u64.wrap n = n := by
  have h1 : IntKind.u64.wrap n = n % 18446744073709551616 := by
    simp [IntKind.wrap, IntKind.signed, IntKind.bits]
  rw [h1]
  omega
theorem wrap_u8 {n : Int} (h : 0 ≤ n ∧ n ≤ 255) : IntKind.u8.wrap n = n := by
  have h1 : IntKind.u8.wrap n = n % 256 := by
    simp [IntKind.wrap, IntKind.signed, IntKind.bits]
  rw [h1]
  omega
theorem wrap_u32 {n : Int} (h : 0 ≤ n ∧ n ≤ 4294967295) : IntKind.u32.wrap n = n := by
  have h1 : IntKind.u32.wrap n = n % 4294967296 := by simp [IntKind.wrap, IntKind.signed, IntKind.bits]
  rw [h1]
  omega
theorem bits_u32 : IntKind.u32.bits = 32 := rfl
theorem bits_i64 : IntKind.i64.bits = 64 := rfl
theorem bits_u64 : IntKind.u64.bits = 64 := rfl
theorem bits_u8 : IntKind.u8.bits = 8 := rfl
theorem lkpV_false (z : Value) (o : Option Value) : lkpV false z o = .v (o.getD z) := by cases o <;> rfl
theorem tk_map {α β : Type} (f : α → β) (l : List α) (i : Nat) : (l.map f).take i = (l.take i).map f := List.map_take.symm
theorem dr_map {α β : Type} (f : α → β) (l : List α) (i : Nat) : (l.map f).drop i = (l.drop i).map f := List.map_drop.symm
theorem lkpV_true (z : Value) (o : Option Value) : lkpV true z o = .tup [.v (o.getD z), .v (.bool o.isSome)] := by cases o <;> rfl
theorem int_eq {k : IntKind} {a b : Int} (h : a = b) : C.v (.int k a) = C.v (.int k b) := by rw [h]
theorem bool_eq {a b : Bool} (h : a = b) : C.v (.bool a) = C.v (.bool b) := by rw [h]

attribute [go_sem] ev_nil ev_cons evD_nil evD_cons KE KP KPg KU KR KRD KQd KFd KEd KgP pkOK Nat.zero_le ev1 evU evG evE evQ evQ1 evF1 ev1d pureP lkpV_false lkpV_true binP pickP loadP loadJ loadCs opv slot strip req reqs argsV argsR partsV splice spliceOK cellsS cellsOK aggCells
  C.one C.ones C.nj opsV njL noRef subR findP rmP purgeFr purgeRs C.purge C.has C.hasL C.hasAny Res.purge putFr srcOf isEff sliceBnd sing IOp.uses eqC setParts partsE bslOK reqE oneAll mfind mput keyOK keyEq C.cl C.clL Value.oneCell'
  Option.getD_none cond_true cond_false Bool.and_true Bool.true_and Bool.and_false Bool.false_and Bool.or_true Bool.or_false Bool.true_or Bool.false_or Bool.not_true Bool.not_false List.getElem?_cons_zero List.getElem?_cons_succ List.getElem?_nil List.map_cons List.map_nil List.length_cons List.length_nil List.cons_append List.nil_append List.append_nil
  List.take_succ_cons List.take_zero List.drop_succ_cons List.drop_zero List.take_nil List.drop_nil List.set_cons_zero List.set_cons_succ List.mem_cons List.not_mem_nil or_false forall_eq_t forall_eq_f forall_eq_g forall_eq_h Option.toList_some Option.toList_none List.replicate_succ List.replicate_zero List.length_append Nat.sub_zero tk_map dr_map true_and and_true implies_true imp_self true_imp_iff beq_true beq_false Bool.cond_false_right Bool.cond_true_left List.length_map List.getElem?_map Option.map_some Option.map_none Int.toNat_natCast
end Go.Proofs.YtaicmkocmnikjaaDoor.Eng
