/- What a compiled operation was compiled from. -/
import Derived.Test.YtaicmkocmnikjaaDoorSym
namespace Go.Proofs.YtaicmkocmnikjaaDoor.Eng
set_option linter.all false
open Go Go.RowKit

inductive Is (P : Program) (ty : TypeId) : Op → IOp → Prop where
  | mv (x : Operand) : Is P ty (.move x) (.mv x)
  | asg (x : Operand) : Is P ty (.assign x) (.mv x)
  | pick (c x y : Operand) : Is P ty (.pick c x y) (.pick c x y)
  | bin (b : BinOp) (t yt : TypeId) (x y : Operand) : Is P ty (.binOp b t x y yt) (.bin b x y)
  | beqT (t yt : TypeId) (x y : Operand) (h : P.underlying t = some .bool) : Is P ty (.binOp .eql t x y yt) (.beq false x y)
  | beqF (t yt : TypeId) (x y : Operand) (h : P.underlying t = some .bool) : Is P ty (.binOp .neq t x y yt) (.beq true x y)
  | un (u : UnOp) (t : TypeId) (x : Operand) : Is P ty (.unOp u t x) (.un u x)
  | conv (s d : TypeId) (k k' : IntKind) (x : Operand) (hs : P.underlying s = some (.int k')) (hd : P.underlying d = some (.int k)) : Is P ty (.convert s d x) (.conv k x)
  | fld (s : TypeId) (f : Nat) (fl : Field) (sz : Nat) (x : Operand) (d : TypeDesc) (h : fieldOf P s f = some (fl, sz)) (hd : P.underlying fl.type = some d) : Is P ty (.field s x f) (.fld (isAggD (some d)) fl.offset sz x)
  | ext (x : Operand) (i : Nat) : Is P ty (.extract x i) (.ext x i)
  | build (t : TypeId) (ps : Array (Nat × Operand)) (fields : Array Field) (i : TypeInfo) (z : Value) (r : List (Nat × Nat × Operand))
      (ht : P.underlying t = some (.struct fields)) (hi : P.info? t = some i) (hz : i.zero = some z) (hall : (fields.toList.all fun f => (P.info? f.type).isSome) = true) (hp : partsOf P fields ps.toList = some r) : Is P ty (.build t ps) (.build z.cells.toList r)
  | load (t : TypeId) (x : Operand) (i : TypeInfo) (d : TypeDesc) (hi : P.info? t = some i) (hd : P.underlying t = some d) : Is P ty (.load t x) (.load (isAggD (some d)) i.size x)
  | store (t : TypeId) (x y : Operand) (i : TypeInfo) (hi : P.info? t = some i) : Is P ty (.store t x y) (.store i.size x y)
  | nilck (x : Operand) : Is P ty (.nilCheck x) (.nilck x)
  | faddr (s : TypeId) (f : Nat) (fl : Field) (sz : Nat) (x : Operand) (h : fieldOf P s f = some (fl, sz)) (h0 : sz ≠ 0) : Is P ty (.fieldAddr s x f) (.faddr fl.offset x)
  | iaddr (t e : TypeId) (ie : TypeInfo) (x i : Operand) (ht : P.underlying t = some (.slice e)) (hi : P.info? e = some ie) : Is P ty (.indexAddr t x i) (.iaddr ie.size x i)
  | idxs (t : TypeId) (x i : Operand) (ht : P.underlying t = some .string) : Is P ty (.index t x i) (.idxs x i)
  | slcl (t e : TypeId) (ie : TypeInfo) (x : Operand) (lo hi : Option Operand) (ht : P.underlying t = some (.slice e)) (hi' : P.info? e = some ie) : Is P ty (.slice t x lo hi none) (.slcl ie.size x lo hi)
  | slcs (t : TypeId) (x : Operand) (lo hi : Option Operand) (ht : P.underlying t = some .string) : Is P ty (.slice t x lo hi none) (.slcs x lo hi)
  | alloc (t : TypeId) (i : TypeInfo) (z : Value) (hi : P.info? t = some i) (hz : i.zero = some z) : Is P ty (.alloc t) (.alloc t z.cells.toList)
  | box (t : TypeId) (x : Operand) : Is P ty (.box t x) (.box t x)
  | bsl (t e : TypeId) (n : Nat) (ps : Array (Nat × Operand)) (i : TypeInfo) (z : Value) (ht : P.underlying t = some (.slice e)) (hi : P.info? e = some i) (hz : i.zero = some z) (hn : ¬ n * i.size = 0) (hzs : z.cells.size = i.size) :
      Is P ty (.buildSlice t n ps) (.bsl e i.size n z.cells.toList ps.toList)
  | mksl (t e : TypeId) (l c : Operand) (i : TypeInfo) (z : Value) (ht : P.underlying t = some (.slice e)) (hi : P.info? e = some i) (hz : i.zero = some z) (hzs : z.cells.size = i.size) (h0 : 0 < i.size) : Is P ty (.makeSlice t l c) (.mksl e i.bytes z.cells.toList l c)
  | aeqT (t yt : TypeId) (x y : Operand) (ks : List LK) (hg : P.eqGuardType P.depth t = false) (hl : leaves P 20 t = some ks) (hs : ∃ fs, P.underlying t = some (.struct fs)) : Is P ty (.binOp .eql t x y yt) (.aeq false ks x y)
  | aeqF (t yt : TypeId) (x y : Operand) (ks : List LK) (hg : P.eqGuardType P.depth t = false) (hl : leaves P 20 t = some ks) (hs : ∃ fs, P.underlying t = some (.struct fs)) : Is P ty (.binOp .neq t x y yt) (.aeq true ks x y)
  | nilIT (t yt : TypeId) (x : Operand) (hs : ∃ ms, P.underlying t = some (.interface ms)) : Is P ty (.binOp .eql t x (.const .nilIface) yt) (.isnil true false x)
  | nilIF (t yt : TypeId) (x : Operand) (hs : ∃ ms, P.underlying t = some (.interface ms)) : Is P ty (.binOp .neq t x (.const .nilIface) yt) (.isnil true true x)
  | nilST (t yt : TypeId) (x : Operand) (hs : ∃ e, P.underlying t = some (.slice e)) : Is P ty (.binOp .eql t x (.const (.slice none 0 0)) yt) (.isnil false false x)
  | nilSF (t yt : TypeId) (x : Operand) (hs : ∃ e, P.underlying t = some (.slice e)) : Is P ty (.binOp .neq t x (.const (.slice none 0 0)) yt) (.isnil false true x)
  | bsl0 (t e : TypeId) (ps : Array (Nat × Operand)) (i : TypeInfo) (ht : P.underlying t = some (.slice e)) (hi : P.info? e = some i) (hps : ps.size = 0) : Is P ty (.buildSlice t 0 ps) (.bsl0 e)
  | clo (f : FuncId) (first caps : Array Operand) (h : first.size = 0) : Is P ty (.makeFunc (.func f) first caps) (.clo f caps.toList)
  | mkmap (t e : TypeId) (str : Bool) (hk : keyKind P t = some (str, e)) : Is P ty (.makeMap t none) (.mkmap str)
  | lkp (t e : TypeId) (str ok : Bool) (m k : Operand) (i : TypeInfo) (z : Value) (hk : keyKind P t = some (str, e)) (hi : P.info? e = some i) (hz : i.zero = some z) : Is P ty (.lookup t m k ok) (.lkp str z ok m k)
  | mupd (t e : TypeId) (str : Bool) (m k v : Operand) (hk : keyKind P t = some (str, e)) : Is P ty (.mapUpdate t m k v) (.mupd str m k v)
  | zcap (t e : TypeId) (x : Operand) (lo hi : Option Operand) (mx : Operand) (ie : TypeInfo) (ht : P.underlying t = some (.slice e)) (hi' : P.info? e = some ie) (hb : isZeroSl lo hi (some mx) = true) : Is P ty (.slice t x lo hi (some mx)) (.zcap x)
  | iaddra (t e : TypeId) (n : Nat) (ie : TypeInfo) (x i : Operand) (ht : P.underlying t = some (.array n e)) (hi : P.info? e = some ie) (h0 : 0 < ie.size) : Is P ty (.indexAddr t x i) (.iaddra ie.size n x i)
  | call (c : Call) (f : Nat) (hc : c.callee = .value (.func f)) (h : callable P f = true) : Is P ty (.call c) (.call f c.args.toList)
  | callv (c : Call) (x : Operand) (hc : c.callee = .value x) : Is P ty (.call c) (.callv x c.args.toList)
  | lenS (c : Call) (t : TypeId) (x : Operand) (hc : c.callee = .builtin .len) (hat : c.argTypes.toList = [t]) (ha : c.args.toList = [x]) (ht : P.underlying t = some .string) : Is P ty (.call c) (.len true x)
  | lenL (c : Call) (t e : TypeId) (x : Operand) (hc : c.callee = .builtin .len) (hat : c.argTypes.toList = [t]) (ha : c.args.toList = [x]) (ht : P.underlying t = some (.slice e)) : Is P ty (.call c) (.len false x)
  | app (c : Call) (t e : TypeId) (i : TypeInfo) (s x : Operand) (hc : c.callee = .builtin .append) (hat : c.argTypes.toList = [t, t]) (ha : c.args.toList = [s, x]) (ht : P.underlying t = some (.slice e)) (hi : P.info? e = some i) (z : Value) (hz : i.zero = some z) (hzs : z.cells.size = i.size) :
      Is P ty (.call c) (.app e i.size i.bytes s x)
  | apps (c : Call) (t t' e : TypeId) (i : TypeInfo) (s x : Operand) (hc : c.callee = .builtin .append) (hat : c.argTypes.toList = [t, t']) (ha : c.args.toList = [s, x]) (ht : P.underlying t = some (.slice e)) (ht' : P.underlying t' = some .string) (hi : P.info? e = some i) (hz : i.zero = some (.int .u8 0)) (hs1 : i.size = 1) (hb1 : i.bytes = 1) :
      Is P ty (.call c) (.apps e s x)
  | toStr (s d e : TypeId) (x : Operand) (hs : P.underlying s = some (.slice e)) (he : P.underlying e = some (.int .u8)) (hd : P.underlying d = some .string) : Is P ty (.convert s d x) (.toStr x)
  | max (c : Call) (x y : Operand) (hc : c.callee = .builtin .max) (ha : c.args.toList = [x, y]) : Is P ty (.call c) (.max x y)
  | min (c : Call) (x y : Operand) (hc : c.callee = .builtin .min) (ha : c.args.toList = [x, y]) : Is P ty (.call c) (.min x y)
  | appz (c : Call) (t t' : TypeId) (kn : IntKind) (e : TypeId) (i : TypeInfo) (s x : Operand) (hc : c.callee = .builtin .append) (hat : c.argTypes.toList = [t, t']) (ha : c.args.toList = [s, x]) (ht : P.underlying t = some (.slice e)) (ht' : P.underlying t' = some (.int kn)) (hi : P.info? e = some i) (z : Value) (hz : i.zero = some z) (hzs : z.cells.size = i.size) (h0 : 0 < i.size) :
      Is P ty (.call c) (.appz e i.bytes z.cells.toList s x)
  | sub64 (c : Call) (f : Nat) (x y b : Operand) (hc : c.callee = .value (.func f)) (h : sub64At P f = true) (ha : c.args.toList = [x, y, b]) : Is P ty (.call c) (.sub64 x y b)
  | cap (c : Call) (t e : TypeId) (x : Operand) (hc : c.callee = .builtin .cap) (hat : c.argTypes.toList = [t]) (ha : c.args.toList = [x]) (ht : P.underlying t = some (.slice e)) : Is P ty (.call c) (.cap x)
  | slca (t e : TypeId) (n : Nat) (ie : TypeInfo) (x : Operand) (ht : P.underlying t = some (.array n e)) (hi : P.info? e = some ie) : Is P ty (.slice t x none none none) (.slca ie.size n x)
  | raw (o : Op) : Is P ty o (.raw o ty)

theorem comp_is_builtin {P : Program} {ty : TypeId} {c : Call} {b : Builtin} {io : IOp} (hc : c.callee = .builtin b) (h : compBuiltin P ty c b = some io) : Is P ty (.call c) io := by
  unfold compBuiltin at h
  split at h
  · split at h
    · split at h
      · injection h with h; subst h; exact .lenS c _ _ hc (by assumption) (by assumption) (by assumption)
      · injection h with h; subst h; exact .lenL c _ _ _ hc (by assumption) (by assumption) (by assumption)
      · injection h with h; subst h; exact .raw ..
    · injection h with h; subst h; exact .raw ..
  · split at h
    · split at h
      · rename_i heq
        subst heq
        split at h
        · split at h
          · split at h
            · split at h
              · injection h with h; subst h; exact .app c _ _ _ _ _ hc (by assumption) (by assumption) (by assumption) (by assumption) _ (by assumption) (by assumption)
              · cases h
            · cases h
          · cases h
        · cases h
      · split at h
        · split at h
          · split at h
            · split at h
              · split at h
                · injection h with h; subst h; exact .apps c _ _ _ _ _ _ hc (by assumption) (by assumption) (by assumption) (by assumption) (by assumption) (by assumption) (by assumption) (by assumption)
                · cases h
              · cases h
            · cases h
          · cases h
        · split at h
          · split at h
            · split at h
              · split at h
                · injection h with h; subst h; exact .appz c _ _ _ _ _ _ _ hc (by assumption) (by assumption) (by assumption) (by assumption) (by assumption) _ (by assumption) (by assumption) (by assumption)
                · cases h
              · cases h
            · cases h
          · cases h
        · injection h with h; subst h; exact .raw ..
    · cases h
  · split at h
    · split at h
      · injection h with h; subst h; exact .cap c _ _ _ hc (by assumption) (by assumption) (by assumption)
      · injection h with h; subst h; exact .raw ..
    · injection h with h; subst h; exact .raw ..
  · split at h
    · injection h with h; subst h; exact .max c _ _ hc (by assumption)
    · injection h with h; subst h; exact .raw ..
  · split at h
    · injection h with h; subst h; exact .min c _ _ hc (by assumption)
    · injection h with h; subst h; exact .raw ..
  · injection h with h; subst h; exact .raw ..

theorem comp_is_call {P : Program} {ty : TypeId} {c : Call} {io : IOp} (h : compCall P ty c = some io) : Is P ty (.call c) io := by
  unfold compCall at h
  split at h
  · split at h
    · injection h with h; subst h; exact .call c _ (by assumption) (by assumption)
    · split at h
      · split at h
        · injection h with h; subst h; exact .sub64 c _ _ _ _ (by assumption) (by assumption) (by assumption)
        · cases h
      · cases h
  · injection h with h; subst h; exact .callv c _ (by assumption)
  · exact comp_is_builtin (by assumption) h
  · injection h with h; subst h; exact .raw ..

theorem comp_is_eqT {P : Program} {ty t yt : TypeId} {x y : Operand} {io : IOp} (h : compEq P false t x y = some io) : Is P ty (.binOp .eql t x y yt) io := by
  unfold compEq at h
  split at h
  · rename_i hu
    split at h
    · cases h
    · rename_i hg
      split at h
      · rename_i hl
        injection h with h
        subst h
        exact .aeqT _ _ _ _ _ (by simpa using hg) hl ⟨_, hu⟩
      · cases h
  · rename_i hu
    injection h with h
    subst h
    exact .nilIT _ _ _ ⟨_, hu⟩
  · rename_i hu
    injection h with h
    subst h
    exact .nilST _ _ _ ⟨_, hu⟩
  · cases h
theorem comp_is_eqF {P : Program} {ty t yt : TypeId} {x y : Operand} {io : IOp} (h : compEq P true t x y = some io) : Is P ty (.binOp .neq t x y yt) io := by
  unfold compEq at h
  split at h
  · rename_i hu
    split at h
    · cases h
    · rename_i hg
      split at h
      · rename_i hl
        injection h with h
        subst h
        exact .aeqF _ _ _ _ _ (by simpa using hg) hl ⟨_, hu⟩
      · cases h
  · rename_i hu
    injection h with h
    subst h
    exact .nilIF _ _ _ ⟨_, hu⟩
  · rename_i hu
    injection h with h
    subst h
    exact .nilSF _ _ _ ⟨_, hu⟩
  · cases h

theorem comp_is {P : Program} {ty : TypeId} {op : Op} {io : IOp} (h : compOp P ty op = some io) : Is P ty op io := by
  unfold compOp at h
  split at h
  all_goals (repeat' split at h)
  all_goals first
    | (cases h; done)
    | exact comp_is_call h
    | (injection h with h; subst h; first
        | (constructor <;> assumption)
        | exact .toStr _ _ _ _ (by assumption) (by assumption) (by assumption)
        | exact .bsl _ _ _ _ _ _ (by assumption) (by assumption) (by assumption) (by assumption) (by assumption)
        | exact .mksl _ _ _ _ _ _ (by assumption) (by assumption) (by assumption) (by assumption) (by assumption)
        | exact .lkp _ _ _ _ _ _ _ _ (by assumption) (by assumption) (by assumption)
        | exact .mupd _ _ _ _ _ _ (by assumption)
        | exact .zcap _ _ _ _ _ _ _ (by assumption) (by assumption) (by assumption)
        | exact .iaddra _ _ _ _ _ _ (by assumption) (by assumption) (by assumption)
        | exact .slca _ _ _ _ _ (by assumption) (by assumption)
        | exact .mkmap _ _ _ (by assumption)
        | exact .clo _ _ _ (by assumption)
        | exact comp_is_eqT (by assumption)
        | exact comp_is_eqF (by assumption)
        | (rename_i hz _; subst hz; exact .bsl0 _ _ _ _ (by assumption) (by assumption) (by assumption))
        | exact .fld _ _ _ _ _ _ (by assumption) (by assumption)
        | exact .load _ _ _ _ (by assumption) (by assumption)
        | exact .faddr _ _ _ _ _ (by assumption) (by assumption)
        | exact .asg _
        | exact .mv _
        | exact .beqT _ _ _ _ (by assumption)
        | exact .beqF _ _ _ _ (by assumption)
        | exact .raw ..)
end Go.Proofs.YtaicmkocmnikjaaDoor.Eng
