/- BY VALUE, part 16: the evaluator with what follows, for rewriting. -/
import Derived.Test.YtnfmilnlekmjgaaBvRun
set_option linter.unusedVariables false
set_option linter.unusedSimpArgs false
namespace Go.Bv

section
variable {β : Type} {R : RT} {L : BT → BT}

def bindOps (R : RT) (ops : List OP) (e : Env) (k : Env → Option β) : Option β := match evalOps R ops e with
  | some e' => k e'
  | none => none
def bindC (R : RT) (L : BT → BT) (c : C) (e : Env) (k : Ex → Env → Option β) : Option β := match evalC R L c e with
  | some (x, e') => k x e'
  | none => none
/-- What an operation gives, and then. -/
def andThen (e : Env) (d : Option Nat) (r : Option (Res × List Nat)) (k : Env → Option β) : Option β := match r with
  | some (.val A, ks) => k ((e.freeze ks).put d A)
  | some (.mk K W, ks) => match applyRes (e.freeze ks) d (.mk K W) with
    | some e' => k e'
    | none => none
  | none => none
def orNone (x : Option Env) (k : Env → Option β) : Option β := match x with
  | some e => k e
  | none => none

def onBool (A : AV) (f : Bool → Option β) : Option β := match A with
  | .bool b => f b
  | _ => none
theorem onBool_bool {b : Bool} {f : Bool → Option β} : onBool (.bool b) f = f b := _root_.id rfl
theorem lgz {a d : AV} {l : List AV} : (a :: l).getD 0 d = a := _root_.id rfl
theorem lgs {a d : AV} {l : List AV} {n : Nat} : (a :: l).getD (n + 1) d = l.getD n d := _root_.id rfl
theorem lsz {a x : AV} {l : List AV} : (a :: l).set 0 x = x :: l := _root_.id rfl
theorem lss {a x : AV} {l : List AV} {n : Nat} : (a :: l).set (n + 1) x = a :: l.set n x := _root_.id rfl
theorem nw_mv : ∀ x, ((O.mv x).cls ≠ .w) = True := fun x => eq_true (show _ ≠ _ from fun h => by cases h)
theorem nw_pick : ∀ a b c, ((O.pick a b c).cls ≠ .w) = True := fun a b c => eq_true (show _ ≠ _ from fun h => by cases h)
theorem nw_box : ∀ T x, ((O.box T x).cls ≠ .w) = True := fun T x => eq_true (show _ ≠ _ from fun h => by cases h)
theorem nw_new : ∀ T z, ((O.new T z).cls ≠ .w) = True := fun T z => eq_true (show _ ≠ _ from fun h => by cases h)
theorem nw_bld : ∀ z p, ((O.bld z p).cls ≠ .w) = True := fun z p => eq_true (show _ ≠ _ from fun h => by cases h)
theorem nw_lit : ∀ E c x, ((O.lit E c x).cls ≠ .w) = True := fun E c x => eq_true (show _ ≠ _ from fun h => by cases h)
theorem nw_ld : ∀ n p, ((O.ld n p).cls ≠ .w) = True := fun n p => eq_true (show _ ≠ _ from fun h => by cases h)
theorem nw_fa : ∀ o n p, ((O.fa o n p).cls ≠ .w) = True := fun o n p => eq_true (show _ ≠ _ from fun h => by cases h)
theorem nw_ia : ∀ c x i, ((O.ia c x i).cls ≠ .w) = True := fun c x i => eq_true (show _ ≠ _ from fun h => by cases h)
theorem nw_ix : ∀ x i, ((O.ix x i).cls ≠ .w) = True := fun x i => eq_true (show _ ≠ _ from fun h => by cases h)
theorem nw_subs : ∀ x l h, ((O.subs x l h).cls ≠ .w) = True := fun x l h => eq_true (show _ ≠ _ from fun h => by cases h)
theorem nw_sub : ∀ c x l h, ((O.sub c x l h).cls ≠ .w) = True := fun c x l h => eq_true (show _ ≠ _ from fun h => by cases h)
theorem nw_mk : ∀ E c b z n, ((O.mk E c b z n).cls ≠ .w) = True := fun E c b z n => eq_true (show _ ≠ _ from fun h => by cases h)
theorem nw_bin : ∀ o x y, ((O.bin o x y).cls ≠ .w) = True := fun o x y => eq_true (show _ ≠ _ from fun h => by cases h)
theorem nw_beq : ∀ n x y, ((O.beq n x y).cls ≠ .w) = True := fun n x y => eq_true (show _ ≠ _ from fun h => by cases h)
theorem nw_eqs : ∀ n k x y, ((O.eqs n k x y).cls ≠ .w) = True := fun n k x y => eq_true (show _ ≠ _ from fun h => by cases h)
theorem nw_un : ∀ o x, ((O.un o x).cls ≠ .w) = True := fun o x => eq_true (show _ ≠ _ from fun h => by cases h)
theorem nw_cvi : ∀ k x, ((O.cvi k x).cls ≠ .w) = True := fun k x => eq_true (show _ ≠ _ from fun h => by cases h)
theorem nw_cvs : ∀ x, ((O.cvs x).cls ≠ .w) = True := fun x => eq_true (show _ ≠ _ from fun h => by cases h)
theorem nw_cvsb : ∀ x, ((O.cvsb x).cls ≠ .w) = True := fun x => eq_true (show _ ≠ _ from fun h => by cases h)
theorem nw_cvbs : ∀ x, ((O.cvbs x).cls ≠ .w) = True := fun x => eq_true (show _ ≠ _ from fun h => by cases h)
theorem nw_lens : ∀ x, ((O.lens x).cls ≠ .w) = True := fun x => eq_true (show _ ≠ _ from fun h => by cases h)
theorem nw_len : ∀ x, ((O.len x).cls ≠ .w) = True := fun x => eq_true (show _ ≠ _ from fun h => by cases h)
theorem nw_cpy : ∀ E c b x, ((O.cpy E c b x).cls ≠ .w) = True := fun E c b x => eq_true (show _ ≠ _ from fun h => by cases h)
theorem nw_mnx : ∀ m x y, ((O.mnx m x y).cls ≠ .w) = True := fun m x y => eq_true (show _ ≠ _ from fun h => by cases h)
theorem nw_ext : ∀ x i, ((O.ext x i).cls ≠ .w) = True := fun x i => eq_true (show _ ≠ _ from fun h => by cases h)
theorem nw_call : ∀ f x, ((O.call f x).cls ≠ .w) = True := fun f x => eq_true (show _ ≠ _ from fun h => by cases h)
theorem nw_lkp : ∀ x i, ((O.lkp x i).cls ≠ .w) = True := fun x i => eq_true (show _ ≠ _ from fun h => by cases h)
theorem nw_clo : ∀ f x, ((O.clo f x).cls ≠ .w) = True := fun f x => eq_true (show _ ≠ _ from fun h => by cases h)
theorem nw_calld : ∀ f x, ((O.calld f x).cls ≠ .w) = True := fun f x => eq_true (show _ ≠ _ from fun h => by cases h)
theorem nw_bldo : ∀ z p j x, ((O.bldo z p j x).cls ≠ .w) = True := fun z p j x => eq_true (show _ ≠ _ from fun h => by cases h)
theorem nw_nck : ∀ x, ((O.nck x).cls ≠ .w) = True := fun x => eq_true (show _ ≠ _ from fun h => by cases h)
theorem bindOps_nil (e : Env) (k : Env → Option β) : bindOps R [] e k = k e := _root_.id rfl

theorem bindOps_plain {d : Option Nat} {o : O} {os : List OP} {e : Env} {k : Env → Option β} (h : o.cls ≠ .w) : bindOps R (⟨d, o, none⟩ :: os) e k = andThen e d (act R e o) (fun e' => bindOps R os e' k) := by
  unfold bindOps andThen
  simp only [evalOps, evalOP, evalO_act h]
  cases act R e o with
  | none => rfl
  | some q =>
    obtain ⟨r, ks⟩ := q
    cases r with
    | val A => rfl
    | mk K W => simp only; cases applyRes (e.freeze ks) d (.mk K W) <;> rfl

theorem bindOps_w {d : Option Nat} {o : O} {os : List OP} {e : Env} {k : Env → Option β} (h : o.cls = .w) : bindOps R (⟨d, o, none⟩ :: os) e k = orNone (evalO R e d o) (fun e' => bindOps R os e' k) := by
  unfold bindOps orNone
  simp only [evalOps, evalOP]
  cases evalO R e d o <;> rfl

/-- Is an operation carried out? -/
def effT : AV → Option Bool
  | .bool b => some b
  | .und => some false
  | _ => none
def effF : AV → Option Bool
  | .bool b => some (!b)
  | .und => some false
  | _ => none
def onEff (x : Option Bool) (f : Bool → Option β) : Option β := match x with
  | some b => f b
  | none => none
theorem onEff_some {b : Bool} {f : Bool → Option β} : onEff (some b) f = f b := _root_.id rfl
theorem effT_bool {b : Bool} : effT (.bool b) = some b := _root_.id rfl
theorem effF_bool {b : Bool} : effF (.bool b) = some (!b) := _root_.id rfl
theorem effT_ite {c x : Bool} : effT (if c = true then .bool x else .und) = some (c && x) := by cases c <;> rfl
theorem effF_ite {c x : Bool} : effF (if c = true then .bool x else .und) = some (c && !x) := by cases c <;> rfl
theorem bindOps_gt {d : Option Nat} {o : O} {t : Nat} {os : List OP} {e : Env} {k : Env → Option β} (h : o.cls ≠ .w) :
    bindOps R (⟨d, o, some (t, true)⟩ :: os) e k = onEff (effT (e.tmps.getD t .unk)) (fun b => andThen e d (if b = true then act R e o else some (.val .und, [])) (fun e' => bindOps R os e' k)) := by
  unfold bindOps andThen onEff effT
  simp only [evalOps, evalOP]
  cases hb : e.tmps.getD t .unk <;> try rfl
  rename_i b
  cases b with
  | true =>
    simp only [if_true, evalO_act h]
    cases act R e o with
    | none => rfl
    | some q =>
      obtain ⟨r, ks⟩ := q
      cases r with
      | val A => rfl
      | mk K W => simp only; cases applyRes (e.freeze ks) d (.mk K W) <;> rfl
  | false => rfl
theorem bindOps_gf {d : Option Nat} {o : O} {t : Nat} {os : List OP} {e : Env} {k : Env → Option β} (h : o.cls ≠ .w) :
    bindOps R (⟨d, o, some (t, false)⟩ :: os) e k = onEff (effF (e.tmps.getD t .unk)) (fun b => andThen e d (if b = true then act R e o else some (.val .und, [])) (fun e' => bindOps R os e' k)) := by
  unfold bindOps andThen onEff effF
  simp only [evalOps, evalOP]
  cases hb : e.tmps.getD t .unk <;> try rfl
  rename_i b
  cases b with
  | false =>
    simp only [if_true, evalO_act h, Bool.not_false]
    cases act R e o with
    | none => rfl
    | some q =>
      obtain ⟨r, ks⟩ := q
      cases r with
      | val A => rfl
      | mk K W => simp only; cases applyRes (e.freeze ks) d (.mk K W) <;> rfl
  | true => rfl

theorem andThen_val {e : Env} {d : Option Nat} {A : AV} {ks : List Nat} {k : Env → Option β} : andThen e d (some (.val A, ks)) k = k ((e.freeze ks).put d A) := _root_.id rfl
theorem andThen_mk {e : Env} {d : Nat} {K : OK} {W : Option (Nat × List AV)} {ks : List Nat} {k : Env → Option β} : andThen e (some d) (some (.mk K W, ks)) k =
    if d < (e.freeze ks).objs.length then k (((e.freeze ks).setObj d ((e.freeze ks).gen d + 1) K).put (some d) (K.refW W d ((e.freeze ks).gen d + 1))) else none := by
  unfold andThen applyRes
  simp only
  split
  · rename_i h; split at h
    · rename_i hd; cases h; rw [if_pos hd]
    · cases h
  · rename_i h; split at h
    · cases h
    · rename_i hd; rw [if_neg hd]
theorem andThen_none {e : Env} {d : Option Nat} {k : Env → Option β} : andThen e d none k = none := _root_.id rfl
theorem orNone_some {e : Env} {k : Env → Option β} : orNone (some e) k = k e := _root_.id rfl
theorem orNone_none {k : Env → Option β} : orNone none k = none := _root_.id rfl

/-! What each operation gives. -/
theorem get_t {ts : List AV} {os : List AObj} {n : Nat} : Env.get ⟨ts, os⟩ (.t n) = ts.getD n .unk := _root_.id rfl
theorem get_c {e : Env} {A : AV} : e.get (.c A) = A := _root_.id rfl
theorem put_mk {ts : List AV} {os : List AObj} {d : Nat} {A : AV} : Env.put (Env.freeze ⟨ts, os⟩ []) (some d) A = ⟨ts.set d A, os⟩ := _root_.id rfl
theorem act_mv {e : Env} {x : X} : act R e (.mv x) = some (.val (e.get x), []) := _root_.id rfl
def pickA (c a b : AV) : Option (Res × List Nat) := match c with
  | .bool v => some (.val (if v = true then a else b), [])
  | _ => none
theorem act_pick {e : Env} {c a b : X} : act R e (.pick c a b) = pickA (e.get c) (e.get a) (e.get b) := by
  simp only [act]; unfold pickA; cases e.get c <;> rfl
theorem pickA_bool {v : Bool} {a b : AV} : pickA (.bool v) a b = some (.val (if v = true then a else b), []) := _root_.id rfl
def valA (x : Option AV) : Option (Res × List Nat) := match x with
  | some A => some (.val A, [])
  | none => none
theorem valA_some {A : AV} : valA (some A) = some (.val A, []) := _root_.id rfl
theorem act_bin {e : Env} {op : BinOp} {x y : X} : act R e (.bin op x y) = valA (binA op (e.get x) (e.get y)) := _root_.id rfl
theorem act_un {e : Env} {op : UnOp} {x : X} : act R e (.un op x) = valA (unA op (e.get x)) := _root_.id rfl
def lensA : AV → Option (Res × List Nat)
  | .str s => some (.val (.int .i64 s.size), [])
  | _ => none
theorem act_lens {e : Env} {x : X} : act R e (.lens x) = lensA (e.get x) := by
  simp only [act]; unfold lensA; cases e.get x <;> rfl
theorem lensA_str {s : ByteArray} : lensA (.str s) = some (.val (.int .i64 s.size), []) := _root_.id rfl
theorem bin_int {op : BinOp} {k : IntKind} {a b : Int} : binA op (.int k a) (.int k b) = match op with
    | .shl => if b < 0 then none else some (.int k (k.wrap (a * 2 ^ (min b.toNat k.bits))))
    | .shr => if b < 0 then none else some (.int k (a.fdiv (2 ^ (min b.toNat k.bits))))
    | .add => some (.int k (k.wrap (a + b)))
    | .sub => some (.int k (k.wrap (a - b)))
    | .mul => some (.int k (k.wrap (a * b)))
    | .quo => if b = 0 then none else some (.int k (k.wrap (a.tdiv b)))
    | .rem => if b = 0 then none else some (.int k (a.tmod b))
    | .and => some (.int k (k.wrap ((BitVec.ofInt k.bits a &&& BitVec.ofInt k.bits b).toNat)))
    | .or => some (.int k (k.wrap ((BitVec.ofInt k.bits a ||| BitVec.ofInt k.bits b).toNat)))
    | .xor => some (.int k (k.wrap ((BitVec.ofInt k.bits a ^^^ BitVec.ofInt k.bits b).toNat)))
    | .andNot => some (.int k (k.wrap ((BitVec.ofInt k.bits a &&& ~~~ BitVec.ofInt k.bits b).toNat)))
    | .eql => some (.bool (a == b))
    | .neq => some (.bool (a != b))
    | .lss => some (.bool (decide (a < b)))
    | .leq => some (.bool (decide (a ≤ b)))
    | .gtr => some (.bool (decide (a > b)))
    | .geq => some (.bool (decide (a ≥ b))) := by
  cases op <;> simp [binA]
theorem bin_str {op : BinOp} {a b : ByteArray} : binA op (.str a) (.str b) = match op with
    | .add => if a.size + b.size ≤ 9223372036854775807 then some (.str (a ++ b)) else none
    | .eql => some (.bool (a.toList == b.toList))
    | .neq => some (.bool (!(a.toList == b.toList)))
    | .lss => some (.bool (Op.bytesLess a.toList b.toList))
    | .leq => some (.bool (Op.bytesLess a.toList b.toList || a.toList == b.toList))
    | .gtr => some (.bool (!(Op.bytesLess a.toList b.toList || a.toList == b.toList)))
    | .geq => some (.bool (!Op.bytesLess a.toList b.toList))
    | _ => none := _root_.id rfl
theorem un_not {b : Bool} : unA .not (.bool b) = some (.bool (!b)) := _root_.id rfl
theorem un_neg {k : IntKind} {n : Int} : unA .neg (.int k n) = some (.int k (k.wrap (0 - n))) := _root_.id rfl

/-! Where rewriting goes: never into what follows. -/
theorem congr_bindOps {ops : List OP} {e e' : Env} {k : Env → Option β} (h : e = e') : bindOps R ops e k = bindOps R ops e' k := by rw [h]
theorem congr_getD {l : List AV} {n : Nat} {A : AV} : l.getD n A = l.getD n A := _root_.id rfl
theorem congr_bindC {c : C} {e e' : Env} {k : Ex → Env → Option β} (h : e = e') : bindC R L c e k = bindC R L c e' k := by rw [h]
theorem congr_andThen {e : Env} {d : Option Nat} {r r' : Option (Res × List Nat)} {k : Env → Option β} (h : r = r') : andThen e d r k = andThen e d r' k := by rw [h]
theorem congr_orNone {x x' : Option Env} {k : Env → Option β} (h : x = x') : orNone x k = orNone x' k := by rw [h]
theorem congr_onBool {A A' : AV} {f : Bool → Option β} (h : A = A') : onBool A f = onBool A' f := by rw [h]

theorem congr_onEff {x x' : Option Bool} {f : Bool → Option β} (h : x = x') : onEff x f = onEff x' f := by rw [h]
theorem ite_and {a b : Bool} : (if a = true then b else false) = (a && b) := by cases a <;> rfl
theorem ite_or {a b : Bool} : (if a = true then true else b) = (a || b) := by cases a <;> rfl
/-- What is picked: of a value that was carried out or not. -/
theorem pick_and {c x y : Bool} : (if c = true then (if c = true then AV.bool x else .und) else AV.bool y) = AV.bool (if c = true then x else y) := by cases c <;> rfl
theorem guard_and {c x : Bool} {p : Option (Res × List Nat)} : (if (c && x) = true then p else some (Res.val .und, [])) = if c = true then (if x = true then p else some (Res.val .und, [])) else some (Res.val .und, []) := by cases c <;> rfl
theorem ite_nest {a b : Bool} {A : AV} : (if a = true then (if b = true then A else .und) else .und) = if (a && b) = true then A else .und := by cases a <;> rfl
theorem ite_val {c : Prop} [Decidable c] {A B : AV} : (if c then some (Res.val A, ([] : List Nat)) else some (Res.val B, [])) = some (Res.val (if c then A else B), []) := by split <;> rfl
theorem ite_bool {c : Prop} [Decidable c] {a b : Bool} : (if c then AV.bool a else AV.bool b) = AV.bool (if c then a else b) := by split <;> rfl
theorem ite_int {c : Prop} [Decidable c] {k : IntKind} {a b : Int} : (if c then AV.int k a else AV.int k b) = AV.int k (if c then a else b) := by split <;> rfl
theorem ite_str {c : Prop} [Decidable c] {a b : ByteArray} : (if c then AV.str a else AV.str b) = AV.str (if c then a else b) := by split <;> rfl

theorem bindC_skip {e : Env} {k : Ex → Env → Option β} : bindC R L .skip e k = k .normal e := _root_.id rfl
theorem bindC_exit {id : Nat} {e : Env} {k : Ex → Env → Option β} : bindC R L (.exit id) e k = k (.exit id) e := _root_.id rfl
theorem bindC_ret {e : Env} {k : Ex → Env → Option β} : bindC R L .ret e k = k .ret e := _root_.id rfl
theorem bindC_reg {ks : List Nat} {ops : List OP} {e : Env} {k : Ex → Env → Option β} : bindC R L (.reg ks ops) e k = bindOps R ops (e.kill ks) (fun e' => k .normal e') := by
  unfold bindC bindOps
  simp only [evalC]
  cases evalOps R ops (e.kill ks) <;> rfl
theorem bindC_chk {ρ : List (Nat × Nat)} {ν : List Nat} {a : C} {e : Env} {k : Ex → Env → Option β} : bindC R L (.chk ρ ν a) e k = if askedB ρ ν e = true then bindC R L a e k else none := by
  unfold bindC
  simp only [evalC]
  cases askedB ρ ν e <;> rfl
def seqK (R : RT) (L : BT → BT) (b : C) (k : Ex → Env → Option β) : Ex → Env → Option β
  | .normal, e => bindC R L b e k
  | .exit id, e => k (.exit id) e
  | .ret, e => k .ret e
theorem bindC_seq {a b : C} {e : Env} {k : Ex → Env → Option β} : bindC R L (.seq a b) e k = bindC R L a e (seqK R L b k) := by
  unfold bindC
  simp only [evalC]
  cases evalC R L a e with
  | none => rfl
  | some q =>
    obtain ⟨x, e1⟩ := q
    cases x <;> rfl
theorem seqK_normal {b : C} {k : Ex → Env → Option β} {e : Env} : seqK R L b k .normal e = bindC R L b e k := _root_.id rfl
theorem seqK_exit {b : C} {k : Ex → Env → Option β} {e : Env} {id : Nat} : seqK R L b k (.exit id) e = k (.exit id) e := _root_.id rfl
theorem seqK_ret {b : C} {k : Ex → Env → Option β} {e : Env} : seqK R L b k .ret e = k .ret e := _root_.id rfl
theorem bindC_cond {x : X} {a b : C} {e : Env} {k : Ex → Env → Option β} : bindC R L (.cond x a b) e k = onBool (e.get x) (fun v => if v = true then bindC R L a e k else bindC R L b e k) := by
  unfold bindC onBool
  simp only [evalC]
  cases e.get x <;> try rfl
  rename_i v
  cases v <;> rfl
def blkK (id : Nat) (k : Ex → Env → Option β) : Ex → Env → Option β
  | .exit id', e => if id' = id then k .normal e else k (.exit id') e
  | .normal, e => k .normal e
  | .ret, e => k .ret e
theorem bindC_blk {id : Nat} {a : C} {e : Env} {k : Ex → Env → Option β} : bindC R L (.blk id a) e k = bindC R L a e (blkK id k) := by
  unfold bindC
  simp only [evalC]
  cases evalC R L a e with
  | none => rfl
  | some q =>
    obtain ⟨x, e1⟩ := q
    cases x with
    | normal => rfl
    | ret => rfl
    | exit id' => by_cases hid : id' = id <;> simp [blkK, hid]
theorem blkK_normal {id : Nat} {k : Ex → Env → Option β} {e : Env} : blkK id k .normal e = k .normal e := _root_.id rfl
theorem blkK_ret {id : Nat} {k : Ex → Env → Option β} {e : Env} : blkK id k .ret e = k .ret e := _root_.id rfl
theorem blkK_exit {id id' : Nat} {k : Ex → Env → Option β} {e : Env} : blkK id k (.exit id') e = if id' = id then k .normal e else k (.exit id') e := _root_.id rfl

/-- A loop, from its head on. -/
noncomputable def headC (R : RT) (keep : List Nat) (a : C) (e : Env) (k : Ex → Env → Option β) : Option β := match evalC R LL a e with
  | some (.normal, e') => bindC R LL (.loop (.seq (.clr keep) a)) e' k
  | some (.exit id, e') => k (.exit id) e'
  | some (.ret, e') => k .ret e'
  | none => none

theorem bindC_loop {keep : List Nat} {a : C} {e : Env} {k : Ex → Env → Option β} : bindC R LL (.loop (.seq (.clr keep) a)) e k = headC R keep a (e.norm keep) k := by
  have h1 : evalC R LL (.loop (.seq (.clr keep) a)) e = match evalC R LL a (e.norm keep) with
      | some (.normal, e') => evalC R LL (.loop (.seq (.clr keep) a)) e'
      | r => r := by
    show LL (evalC R LL (.seq (.clr keep) a)) e = _
    rw [LL_eq]
    rfl
  unfold headC
  show (match evalC R LL (.loop (.seq (.clr keep) a)) e with
    | some (x, e') => k x e'
    | none => none) = _
  rw [h1]
  cases evalC R LL a (e.norm keep) with
  | none => rfl
  | some q =>
    obtain ⟨x, e1⟩ := q
    cases x <;> rfl

theorem congr_headC {keep : List Nat} {a : C} {e e' : Env} {k : Ex → Env → Option β} (h : e = e') : headC R keep a e k = headC R keep a e' k := by rw [h]
noncomputable def roundK (R : RT) (keep : List Nat) (a : C) (k : Ex → Env → Option β) : Ex → Env → Option β
  | .normal, e => bindC R LL (.loop (.seq (.clr keep) a)) e k
  | .exit id, e => k (.exit id) e
  | .ret, e => k .ret e
/-- A round. -/
theorem headC_eq {keep : List Nat} {a : C} {e : Env} {k : Ex → Env → Option β} : headC R keep a e k = bindC R LL a e (roundK R keep a k) := by
  unfold headC bindC
  cases evalC R LL a e with
  | none => rfl
  | some q =>
    obtain ⟨x, e1⟩ := q
    cases x <;> rfl
theorem roundK_normal {keep : List Nat} {a : C} {k : Ex → Env → Option β} {e : Env} : roundK R keep a k .normal e = headC R keep a (e.norm keep) k := bindC_loop
theorem roundK_exit {keep : List Nat} {a : C} {k : Ex → Env → Option β} {e : Env} {id : Nat} : roundK R keep a k (.exit id) e = k (.exit id) e := _root_.id rfl
theorem roundK_ret {keep : List Nat} {a : C} {k : Ex → Env → Option β} {e : Env} : roundK R keep a k .ret e = k .ret e := _root_.id rfl

def finK (rs : List RV) : Ex → Env → Option AV
  | .normal, e => results e rs
  | .ret, e => results e rs
  | .exit _, _ => none
theorem finK_normal {rs : List RV} {e : Env} : finK rs .normal e = results e rs := _root_.id rfl
theorem finK_ret {rs : List RV} {e : Env} : finK rs .ret e = results e rs := _root_.id rfl
theorem evalF_bind {F : F} {as : List AV} (h : as.length = F.np ∧ F.np ≤ F.nt) : evalF R L F as = bindC R L F.body (F.start as) (finK F.res) := by
  unfold evalF bindC
  rw [if_pos h]
  cases evalC R L F.body (F.start as) with
  | none => rfl
  | some q =>
    obtain ⟨x, e1⟩ := q
    cases x <;> rfl

theorem run_fn {T : Nat → Option F} {S : RT} {f : Nat} {F : F} {as : List AV} {r : AV} (hf : T f = some F) (hn : as.length = F.np ∧ F.np ≤ F.nt) (h : bindC (run T S) LL F.body (F.start as) (finK F.res) = some r) : run T S f as = some r :=
  run_eq hf (by rw [evalF_bind hn]; exact h)
end
end Go.Bv
