/- BY VALUE, part 17: rewriting rules for the operations that touch memory. -/
import Derived.Test.YtnfmilnlekmjgaaBvSim
set_option linter.unusedVariables false
set_option linter.unusedSimpArgs false
namespace Go.Bv

section
variable {β : Type} {R : RT} {L : BT → BT}
abbrev AR := Option (Res × List Nat)

theorem lqz {α : Type} {a : α} {l : List α} : (a :: l)[0]? = some a := _root_.id rfl
theorem lqs {α : Type} {a : α} {l : List α} {n : Nat} : (a :: l)[n + 1]? = l[n]? := _root_.id rfl
theorem lmz {α : Type} {a : α} {l : List α} {f : α → α} : (a :: l).modify 0 f = f a :: l := by simp
theorem lms {α : Type} {a : α} {l : List α} {n : Nat} {f : α → α} : (a :: l).modify (n + 1) f = a :: l.modify n f := by simp
theorem osz {a x : AObj} {l : List AObj} : (a :: l).set 0 x = x :: l := _root_.id rfl
theorem oss {a x : AObj} {l : List AObj} {n : Nat} : (a :: l).set (n + 1) x = a :: l.set n x := _root_.id rfl

/-! Behind references -/
def okO (o : Option AObj) (g : Nat) : Option OK := match o with
  | some o => if o.gen = g then some o.k else none
  | none => none
theorem ok_mk {ts : List AV} {os : List AObj} {d g : Nat} : Env.ok? ⟨ts, os⟩ d g = okO (os[d]?) g := by
  unfold Env.ok? okO; rfl
theorem okO_some {g' g : Nat} {k : OK} : okO (some ⟨g', k⟩) g = if g' = g then some k else none := _root_.id rfl
def genO (o : Option AObj) : Nat := match o with
  | some o => o.gen
  | none => 0
theorem gen_mk {ts : List AV} {os : List AObj} {d : Nat} : Env.gen ⟨ts, os⟩ d = genO (os[d]?) := by unfold Env.gen genO; rfl
theorem genO_some {g : Nat} {k : OK} : genO (some ⟨g, k⟩) = g := _root_.id rfl
theorem setObj_mk {ts : List AV} {os : List AObj} {d g : Nat} {k : OK} : Env.setObj ⟨ts, os⟩ d g k = ⟨ts, os.set d ⟨g, k⟩⟩ := _root_.id rfl
theorem put_some {ts : List AV} {os : List AObj} {d : Nat} {A : AV} : Env.put ⟨ts, os⟩ (some d) A = ⟨ts.set d A, os⟩ := _root_.id rfl
theorem put_none {e : Env} {A : AV} : Env.put e none A = e := _root_.id rfl
theorem frz_nil {e : Env} : e.freeze [] = e := _root_.id rfl
theorem frz_cons {ts : List AV} {os : List AObj} {d : Nat} {ks : List Nat} : Env.freeze ⟨ts, os⟩ (d :: ks) = Env.freeze ⟨ts, os.modify d AObj.freeze⟩ ks := _root_.id rfl
theorem frz_row {g E c f : Nat} {l : List (List AV)} : AObj.freeze ⟨g, .row E c f l⟩ = ⟨g, .row E c l.length l⟩ := _root_.id rfl
theorem objs_mk {ts : List AV} {os : List AObj} : Env.objs ⟨ts, os⟩ = os := _root_.id rfl
theorem ref_row {E c f d g : Nat} {l : List (List AV)} : OK.ref (.row E c f l) d g = .own d g := _root_.id rfl
theorem ref_box {d g : Nat} {l : List AV} : OK.ref (.box l) d g = .ptr d g 0 := _root_.id rfl

theorem kil_nil {e : Env} : e.kill [] = e := _root_.id rfl
theorem kil_cons {ts : List AV} {os : List AObj} {d : Nat} {ks : List Nat} : Env.kill ⟨ts, os⟩ (d :: ks) = Env.kill ⟨ts, os.modify d AObj.kill⟩ ks := _root_.id rfl
theorem kil_obj {g : Nat} {k : OK} : AObj.kill ⟨g, k⟩ = ⟨g + 1, .dead⟩ := _root_.id rfl

/-! Seen from outside -/
def v1O (o : Option OK) (d : Nat) : Option (AV × List Nat) := match o with
  | some (.row _ _ _ l) => some (.sl l, [d])
  | _ => none
theorem v1_own {e : Env} {d g : Nat} : e.view1 (.own d g) = v1O (e.ok? d g) d := by
  unfold v1O; simp only [Env.view1] <;> rfl
theorem v1O_row {E c f d : Nat} {l : List (List AV)} : v1O (some (.row E c f l)) d = some (.sl l, [d]) := _root_.id rfl
theorem v1_int {e : Env} {k : IntKind} {n : Int} : e.view1 (.int k n) = some (.int k n, []) := _root_.id rfl
theorem v1_bool {e : Env} {b : Bool} : e.view1 (.bool b) = some (.bool b, []) := _root_.id rfl
theorem v1_str {e : Env} {s : ByteArray} : e.view1 (.str s) = some (.str s, []) := _root_.id rfl
theorem v1_nil {e : Env} : e.view1 .nil = some (.nil, []) := _root_.id rfl
theorem v1_sl {e : Env} {l : List (List AV)} : e.view1 (.sl l) = some (.sl l, []) := _root_.id rfl
theorem vs_nil {e : Env} : e.views [] = some ([], []) := _root_.id rfl
def vsC (x : Option (AV × List Nat)) (y : Option (List AV × List Nat)) : Option (List AV × List Nat) := match x, y with
  | some (B, ks), some (l, ks') => some (B :: l, ks ++ ks')
  | _, _ => none
theorem vs_cons {e : Env} {A : AV} {l : List AV} : e.views (A :: l) = vsC (e.view1 A) (e.views l) := by
  simp only [Env.views, vsC]
  cases e.view1 A with
  | none => rfl
  | some q => cases e.views l <;> rfl
theorem vsC_some {B : AV} {ks ks' : List Nat} {l : List AV} : vsC (some (B, ks)) (some (l, ks')) = some (B :: l, ks ++ ks') := _root_.id rfl
theorem cells_agg {e : Env} {l : List AV} : e.cells (.agg l) = e.views l := _root_.id rfl
theorem cells_int {e : Env} {k : IntKind} {n : Int} : e.cells (.int k n) = some ([.int k n], []) := _root_.id rfl
theorem cells_bool' {e : Env} {b : Bool} : e.cells (.bool b) = some ([.bool b], []) := _root_.id rfl
theorem cells_str' {e : Env} {s : ByteArray} : e.cells (.str s) = some ([.str s], []) := _root_.id rfl
theorem cells_nil {e : Env} : e.cells .nil = some ([.nil], []) := _root_.id rfl
theorem cells_sl {e : Env} {l : List (List AV)} : e.cells (.sl l) = some ([.sl l], []) := _root_.id rfl
theorem cells_own {e : Env} {d g : Nat} : e.cells (.own d g) = vsC (e.view1 (.own d g)) (some ([], [])) := by
  show e.views [.own d g] = _
  rw [vs_cons]; rfl
def argG (x : Option (List AV × List Nat)) : Option (AV × List Nat) := match x with
  | some (l, ks) => some (.agg (l.map AV.norm), ks)
  | none => none
def arg1 (x : Option (AV × List Nat)) : Option (AV × List Nat) := match x with
  | some (B, ks) => some (B.norm, ks)
  | none => none
theorem arg_agg {e : Env} {l : List AV} : e.arg (.agg l) = argG (e.views l) := by simp only [Env.arg]; unfold argG; rfl
theorem argG_some {l : List AV} {ks : List Nat} : argG (some (l, ks)) = some (.agg (l.map AV.norm), ks) := _root_.id rfl
theorem arg_int {e : Env} {k : IntKind} {n : Int} : e.arg (.int k n) = some (.int k n, []) := _root_.id rfl
theorem arg_bool {e : Env} {b : Bool} : e.arg (.bool b) = some (.bool b, []) := _root_.id rfl
theorem arg_str {e : Env} {s : ByteArray} : e.arg (.str s) = some (.str s, []) := _root_.id rfl
theorem arg_nil {e : Env} : e.arg .nil = some (.sl [], []) := _root_.id rfl
theorem arg_sl {e : Env} {l : List (List AV)} : e.arg (.sl l) = some (.sl l, []) := _root_.id rfl
theorem arg_own {e : Env} {d g : Nat} : e.arg (.own d g) = arg1 (e.view1 (.own d g)) := _root_.id rfl
theorem arg1_sl {l : List (List AV)} {ks : List Nat} : arg1 (some (.sl l, ks)) = some (.sl l, ks) := _root_.id rfl
theorem norm_int {k : IntKind} {n : Int} : AV.norm (.int k n) = .int k n := _root_.id rfl
theorem norm_bool {b : Bool} : AV.norm (.bool b) = .bool b := _root_.id rfl
theorem norm_str {s : ByteArray} : AV.norm (.str s) = .str s := _root_.id rfl
theorem norm_nil : AV.norm .nil = .sl [] := _root_.id rfl
theorem norm_sl {l : List (List AV)} : AV.norm (.sl l) = .sl l := _root_.id rfl
theorem args_nil {e : Env} : e.args [] = some ([], []) := _root_.id rfl
theorem args_cons {e : Env} {x : X} {l : List X} : e.args (x :: l) = vsC (e.arg (e.get x)) (e.args l) := by
  simp only [Env.args, vsC]
  cases e.arg (e.get x) with
  | none => rfl
  | some q => cases e.args l <;> rfl
theorem elems_nil {e : Env} : e.elems .nil = some ([], []) := _root_.id rfl
theorem elems_sl {e : Env} {l : List (List AV)} : e.elems (.sl l) = some (l, []) := _root_.id rfl
def elO (o : Option OK) (d : Nat) : Option (List (List AV) × List Nat) := match o with
  | some (.row _ _ _ l) => some (l, [d])
  | _ => none
theorem elems_own {e : Env} {d g : Nat} : e.elems (.own d g) = elO (e.ok? d g) d := by unfold elO; simp only [Env.elems] <;> rfl
theorem elO_row {E c f d : Nat} {l : List (List AV)} : elO (some (.row E c f l)) d = some (l, [d]) := _root_.id rfl

/-! Operations -/
def cvsbA : AV → AR
  | .str s => if s.size ≤ 140737488355328 then some (.val (.sl (byteCells s)), []) else none
  | _ => none
theorem act_cvsb {e : Env} {x : X} : act R e (.cvsb x) = cvsbA (e.get x) := by
  simp only [act]; unfold cvsbA; cases e.get x <;> rfl
theorem cvsbA_str {s : ByteArray} : cvsbA (.str s) = if s.size ≤ 140737488355328 then some (.val (.sl (byteCells s)), []) else none := _root_.id rfl
def lenA : Option (List (List AV) × List Nat) → AR
  | some (l, _) => some (.val (.int .i64 l.length), [])
  | none => none
theorem act_len {e : Env} {x : X} : act R e (.len x) = lenA (e.elems (e.get x)) := by
  simp only [act]; unfold lenA; cases e.elems (e.get x) <;> rfl
theorem lenA_some {l : List (List AV)} {ks : List Nat} : lenA (some (l, ks)) = some (.val (.int .i64 l.length), []) := _root_.id rfl
def iaA (e : Env) (c : Nat) (x i : AV) : AR := match i with
  | .int _ n => match x with
    | .sl l => if 0 ≤ n ∧ n < l.length then
        (if (l.getD n.toNat []).length = c then some (.val (.el (l.getD n.toNat [])), []) else none)
      else none
    | .own d g => match e.ok? d g with
      | some (.row _ c' _ l) => if 0 ≤ n ∧ n < l.length ∧ c' = c then some (.val (.rp d g n.toNat 0), []) else none
      | _ => none
    | _ => none
  | _ => none
theorem act_ia {e : Env} {c : Nat} {x i : X} : act R e (.ia c x i) = iaA e c (e.get x) (e.get i) := by
  simp only [act, iaA] <;> rfl
theorem iaA_sl {e : Env} {c : Nat} {l : List (List AV)} {k : IntKind} {n : Int} : iaA e c (.sl l) (.int k n) = if 0 ≤ n ∧ n < l.length then
        (if (l.getD n.toNat []).length = c then some (.val (.el (l.getD n.toNat [])), []) else none)
      else none := _root_.id rfl
def iaO (c : Nat) (o : Option OK) (d g : Nat) (n : Int) : AR := match o with
  | some (.row _ c' _ l) => if 0 ≤ n ∧ n < l.length ∧ c' = c then some (.val (.rp d g n.toNat 0), []) else none
  | _ => none
theorem iaA_own {e : Env} {c d g : Nat} {k : IntKind} {n : Int} : iaA e c (.own d g) (.int k n) = iaO c (e.ok? d g) d g n := by
  simp only [iaA, iaO] <;> rfl
theorem iaO_row {E c' c f d g : Nat} {l : List (List AV)} {n : Int} : iaO c (some (.row E c' f l)) d g n = if 0 ≤ n ∧ n < l.length ∧ c' = c then some (.val (.rp d g n.toNat 0), []) else none := _root_.id rfl
/-- Loads. -/
def ld1 (e : Env) : AV → AR
  | .ptr d g off => match e.ok? d g with
    | some (.box l) => (l[off]?).map fun A => (.val A, [])
    | _ => none
  | .rp d g i j => match e.ok? d g with
    | some (.row _ _ _ l) => match (l.getD i [])[j]? with
      | some A => if A.pure = true then some (.val A, []) else none
      | none => none
    | _ => none
  | .el l => match l[0]? with
    | some A => if A.pure = true then some (.val A, []) else none
    | none => none
  | _ => none
theorem act_ld1 {e : Env} {p : X} : act R e (.ld none p) = ld1 e (e.get p) := by
  simp only [act, ld1] <;> rfl
def ldB (o : Option OK) (off : Nat) : AR := match o with
  | some (.box l) => (l[off]?).map fun A => (.val A, [])
  | _ => none
theorem ld1_ptr {e : Env} {d g off : Nat} : ld1 e (.ptr d g off) = ldB (e.ok? d g) off := by simp only [ld1, ldB] <;> rfl
def ldO (o : Option AV) : AR := match o with
  | some A => some (.val A, [])
  | none => none
theorem ldB_box {l : List AV} {off : Nat} : ldB (some (.box l)) off = ldO (l[off]?) := by
  simp only [ldB]; cases l[off]? <;> rfl
theorem ldO_some {A : AV} : ldO (some A) = some (.val A, []) := _root_.id rfl
def ldP (o : Option AV) : AR := match o with
  | some A => if A.pure = true then some (.val A, []) else none
  | none => none
theorem ld1_el {e : Env} {l : List AV} : ld1 e (.el l) = ldP (l[0]?) := by simp only [ld1, ldP] <;> rfl
def ldR (o : Option OK) (i j : Nat) : AR := match o with
  | some (.row _ _ _ l) => ldP ((l.getD i [])[j]?)
  | _ => none
theorem ld1_rp {e : Env} {d g i j : Nat} : ld1 e (.rp d g i j) = ldR (e.ok? d g) i j := by simp only [ld1, ldR, ldP] <;> rfl
theorem ldR_row {E c f i j : Nat} {l : List (List AV)} : ldR (some (.row E c f l)) i j = ldP ((l.getD i [])[j]?) := _root_.id rfl
theorem ldP_int {k : IntKind} {n : Int} : ldP (some (.int k n)) = some (.val (.int k n), []) := _root_.id rfl
theorem ldP_bool {b : Bool} : ldP (some (.bool b)) = some (.val (.bool b), []) := _root_.id rfl
theorem ldP_str {s : ByteArray} : ldP (some (.str s)) = some (.val (.str s), []) := _root_.id rfl
theorem ldP_nil : ldP (some .nil) = some (.val .nil, []) := _root_.id rfl
theorem ldP_sl {l : List (List AV)} : ldP (some (.sl l)) = some (.val (.sl l), []) := _root_.id rfl
def ldn (e : Env) (n : Nat) : AV → AR
  | .ptr d g off => match e.ok? d g with
      | some (.box l) => if off + n ≤ l.length then
          match e.views ((l.drop off).take n) with
          | some (m, ks) => some (.val (.agg m), ks)
          | none => none
        else none
      | _ => none
  | .rp d g i j => match e.ok? d g with
      | some (.row _ _ _ l) => if j + n ≤ (l.getD i []).length ∧ (((l.getD i []).drop j).take n).all AV.pure = true then some (.val (.agg (((l.getD i []).drop j).take n)), []) else none
      | _ => none
  | .el l => if n ≤ l.length ∧ (l.take n).all AV.pure = true then some (.val (.agg (l.take n)), []) else none
  | _ => none
theorem act_ldn {e : Env} {n : Nat} {p : X} : act R e (.ld (some n) p) = ldn e n (e.get p) := by
  simp only [act, ldn] <;> rfl
def ldV (x : Option (List AV × List Nat)) : AR := match x with
  | some (m, ks) => some (.val (.agg m), ks)
  | none => none
theorem ldV_some {m : List AV} {ks : List Nat} : ldV (some (m, ks)) = some (.val (.agg m), ks) := _root_.id rfl
def ldnB (e : Env) (n : Nat) (o : Option OK) (off : Nat) : AR := match o with
  | some (.box l) => if off + n ≤ l.length then ldV (e.views ((l.drop off).take n)) else none
  | _ => none
theorem ldn_ptr {e : Env} {n d g off : Nat} : ldn e n (.ptr d g off) = ldnB e n (e.ok? d g) off := by simp only [ldn, ldnB, ldV] <;> rfl
theorem ldnB_box {e : Env} {n off : Nat} {l : List AV} : ldnB e n (some (.box l)) off = if off + n ≤ l.length then ldV (e.views ((l.drop off).take n)) else none := _root_.id rfl
theorem ldn_el {e : Env} {n : Nat} {l : List AV} : ldn e n (.el l) = if n ≤ l.length ∧ (l.take n).all AV.pure = true then some (.val (.agg (l.take n)), []) else none := _root_.id rfl
/-- Places in a struct. -/
def faA (e : Env) (off n : Nat) : AV → AR
  | .ptr d g o => match e.ok? d g with
      | some (.box _) => some (.val (.ptr d g (o + off)), [])
      | _ => none
  | .rp d g i j => match e.ok? d g with
      | some (.row ..) => some (.val (.rp d g i (j + off)), [])
      | _ => none
  | .el l => some (.val (.el ((l.drop off).take n)), [])
  | _ => none
theorem act_fa {e : Env} {off n : Nat} {p : X} : act R e (.fa off n p) = faA e off n (e.get p) := by simp only [act, faA] <;> rfl
def faB (o : Option OK) (d g off : Nat) : AR := match o with
  | some (.box _) => some (.val (.ptr d g off), [])
  | _ => none
theorem faA_ptr {e : Env} {off n d g o : Nat} : faA e off n (.ptr d g o) = faB (e.ok? d g) d g (o + off) := by simp only [faA, faB] <;> rfl
theorem faB_box {l : List AV} {d g off : Nat} : faB (some (.box l)) d g off = some (.val (.ptr d g off), []) := _root_.id rfl
theorem faA_el {e : Env} {off n : Nat} {l : List AV} : faA e off n (.el l) = some (.val (.el ((l.drop off).take n)), []) := _root_.id rfl
def extA (A : AV) (i : Nat) : AR := match A with
  | .tup l => match l[i]? with
    | some A => if A.flat = true then some (.val A, []) else none
    | none => none
  | _ => none
theorem act_ext {e : Env} {x : X} {i : Nat} : act R e (.ext x i) = extA (e.get x) i := by simp only [act, extA] <;> rfl
def extO (o : Option AV) : AR := match o with
  | some A => if A.flat = true then some (.val A, []) else none
  | none => none
theorem extA_tup {l : List AV} {i : Nat} : extA (.tup l) i = extO (l[i]?) := by simp only [extA, extO] <;> rfl
theorem extO_int {k : IntKind} {n : Int} : extO (some (.int k n)) = some (.val (.int k n), []) := _root_.id rfl
theorem extO_bool {b : Bool} : extO (some (.bool b)) = some (.val (.bool b), []) := _root_.id rfl
theorem extO_str {s : ByteArray} : extO (some (.str s)) = some (.val (.str s), []) := _root_.id rfl
theorem extO_sl {l : List (List AV)} : extO (some (.sl l)) = some (.val (.sl l), []) := _root_.id rfl
theorem extO_agg {l : List AV} : extO (some (.agg l)) = if l.all AV.pure = true then some (.val (.agg l), []) else none := _root_.id rfl
/-- Calls. -/
def callR (r : Option AV) (ks : List Nat) : AR := match r with
  | some (.fr E c l) => some (.mk (.row E c 0 l) none, ks)
  | some (.fr1 j E c m l) => if j < l.length ∧ l.all AV.pure = true then some (.mk (.row E c 0 m) (some (j, l)), ks) else none
  | some A => if A.noRef = true then some (.val A, ks) else none
  | none => none
def callA (R : RT) (f : Nat) (x : Option (List AV × List Nat)) : AR := match x with
  | some (as, ks) => callR (R f as) ks
  | none => none
theorem act_call {e : Env} {f : Nat} {xs : List X} : act R e (.call f xs) = callA R f (e.args xs) := by
  simp only [act, callA]
  cases e.args xs with
  | none => rfl
  | some q =>
    obtain ⟨as, ks⟩ := q
    simp only [callR]
    cases R f as with
    | none => rfl
    | some A => cases A <;> rfl
theorem callA_some {f : Nat} {as : List AV} {ks : List Nat} : callA R f (some (as, ks)) = callR (R f as) ks := _root_.id rfl
theorem callR_fr {E c : Nat} {l : List (List AV)} {ks : List Nat} : callR (some (.fr E c l)) ks = some (.mk (.row E c 0 l) none, ks) := _root_.id rfl
theorem callR_int {k : IntKind} {n : Int} {ks : List Nat} : callR (some (.int k n)) ks = some (.val (.int k n), ks) := _root_.id rfl
theorem callR_bool {b : Bool} {ks : List Nat} : callR (some (.bool b)) ks = some (.val (.bool b), ks) := _root_.id rfl
theorem callR_str {s : ByteArray} {ks : List Nat} : callR (some (.str s)) ks = some (.val (.str s), ks) := _root_.id rfl
theorem callR_sl {l : List (List AV)} {ks : List Nat} : callR (some (.sl l)) ks = some (.val (.sl l), ks) := _root_.id rfl
theorem callR_agg {l : List AV} {ks : List Nat} : callR (some (.agg l)) ks = if l.all AV.pure = true then some (.val (.agg l), ks) else none := _root_.id rfl
theorem callR_tup {l : List AV} {ks : List Nat} : callR (some (.tup l)) ks = if l.all AV.flat = true then some (.val (.tup l), ks) else none := _root_.id rfl
/-- New variables and rows. -/
def boxA (x : Option (List AV × List Nat)) : AR := match x with
  | some (l, ks) => some (.mk (.box l) none, ks)
  | none => none
theorem act_box {e : Env} {T : Nat} {x : X} : act R e (.box T x) = boxA (e.cells (e.get x)) := by
  simp only [act]; unfold boxA; cases e.cells (e.get x) <;> rfl
theorem boxA_some {l : List AV} {ks : List Nat} : boxA (some (l, ks)) = some (.mk (.box l) none, ks) := _root_.id rfl
theorem act_new {e : Env} {T : Nat} {z : List AV} : act R e (.new T z) = some (.mk (.box z) none, []) := _root_.id rfl
def cpyA (E c by_ : Nat) (x : Option (List (List AV) × List Nat)) : AR := match x with
  | some (m, ks) => if m.length * by_ ≤ 140737488355328 ∧ m.all (fun y => y.length == c) = true then some (.mk (.row E c 0 m) none, ks) else none
  | none => none
theorem act_cpy {e : Env} {E c by_ : Nat} {x : X} : act R e (.cpy E c by_ x) = cpyA E c by_ (e.elems (e.get x)) := by
  simp only [act, cpyA] <;> rfl
theorem cpyA_some {E c by_ : Nat} {m : List (List AV)} {ks : List Nat} : cpyA E c by_ (some (m, ks)) = if m.length * by_ ≤ 140737488355328 ∧ m.all (fun y => y.length == c) = true then some (.mk (.row E c 0 m) none, ks) else none := _root_.id rfl
/-- Values made of others. -/
def bldA (x : Option (List AV × List Nat)) : AR := match x with
  | some (l, ks) => some (.val (.agg l), ks)
  | none => none
theorem act_bld {e : Env} {z : List AV} {ps : List (Nat × Nat × X)} : act R e (.bld z ps) = bldA (fill e z ps) := by
  simp only [act]; unfold bldA; cases fill e z ps <;> rfl
theorem bldA_some {l : List AV} {ks : List Nat} : bldA (some (l, ks)) = some (.val (.agg l), ks) := _root_.id rfl
theorem fill_nil {e : Env} {z : List AV} : fill e z [] = some (z, []) := _root_.id rfl
def fillC (e : Env) (z : List AV) (off n : Nat) (x : Option (List AV × List Nat)) (ps : List (Nat × Nat × X)) : Option (List AV × List Nat) := match x with
  | some (l, ks) => if l.length = n ∧ off + n ≤ z.length then (match fill e (splice z off l) ps with
      | some (z', ks') => some (z', ks ++ ks')
      | none => none) else none
  | none => none
theorem fill_cons {e : Env} {z : List AV} {off n : Nat} {x : X} {ps : List (Nat × Nat × X)} : fill e z ((off, n, x) :: ps) = fillC e z off n (e.cells (e.get x)) ps := by
  simp only [fill, fillC]
  cases e.cells (e.get x) with
  | none => rfl
  | some q =>
    obtain ⟨l, ks⟩ := q
    simp only
    split
    · cases fill e (splice z off l) ps <;> rfl
    · rfl
def ksA (ks : List Nat) (x : Option (List AV × List Nat)) : Option (List AV × List Nat) := match x with
  | some (z', ks') => some (z', ks ++ ks')
  | none => none
theorem fillC_some {e : Env} {z l : List AV} {off n : Nat} {ks : List Nat} {ps : List (Nat × Nat × X)} : fillC e z off n (some (l, ks)) ps = if l.length = n ∧ off + n ≤ z.length then ksA ks (fill e (splice z off l) ps) else none := by
  simp only [fillC]
  split
  · cases fill e (splice z off l) ps <;> rfl
  · rfl
theorem ksA_some {ks ks' : List Nat} {z : List AV} : ksA ks (some (z, ks')) = some (z, ks ++ ks') := _root_.id rfl
def litA (x : Option (List (List AV) × List Nat)) : AR := match x with
  | some (l, ks) => some (.val (.sl l), ks)
  | none => none
theorem act_lit {e : Env} {E c : Nat} {xs : List X} : act R e (.lit E c xs) = litA (lits e c xs) := by
  simp only [act]; unfold litA; cases lits e c xs <;> rfl
theorem litA_some {l : List (List AV)} {ks : List Nat} : litA (some (l, ks)) = some (.val (.sl l), ks) := _root_.id rfl
theorem lits_nil {e : Env} {c : Nat} : lits e c [] = some ([], []) := _root_.id rfl
def litsC (c : Nat) (x : Option (List AV × List Nat)) (y : Option (List (List AV) × List Nat)) : Option (List (List AV) × List Nat) := match x, y with
  | some (l, ks), some (m, ks') => if l.length = c then some (l :: m, ks ++ ks') else none
  | _, _ => none
theorem lits_cons {e : Env} {c : Nat} {x : X} {xs : List X} : lits e c (x :: xs) = litsC c (e.cells (e.get x)) (lits e c xs) := by
  simp only [lits, litsC]
  cases e.cells (e.get x) with
  | none => rfl
  | some q =>
    obtain ⟨l, ks⟩ := q
    simp only
    cases lits e c xs with
    | none => split <;> rfl
    | some r => rfl
theorem litsC_some {c : Nat} {l : List AV} {m : List (List AV)} {ks ks' : List Nat} : litsC c (some (l, ks)) (some (m, ks')) = if l.length = c then some (l :: m, ks ++ ks') else none := _root_.id rfl
/-- Writing. -/
theorem ev_st {e : Env} {d : Option Nat} {n : Nat} {p x : X} : evalO R e d (.st n p x) = storeA e n (e.get p) (e.get x) := _root_.id rfl
def stB (e : Env) (n : Nat) (o : Option OK) (d g off : Nat) (m : List AV) : Option Env := match o with
  | some (.box l) => if m.length = n ∧ off + n ≤ l.length ∧ m.all e.cellOk = true then some (e.setObj d g (.box (splice l off m))) else none
  | _ => none
theorem st_ptr {e : Env} {n d g off : Nat} {x : AV} : storeA e n (.ptr d g off) x = stB e n (e.ok? d g) d g off (partsA x) := by simp only [storeA, stB] <;> rfl
theorem stB_box {e : Env} {n d g off : Nat} {l m : List AV} : stB e n (some (.box l)) d g off m = if m.length = n ∧ off + n ≤ l.length ∧ m.all e.cellOk = true then some (e.setObj d g (.box (splice l off m))) else none := _root_.id rfl
theorem parts_agg {l : List AV} : partsA (.agg l) = l := _root_.id rfl
theorem parts_int {k : IntKind} {n : Int} : partsA (.int k n) = [.int k n] := _root_.id rfl
theorem parts_bool {b : Bool} : partsA (.bool b) = [.bool b] := _root_.id rfl
theorem parts_str {s : ByteArray} : partsA (.str s) = [.str s] := _root_.id rfl
theorem parts_nil : partsA .nil = [.nil] := _root_.id rfl
theorem parts_sl {l : List (List AV)} : partsA (.sl l) = [.sl l] := _root_.id rfl
theorem parts_own {d g : Nat} : partsA (.own d g) = [.own d g] := _root_.id rfl
theorem ok_int {e : Env} {k : IntKind} {n : Int} : e.cellOk (.int k n) = true := _root_.id rfl
theorem ok_bool {e : Env} {b : Bool} : e.cellOk (.bool b) = true := _root_.id rfl
theorem ok_str {e : Env} {s : ByteArray} : e.cellOk (.str s) = true := _root_.id rfl
theorem ok_nil {e : Env} : e.cellOk .nil = true := _root_.id rfl
theorem ok_sl {e : Env} {l : List (List AV)} : e.cellOk (.sl l) = true := _root_.id rfl
def okR (o : Option OK) : Bool := match o with
  | some (.row ..) => true
  | _ => false
theorem ok_own {e : Env} {d g : Nat} : e.cellOk (.own d g) = okR (e.ok? d g) := by simp only [Env.cellOk, okR] <;> rfl
theorem okR_row {E c f : Nat} {l : List (List AV)} : okR (some (.row E c f l)) = true := _root_.id rfl
theorem pure_int {k : IntKind} {n : Int} : AV.pure (.int k n) = true := _root_.id rfl
theorem pure_bool {b : Bool} : AV.pure (.bool b) = true := _root_.id rfl
theorem pure_str {s : ByteArray} : AV.pure (.str s) = true := _root_.id rfl
theorem pure_nil : AV.pure .nil = true := _root_.id rfl
theorem pure_sl {l : List (List AV)} : AV.pure (.sl l) = true := _root_.id rfl
theorem flat_int {k : IntKind} {n : Int} : AV.flat (.int k n) = true := _root_.id rfl
theorem flat_bool {b : Bool} : AV.flat (.bool b) = true := _root_.id rfl
theorem flat_str {s : ByteArray} : AV.flat (.str s) = true := _root_.id rfl
theorem flat_nil : AV.flat .nil = true := _root_.id rfl
theorem flat_sl {l : List (List AV)} : AV.flat (.sl l) = true := _root_.id rfl
theorem flat_agg {l : List AV} : AV.flat (.agg l) = l.all AV.pure := _root_.id rfl
theorem ev_app {e : Env} {d : Option Nat} {E c by_ : Nat} {s x : X} : evalO R e d (.app E c by_ s x) = appendA e d E c by_ (e.get s) (e.elems (e.get x)) := _root_.id rfl
theorem app_nil {e : Env} {d E c by_ : Nat} {m : List (List AV)} {ks : List Nat} : appendA e (some d) E c by_ .nil (some (m, ks)) = if m.length * by_ ≤ 140737488355328 ∧ m.all (fun y => y.length == c) ∧ d < e.objs.length then
          some (((e.freeze ks).setObj d (e.gen d + 1) (.row E c 0 m)).put (some d) (.own d (e.gen d + 1))) else none := _root_.id rfl
def appO (e : Env) (dst : Option Nat) (E c by_ : Nat) (o : Option OK) (d g : Nat) (m : List (List AV)) (ks : List Nat) : Option Env := match o with
  | some (.row E' c' f l) => if E' = E ∧ c' = c ∧ (l.length + m.length) * by_ ≤ 140737488355328 ∧ m.all (fun y => y.length == c) then
          some (((e.freeze ks).setObj d (g + 1) (.row E c f (l ++ m))).put dst (.own d (g + 1))) else none
  | _ => none
theorem app_own {e : Env} {dst : Option Nat} {E c by_ d g : Nat} {m : List (List AV)} {ks : List Nat} : appendA e dst E c by_ (.own d g) (some (m, ks)) = appO e dst E c by_ ((e.freeze ks).ok? d g) d g m ks := by simp only [appendA, appO] <;> rfl
theorem appO_row {e : Env} {dst : Option Nat} {E c by_ E' c' f d g : Nat} {l m : List (List AV)} {ks : List Nat} : appO e dst E c by_ (some (.row E' c' f l)) d g m ks = if E' = E ∧ c' = c ∧ (l.length + m.length) * by_ ≤ 140737488355328 ∧ m.all (fun y => y.length == c) then
          some (((e.freeze ks).setObj d (g + 1) (.row E c f (l ++ m))).put dst (.own d (g + 1))) else none := _root_.id rfl

/-! More operations -/
def cviA (k : IntKind) : AV → AR
  | .int _ n => some (.val (.int k (k.wrap n)), [])
  | _ => none
theorem act_cvi {e : Env} {k : IntKind} {x : X} : act R e (.cvi k x) = cviA k (e.get x) := by
  simp only [act]; unfold cviA; cases e.get x <;> rfl
theorem cviA_int {k k' : IntKind} {n : Int} : cviA k (.int k' n) = some (.val (.int k (k.wrap n)), []) := _root_.id rfl
def cvsA : AV → AR
  | .str s => some (.val (.str s), [])
  | _ => none
theorem act_cvs {e : Env} {x : X} : act R e (.cvs x) = cvsA (e.get x) := by
  simp only [act]; unfold cvsA; cases e.get x <;> rfl
theorem cvsA_str {s : ByteArray} : cvsA (.str s) = some (.val (.str s), []) := _root_.id rfl
def cvbsA (x : Option (List (List AV) × List Nat)) : AR := match x with
  | some (l, _) => match bytesOf? l with
    | some bs => some (.val (.str ⟨bs.toArray⟩), [])
    | none => none
  | none => none
theorem act_cvbs {e : Env} {x : X} : act R e (.cvbs x) = cvbsA (e.elems (e.get x)) := by
  simp only [act]; unfold cvbsA; cases e.elems (e.get x) <;> rfl
def strO (x : Option (List UInt8)) : AR := match x with
  | some bs => some (.val (.str ⟨bs.toArray⟩), [])
  | none => none
theorem cvbsA_some {l : List (List AV)} {ks : List Nat} : cvbsA (some (l, ks)) = strO (bytesOf? l) := by
  simp only [cvbsA]; unfold strO; cases bytesOf? l <;> rfl
theorem strO_some {l : List UInt8} : strO (some l) = some (.val (.str ⟨l.toArray⟩), []) := _root_.id rfl
def beqA (ne : Bool) (x y : AV) : AR := match x, y with
  | .bool a, .bool b => some (.val (.bool (if ne then !(a == b) else a == b)), [])
  | _, _ => none
theorem act_beq {e : Env} {ne : Bool} {x y : X} : act R e (.beq ne x y) = beqA ne (e.get x) (e.get y) := by
  simp only [act]; unfold beqA; cases e.get x <;> cases e.get y <;> rfl
theorem beqA_f {a b : Bool} : beqA false (.bool a) (.bool b) = some (.val (.bool (a == b)), []) := _root_.id rfl
theorem beqA_t {a b : Bool} : beqA true (.bool a) (.bool b) = some (.val (.bool (!(a == b))), []) := _root_.id rfl
def eqsR (ne : Bool) (r : Option Bool) : AR := match r with
  | some r => some (.val (.bool (if ne then !r else r)), [])
  | none => none
def eqsA (ne : Bool) (ks : List CK) (x y : AV) : AR := match x, y with
  | .agg l, .agg m => eqsR ne (sameCells ks l m)
  | _, _ => none
theorem act_eqs {e : Env} {ne : Bool} {ks : List CK} {x y : X} : act R e (.eqs ne ks x y) = eqsA ne ks (e.get x) (e.get y) := by
  simp only [act]; unfold eqsA
  cases e.get x <;> cases e.get y <;> try rfl
theorem eqsA_agg {ne : Bool} {ks : List CK} {l m : List AV} : eqsA ne ks (.agg l) (.agg m) = eqsR ne (sameCells ks l m) := _root_.id rfl
theorem eqsR_f {r : Bool} : eqsR false (some r) = some (.val (.bool r), []) := _root_.id rfl
theorem eqsR_t {r : Bool} : eqsR true (some r) = some (.val (.bool (!r)), []) := _root_.id rfl
theorem same_nil : sameCells [] [] [] = some true := _root_.id rfl
def andB (b : Bool) (r : Option Bool) : Option Bool := match r with
  | some r => some (b && r)
  | none => none
theorem andB_some {b r : Bool} : andB b (some r) = some (b && r) := _root_.id rfl
theorem same_int {ks : List CK} {k : IntKind} {a b : Int} {l m : List AV} : sameCells (.int :: ks) (.int k a :: l) (.int k b :: m) = andB (a == b) (sameCells ks l m) := by
  simp only [sameCells, if_true]; cases sameCells ks l m <;> rfl
theorem same_bool {ks : List CK} {a b : Bool} {l m : List AV} : sameCells (.bool :: ks) (.bool a :: l) (.bool b :: m) = andB (a == b) (sameCells ks l m) := by
  simp only [sameCells]; cases sameCells ks l m <;> rfl
theorem same_str {ks : List CK} {a b : ByteArray} {l m : List AV} : sameCells (.str :: ks) (.str a :: l) (.str b :: m) = andB (a.toList == b.toList) (sameCells ks l m) := by
  simp only [sameCells]; cases sameCells ks l m <;> rfl
def ixA (x i : AV) : AR := match x, i with
  | .str s, .int _ n => if 0 ≤ n ∧ n < s.size then some (.val (.int .u8 (byteAt s n.toNat)), []) else none
  | _, _ => none
theorem act_ix {e : Env} {x i : X} : act R e (.ix x i) = ixA (e.get x) (e.get i) := by
  simp only [act]; unfold ixA; cases e.get x <;> cases e.get i <;> rfl
theorem ixA_str {s : ByteArray} {k : IntKind} {n : Int} : ixA (.str s) (.int k n) = if 0 ≤ n ∧ n < s.size then some (.val (.int .u8 (byteAt s n.toNat)), []) else none := _root_.id rfl
def subsA (x : AV) (lo hi : Option AV) : AR := match x with
  | .str s => match intArg 0 lo, intArg s.size hi with
    | some l, some h => if 0 ≤ l ∧ l ≤ h ∧ h ≤ s.size then some (.val (.str (s.extract l.toNat h.toNat)), []) else none
    | _, _ => none
  | _ => none
theorem act_subs {e : Env} {x : X} {lo hi : Option X} : act R e (.subs x lo hi) = subsA (e.get x) (lo.map e.get) (hi.map e.get) := by
  simp only [act]; unfold subsA; cases e.get x <;> rfl
def subsB (s : ByteArray) (l h : Option Int) : AR := match l, h with
  | some l, some h => if 0 ≤ l ∧ l ≤ h ∧ h ≤ s.size then some (.val (.str (s.extract l.toNat h.toNat)), []) else none
  | _, _ => none
theorem subsA_str {s : ByteArray} {lo hi : Option AV} : subsA (.str s) lo hi = subsB s (intArg 0 lo) (intArg s.size hi) := by
  simp only [subsA, subsB]
theorem subsB_some {s : ByteArray} {l h : Int} : subsB s (some l) (some h) = if 0 ≤ l ∧ l ≤ h ∧ h ≤ s.size then some (.val (.str (s.extract l.toNat h.toNat)), []) else none := _root_.id rfl
theorem ia_none {n : Nat} : intArg n none = some (n : Int) := _root_.id rfl
theorem ia_int {n : Nat} {k : IntKind} {i : Int} : intArg n (some (.int k i)) = some i := _root_.id rfl
theorem omap_none {e : Env} : (none : Option X).map e.get = none := _root_.id rfl
theorem omap_some {e : Env} {x : X} : (some x : Option X).map e.get = some (e.get x) := _root_.id rfl
def subA (c : Nat) (x : Option (List (List AV) × List Nat)) (lo hi : Option AV) : AR := match x with
  | some (m, ks) => match intArg 0 lo, intArg m.length hi with
    | some l, some h => if 0 ≤ l ∧ l ≤ h ∧ h ≤ m.length ∧ m.all (fun y => y.length == c) = true then some (.val (.sl ((m.take h.toNat).drop l.toNat)), ks) else none
    | _, _ => none
  | none => none
theorem act_sub {e : Env} {c : Nat} {x : X} {lo hi : Option X} : act R e (.sub c x lo hi) = subA c (e.elems (e.get x)) (lo.map e.get) (hi.map e.get) := by
  simp only [act]; unfold subA; cases e.elems (e.get x) <;> rfl
def subB (c : Nat) (m : List (List AV)) (ks : List Nat) (l h : Option Int) : AR := match l, h with
  | some l, some h => if 0 ≤ l ∧ l ≤ h ∧ h ≤ m.length ∧ m.all (fun y => y.length == c) = true then some (.val (.sl ((m.take h.toNat).drop l.toNat)), ks) else none
  | _, _ => none
theorem subA_some {c : Nat} {m : List (List AV)} {ks : List Nat} {lo hi : Option AV} : subA c (some (m, ks)) lo hi = subB c m ks (intArg 0 lo) (intArg m.length hi) := by
  simp only [subA, subB]
theorem subB_some {c : Nat} {m : List (List AV)} {ks : List Nat} {l h : Int} : subB c m ks (some l) (some h) = if 0 ≤ l ∧ l ≤ h ∧ h ≤ m.length ∧ m.all (fun y => y.length == c) = true then some (.val (.sl ((m.take h.toNat).drop l.toNat)), ks) else none := _root_.id rfl
def mkA (E c by_ : Nat) (z : List AV) : AV → AR
  | .int _ m => if 0 ≤ m ∧ m * by_ ≤ 140737488355328 ∧ m ≤ 9223372036854775807 then some (.mk (.row E c 0 (List.replicate m.toNat z)) none, []) else none
  | _ => none
theorem act_mk {e : Env} {E c by_ : Nat} {z : List AV} {n : X} : act R e (.mk E c by_ z n) = mkA E c by_ z (e.get n) := by
  simp only [act]; unfold mkA; cases e.get n <;> rfl
theorem mkA_int {E c by_ : Nat} {z : List AV} {k : IntKind} {m : Int} : mkA E c by_ z (.int k m) = if 0 ≤ m ∧ m * by_ ≤ 140737488355328 ∧ m ≤ 9223372036854775807 then some (.mk (.row E c 0 (List.replicate m.toNat z)) none, []) else none := _root_.id rfl
theorem act_mnx {e : Env} {mx : Bool} {x y : X} : act R e (.mnx mx x y) = valA (mnxA mx (e.get x) (e.get y)) := _root_.id rfl
theorem mnx_t {k : IntKind} {x y : Int} : mnxA true (.int k x) (.int k y) = some (.int k (if y > x then y else x)) := by simp [mnxA]
theorem mnx_f {k : IntKind} {x y : Int} : mnxA false (.int k x) (.int k y) = some (.int k (if y < x then y else x)) := by simp [mnxA]

/-! A loop's head -/
def normK (ts : List AV) (os : List AObj) (e : Env) (ks : List Nat) : Env := ⟨ts, keepO e (ks ++ ks.flatMap fun d => (e.kind d).keys) 0 os⟩
theorem norm_mk {ts : List AV} {os : List AObj} {keep : List Nat} : Env.norm ⟨ts, os⟩ keep = normK (keepT ⟨ts, os⟩ keep 0 ts) os ⟨ts, os⟩ ((keepT ⟨ts, os⟩ keep 0 ts).flatMap AV.key) := _root_.id rfl
theorem keepT_nil {e : Env} {keep : List Nat} {i : Nat} : keepT e keep i [] = [] := _root_.id rfl
theorem keepT_cons {e : Env} {keep : List Nat} {i : Nat} {A : AV} {l : List AV} : keepT e keep i (A :: l) = (if keep.contains i = true then e.ren A else .unk) :: keepT e keep (i + 1) l := _root_.id rfl
theorem keepO_nil {e : Env} {ks : List Nat} {i : Nat} : keepO e ks i [] = [] := _root_.id rfl
theorem keepO_cons {e : Env} {ks : List Nat} {i g : Nat} {k : OK} {l : List AObj} : keepO e ks i (⟨g, k⟩ :: l) = (if ks.contains i = true then ⟨0, k.ren e⟩ else ⟨0, .dead⟩) :: keepO e ks (i + 1) l := _root_.id rfl
theorem ren_unk {e : Env} : e.ren .unk = .unk := _root_.id rfl
theorem ren_und {e : Env} : e.ren .und = .und := _root_.id rfl
theorem ren_ite {e : Env} {c : Prop} [Decidable c] {A B : AV} : e.ren (if c then A else B) = if c then e.ren A else e.ren B := by split <;> rfl
theorem ren_int {e : Env} {k : IntKind} {n : Int} : e.ren (.int k n) = .int k n := _root_.id rfl
theorem ren_bool {e : Env} {b : Bool} : e.ren (.bool b) = .bool b := _root_.id rfl
theorem ren_str {e : Env} {s : ByteArray} : e.ren (.str s) = .str s := _root_.id rfl
theorem ren_nil {e : Env} : e.ren .nil = .nil := _root_.id rfl
theorem ren_sl {e : Env} {l : List (List AV)} : e.ren (.sl l) = .sl l := _root_.id rfl
theorem ren_agg {e : Env} {l : List AV} : e.ren (.agg l) = .agg l := _root_.id rfl
theorem ren_tup {e : Env} {l : List AV} : e.ren (.tup l) = .tup l := _root_.id rfl
theorem ren_own {e : Env} {d g : Nat} : e.ren (.own d g) = if e.gen d = g then .own d 0 else .unk := _root_.id rfl
theorem ren_ptr {e : Env} {d g o : Nat} : e.ren (.ptr d g o) = if e.gen d = g then .ptr d 0 o else .unk := _root_.id rfl
theorem ren_box {e : Env} {l : List AV} : OK.ren e (.box l) = .box (l.map e.ren) := _root_.id rfl
theorem ren_row {e : Env} {E c f : Nat} {l : List (List AV)} : OK.ren e (.row E c f l) = .row E c f l := _root_.id rfl
theorem ren_dead {e : Env} : OK.ren e .dead = .dead := _root_.id rfl

/-- A loop, by a measure. -/
theorem headC_ind {σ : Type} {keep : List Nat} {a : C} {k : Ex → Env → Option β} (E : σ → Env) (r : σ → Option β) (μ : σ → Nat) (P : σ → Prop)
    (hstep : ∀ x, P x → (∀ y, P y → μ y < μ x → headC R keep a (E y) k = r y) → bindC R LL a (E x) (roundK R keep a k) = r x) (x : σ) (hx : P x) : headC R keep a (E x) k = r x := by
  have : ∀ n x, P x → μ x = n → headC R keep a (E x) k = r x := by
    intro n
    induction n using Nat.strongRecOn with
    | _ n ih =>
      intro x hx hn
      rw [headC_eq]
      exact hstep x hx (fun y hy hlt => ih (μ y) (by omega) y hy rfl)
  exact this _ x hx rfl
theorem byteCells_get (s : ByteArray) (i : Nat) (h : i < s.size) : (byteCells s).getD i [] = [.int .u8 ((s.data.toList.getD i 0).toNat : Int)] := by
  have : i < s.data.toList.length := by rw [Array.length_toList]; exact h
  unfold byteCells
  simp only [List.getD_eq_getElem?_getD, List.getElem?_map, List.getElem?_eq_getElem this, Option.map_some, Option.getD_some]
theorem wrap_i64 {n : Int} (h1 : -9223372036854775808 ≤ n) (h2 : n ≤ 9223372036854775807) : IntKind.wrap .i64 n = n := by
  unfold IntKind.wrap
  simp [IntKind.bits, IntKind.signed]
  omega

end
end Go.Bv

/- BY VALUE, part 18: a few more rewriting rules. -/
namespace Go.Bv
theorem bin_shl8 {a : Int} : binA .shl (.int .i64 a) (.int .u64 8) = some (.int .i64 (IntKind.wrap .i64 (a * 256))) := _root_.id rfl
theorem bin_shr4 {a : Int} : binA .shr (.int .u8 a) (.int .u64 4) = some (.int .u8 (a.fdiv 16)) := _root_.id rfl
theorem toNat0 : Int.toNat 0 = 0 := _root_.id rfl
theorem toNat1 : Int.toNat 1 = 1 := _root_.id rfl
theorem toNatC {n : Nat} : Int.toNat (n : Int) = n := Int.toNat_natCast n
theorem leR {a : Int} : (a ≤ a) = True := by simp
theorem zeroLe {n : Nat} : ((0 : Int) ≤ (n : Int)) = True := by simp
theorem nat0 : ((0 : Nat) : Int) = 0 := _root_.id rfl
def lkpA : AV → AV → AR
  | .mp l, .str s => some (.val (.bool (mapHas l s)), [])
  | _, _ => none
theorem act_lkp {R : RT} {e : Env} {x k : X} : act R e (.lkp x k) = lkpA (e.get x) (e.get k) := by
  simp only [act]; unfold lkpA; rfl
theorem lkpA_mp {l : List (List AV)} {s : ByteArray} : lkpA (.mp l) (.str s) = some (.val (.bool (mapHas l s)), []) := _root_.id rfl

/-! Asked ahead of a region -/
def askR (ts : List AV) : List (Nat × Nat) → Bool
  | [] => true
  | p :: l => rootIs p.2 (ts.getD p.1 .unk) && askR ts l
def askN (ts : List AV) : List Nat → Bool
  | [] => true
  | t :: l => (ts.getD t .unk).flat && askN ts l
theorem ask_mk {ts : List AV} {os : List AObj} {ρ : List (Nat × Nat)} {ν : List Nat} : askedB ρ ν ⟨ts, os⟩ = (askR ts ρ && askN ts ν) := by
  unfold askedB
  congr 1
  · induction ρ with
    | nil => rfl
    | cons p l ih => simp only [List.all_cons, askR, ih]
  · induction ν with
    | nil => rfl
    | cons p l ih => simp only [List.all_cons, askN, ih]
theorem askR_nil {ts : List AV} : askR ts [] = true := _root_.id rfl
theorem askR_cons {ts : List AV} {s d : Nat} {l : List (Nat × Nat)} : askR ts ((s, d) :: l) = (rootIs d (ts.getD s .unk) && askR ts l) := _root_.id rfl
theorem askN_nil {ts : List AV} : askN ts [] = true := _root_.id rfl
theorem askN_cons {ts : List AV} {s : Nat} {l : List Nat} : askN ts (s :: l) = ((ts.getD s .unk).flat && askN ts l) := _root_.id rfl
theorem root_self {d g o : Nat} : rootIs d (.ptr d g o) = true := by simp [rootIs]
theorem root_unk {d : Nat} : rootIs d .unk = true := _root_.id rfl
theorem root_und {d : Nat} : rootIs d .und = true := _root_.id rfl
theorem root_el {d : Nat} {l : List AV} : rootIs d (.el l) = true := _root_.id rfl
theorem root_rp {d g i j : Nat} : rootIs 1000000 (.rp d g i j) = true := _root_.id rfl
theorem root_int {d : Nat} {k : IntKind} {n : Int} : rootIs d (.int k n) = true := _root_.id rfl
theorem root_sl {d : Nat} {l : List (List AV)} : rootIs d (.sl l) = true := _root_.id rfl
theorem flat_unk : AV.flat .unk = true := _root_.id rfl
theorem flat_und : AV.flat .und = true := _root_.id rfl
theorem flat_el {l : List AV} : AV.flat (.el l) = true := _root_.id rfl
/-! Function values -/
def cloA (f : Nat) (x : Option (List AV × List Nat)) : AR := match x with
  | some (as, ks) => some (.val (.fn f as), ks)
  | none => none
def calldA (R : RT) (x : AV) (y : Option (List AV × List Nat)) : AR := match x with
  | .fn f l => match y with
    | some (as, ks) => callR (R f (as ++ l)) ks
    | none => none
  | _ => none
theorem act_clo {R : RT} {e : Env} {f : Nat} {xs : List X} : act R e (.clo f xs) = cloA f (e.args xs) := by
  simp only [act]; unfold cloA; rfl
theorem act_calld {R : RT} {e : Env} {x : X} {xs : List X} : act R e (.calld x xs) = calldA R (e.get x) (e.args xs) := by
  rw [calld_eq]
  unfold calldA
  cases e.get x <;> try rfl
theorem cloA_some {f : Nat} {as : List AV} {ks : List Nat} : cloA f (some (as, ks)) = some (.val (.fn f as), ks) := _root_.id rfl
theorem calldA_fn {R : RT} {f : Nat} {l as : List AV} {ks : List Nat} : calldA R (.fn f l) (some (as, ks)) = callR (R f (as ++ l)) ks := _root_.id rfl
theorem v1_fn {e : Env} {f : Nat} {l : List AV} : e.view1 (.fn f l) = some (.fn f l, []) := _root_.id rfl
theorem arg_fn {e : Env} {f : Nat} {l : List AV} : e.arg (.fn f l) = some (.fn f l, []) := _root_.id rfl
theorem norm_fn {f : Nat} {l : List AV} : AV.norm (.fn f l) = .fn f l := _root_.id rfl
theorem cells_fn {e : Env} {f : Nat} {l : List AV} : e.cells (.fn f l) = some ([.fn f l], []) := _root_.id rfl
theorem parts_fn {f : Nat} {l : List AV} : partsA (.fn f l) = [.fn f l] := _root_.id rfl
theorem ok_fn {e : Env} {f : Nat} {l : List AV} : e.cellOk (.fn f l) = true := _root_.id rfl
theorem pure_fn {f : Nat} {l : List AV} : AV.pure (.fn f l) = true := _root_.id rfl
theorem flat_fn {f : Nat} {l : List AV} : AV.flat (.fn f l) = true := _root_.id rfl
theorem ren_fn {e : Env} {f : Nat} {l : List AV} : e.ren (.fn f l) = .fn f l := _root_.id rfl
theorem refW_none {k : OK} {d g : Nat} : OK.refW k none d g = k.ref d g := _root_.id rfl
theorem refW_some {k : OK} {d g j : Nat} {l : List AV} : OK.refW k (some (j, l)) d g = .aggo j d g l := _root_.id rfl
theorem parts_aggo {d g j : Nat} {l : List AV} : partsA (.aggo j d g l) = l.set j (.own d g) := _root_.id rfl
theorem ren_aggo {e : Env} {d g j : Nat} {l : List AV} : e.ren (.aggo j d g l) = if e.gen d = g then .aggo j d 0 l else .unk := _root_.id rfl
theorem callR_fr1 {j E c : Nat} {m : List (List AV)} {l : List AV} {ks : List Nat} : callR (some (.fr1 j E c m l)) ks = if j < l.length ∧ l.all AV.pure = true then some (.mk (.row E c 0 m) (some (j, l)), ks) else none := _root_.id rfl
theorem flat_aggo {d g j : Nat} {l : List AV} : AV.flat (.aggo j d g l) = false := _root_.id rfl
/-! A struct with a row of its own, handed out -/
def resF4 (m : List (List AV)) (j E c d : Nat) (x : Option (List AV × List Nat)) : Option AV := match x with
  | some (m', ks) => if ks.contains d = true then none else some (.fr1 j E c m (m'.map AV.norm))
  | none => none
def resF3 (e : Env) (l : List AV) (off n j E c d : Nat) (o : Option OK) : Option AV := match o with
  | some (.row E' c' f m) => if E' = E ∧ c' = c ∧ f = 0 then resF4 m j E c d (e.views (((l.drop off).take n).set j .nil)) else none
  | _ => none
def resF2 (e : Env) (l : List AV) (off n j E c : Nat) (A : AV) : Option AV := match A with
  | .own d g => resF3 e l off n j E c d (e.ok? d g)
  | _ => none
def resF1 (e : Env) (off n j E c : Nat) (o : Option OK) : Option AV := match o with
  | some (.box l) => if off + n ≤ l.length ∧ j < n then resF2 e l off n j E c (l.getD (off + j) .unk) else none
  | _ => none
def resF0 (e : Env) (n j E c : Nat) (A : AV) : Option AV := match A with
  | .ptr d g off => resF1 e off n j E c (e.ok? d g)
  | _ => none
theorem results_f {e : Env} {t n j E c : Nat} : results e [.cellf t n j E c] = resF0 e n j E c (e.tmps.getD t .unk) := by
  simp only [results, resF]
  unfold resF0
  cases e.tmps.getD t .unk <;> rfl
theorem resF0_ptr {e : Env} {n j E c d g off : Nat} : resF0 e n j E c (.ptr d g off) = resF1 e off n j E c (e.ok? d g) := _root_.id rfl
theorem resF1_box {e : Env} {off n j E c : Nat} {l : List AV} : resF1 e off n j E c (some (.box l)) = if off + n ≤ l.length ∧ j < n then resF2 e l off n j E c (l.getD (off + j) .unk) else none := _root_.id rfl
theorem resF2_own {e : Env} {l : List AV} {off n j E c d g : Nat} : resF2 e l off n j E c (.own d g) = resF3 e l off n j E c d (e.ok? d g) := _root_.id rfl
theorem resF3_row {e : Env} {l : List AV} {off n j E c d E' c' f : Nat} {m : List (List AV)} : resF3 e l off n j E c d (some (.row E' c' f m)) = if E' = E ∧ c' = c ∧ f = 0 then resF4 m j E c d (e.views (((l.drop off).take n).set j .nil)) else none := _root_.id rfl
theorem resF4_some {m : List (List AV)} {j E c d : Nat} {m' : List AV} {ks : List Nat} : resF4 m j E c d (some (m', ks)) = if ks.contains d = true then none else some (.fr1 j E c m (m'.map AV.norm)) := _root_.id rfl
def bldoC (j d g : Nat) (y : Option (List AV × List Nat)) : AR := match y with
  | some (l, ks) => if ks.contains d = true then none else if j < l.length then some (.val (.aggo j d g l), ks) else none
  | none => none
def bldoB (j d g : Nat) (o : Option OK) (y : Option (List AV × List Nat)) : AR := match o with
  | some (.row ..) => bldoC j d g y
  | _ => none
def bldoA (e : Env) (j : Nat) (x : AV) (y : Option (List AV × List Nat)) : AR := match x with
  | .own d g => bldoB j d g (e.ok? d g) y
  | _ => none
theorem act_bldo {R : RT} {e : Env} {z : List AV} {ps : List (Nat × Nat × X)} {j : Nat} {x : X} : act R e (.bldo z ps j x) = bldoA e j (e.get x) (fill e z ps) := by
  simp only [act]
  unfold bldoA
  cases e.get x <;> try rfl
theorem bldoA_own {e : Env} {j d g : Nat} {y : Option (List AV × List Nat)} : bldoA e j (.own d g) y = bldoB j d g (e.ok? d g) y := _root_.id rfl
theorem bldoB_row {E c f j d g : Nat} {l : List (List AV)} {y : Option (List AV × List Nat)} : bldoB j d g (some (.row E c f l)) y = bldoC j d g y := _root_.id rfl
theorem bldoC_some {j d g : Nat} {l : List AV} {ks : List Nat} : bldoC j d g (some (l, ks)) = if ks.contains d = true then none else if j < l.length then some (.val (.aggo j d g l), ks) else none := _root_.id rfl
theorem cells_aggo {e : Env} {j d g : Nat} {l : List AV} : e.cells (.aggo j d g l) = e.views (l.set j (.own d g)) := _root_.id rfl
theorem arg_aggo {e : Env} {j d g : Nat} {l : List AV} : e.arg (.aggo j d g l) = e.arg (.agg (l.set j (.own d g))) := _root_.id rfl
theorem root_fn {d f : Nat} {l : List AV} : rootIs d (.fn f l) = true := _root_.id rfl
end Go.Bv

/- BY VALUE, part 19: the rewriting rules, bundled. Written by my own program (gen/expand). -/
set_option maxRecDepth 100000
set_option linter.defProp false
namespace Go.Bv
def simPre := And.intro @bindC_seq (And.intro @bindC_reg (And.intro @bindOps_plain (And.intro @bindOps_gt (And.intro @bindOps_gf (And.intro @bindOps_nil (And.intro @act_mv (And.intro @act_pick (And.intro @act_bin (And.intro @act_un (And.intro @act_lens (And.intro @get_t (And.intro @get_c (And.intro @lgs (And.intro @lgz (And.intro @roundK_normal (And.intro @roundK_exit (And.intro @roundK_ret (And.intro @seqK_normal (And.intro @seqK_exit (And.intro @seqK_ret (And.intro @bindC_cond (And.intro @bindC_skip (And.intro @bindC_exit (And.intro @bindC_ret (And.intro @finK_ret (And.intro @finK_normal (And.intro @bindC_blk (And.intro @blkK_normal (And.intro @blkK_exit (And.intro @blkK_ret (And.intro @bindC_loop (And.intro @bindOps_w (And.intro @lqz (And.intro @lqs (And.intro @ok_mk (And.intro @gen_mk (And.intro @objs_mk (And.intro @act_cvsb (And.intro @act_len (And.intro @act_ia (And.intro @act_ld1 (And.intro @act_ldn (And.intro @act_fa (And.intro @act_ext (And.intro @act_call (And.intro @act_box (And.intro @act_new (And.intro @act_cpy (And.intro @act_bld (And.intro @act_lit (And.intro @ev_st (And.intro @ev_app (And.intro @act_cvi (And.intro @act_cvs (And.intro @act_cvbs (And.intro @act_beq (And.intro @act_eqs (And.intro @act_ix (And.intro @act_subs (And.intro @act_sub (And.intro @act_mk (And.intro @act_mnx (And.intro @norm_mk (And.intro @act_lkp (And.intro @bindC_chk (And.intro @act_clo (And.intro @act_calld (And.intro @ask_mk (And.intro @results_f (@act_bldo))))))))))))))))))))))))))))))))))))))))))))))))))))))))))))))))))))))
def simPost := And.intro @onBool_bool (And.intro @onEff_some (And.intro @effT_bool (And.intro @effF_bool (And.intro @effT_ite (And.intro @effF_ite (And.intro @guard_and (And.intro @ite_nest (And.intro @ite_and (And.intro @ite_or (And.intro @nw_mv (And.intro @nw_pick (And.intro @nw_box (And.intro @nw_new (And.intro @nw_bld (And.intro @nw_lit (And.intro @nw_ld (And.intro @nw_fa (And.intro @nw_ia (And.intro @nw_ix (And.intro @nw_subs (And.intro @nw_sub (And.intro @nw_mk (And.intro @nw_bin (And.intro @nw_beq (And.intro @nw_eqs (And.intro @nw_un (And.intro @nw_cvi (And.intro @nw_cvs (And.intro @nw_cvsb (And.intro @nw_cvbs (And.intro @nw_lens (And.intro @nw_len (And.intro @nw_cpy (And.intro @nw_mnx (And.intro @nw_ext (And.intro @nw_call (And.intro @nw_lkp (And.intro @nw_nck (And.intro @pickA_bool (And.intro @valA_some (And.intro @lensA_str (And.intro @bin_int (And.intro @bin_str (And.intro @un_not (And.intro @un_neg (And.intro @andThen_val (And.intro @put_mk (And.intro @lss (And.intro @lsz (And.intro @ite_val (And.intro @ite_bool (And.intro @ite_int (And.intro @orNone_some (And.intro @andThen_mk (And.intro @lmz (And.intro @lms (And.intro @osz (And.intro @oss (And.intro @okO_some (And.intro @genO_some (And.intro @setObj_mk (And.intro @put_some (And.intro @put_none (And.intro @frz_nil (And.intro @frz_cons (And.intro @frz_row (And.intro @ref_row (And.intro @ref_box (And.intro @kil_nil (And.intro @kil_cons (And.intro @kil_obj (And.intro @v1_own (And.intro @v1O_row (And.intro @v1_int (And.intro @v1_bool (And.intro @v1_str (And.intro @v1_nil (And.intro @v1_sl (And.intro @vs_nil (And.intro @vs_cons (And.intro @vsC_some (And.intro @cells_agg (And.intro @cells_int (And.intro @cells_bool' (And.intro @cells_str' (And.intro @cells_nil (And.intro @cells_sl (And.intro @cells_own (And.intro @arg_agg (And.intro @argG_some (And.intro @arg_int (And.intro @arg_bool (And.intro @arg_str (And.intro @arg_nil (And.intro @arg_sl (And.intro @arg_own (And.intro @arg1_sl (And.intro @norm_int (And.intro @norm_bool (And.intro @norm_str (And.intro @norm_nil (And.intro @norm_sl (And.intro @args_nil (And.intro @args_cons (And.intro @elems_nil (And.intro @elems_sl (And.intro @elems_own (And.intro @elO_row (And.intro @cvsbA_str (And.intro @lenA_some (And.intro @iaA_sl (And.intro @iaA_own (And.intro @iaO_row (And.intro @ld1_ptr (And.intro @ldB_box (And.intro @ldO_some (And.intro @ld1_el (And.intro @ld1_rp (And.intro @ldR_row (And.intro @ldP_int (And.intro @ldP_bool (And.intro @ldP_str (And.intro @ldP_nil (And.intro @ldP_sl (And.intro @ldV_some (And.intro @ldn_ptr (And.intro @ldnB_box (And.intro @ldn_el (And.intro @faA_ptr (And.intro @faB_box (And.intro @faA_el (And.intro @extA_tup (And.intro @extO_int (And.intro @extO_bool (And.intro @extO_str (And.intro @extO_sl (And.intro @extO_agg (And.intro @callA_some (And.intro @callR_fr (And.intro @callR_int (And.intro @callR_bool (And.intro @callR_str (And.intro @callR_sl (And.intro @callR_agg (And.intro @callR_tup (And.intro @boxA_some (And.intro @cpyA_some (And.intro @bldA_some (And.intro @fill_nil (And.intro @fill_cons (And.intro @fillC_some (And.intro @ksA_some (And.intro @litA_some (And.intro @lits_nil (And.intro @lits_cons (And.intro @litsC_some (And.intro @st_ptr (And.intro @stB_box (And.intro @parts_agg (And.intro @parts_int (And.intro @parts_bool (And.intro @parts_str (And.intro @parts_nil (And.intro @parts_sl (And.intro @parts_own (And.intro @ok_int (And.intro @ok_bool (And.intro @ok_str (And.intro @ok_nil (And.intro @ok_sl (And.intro @ok_own (And.intro @okR_row (And.intro @pure_int (And.intro @pure_bool (And.intro @pure_str (And.intro @pure_nil (And.intro @pure_sl (And.intro @flat_int (And.intro @flat_bool (And.intro @flat_str (And.intro @flat_nil (And.intro @flat_sl (And.intro @flat_agg (And.intro @app_nil (And.intro @app_own (And.intro @appO_row (And.intro @cviA_int (And.intro @cvsA_str (And.intro @cvbsA_some (And.intro @strO_some (And.intro @beqA_f (And.intro @beqA_t (And.intro @eqsA_agg (And.intro @eqsR_f (And.intro @eqsR_t (And.intro @same_nil (And.intro @andB_some (And.intro @same_int (And.intro @same_bool (And.intro @same_str (And.intro @ixA_str (And.intro @subsA_str (And.intro @subsB_some (And.intro @ia_none (And.intro @ia_int (And.intro @omap_none (And.intro @omap_some (And.intro @subA_some (And.intro @subB_some (And.intro @mkA_int (And.intro @mnx_t (And.intro @mnx_f (And.intro @keepT_nil (And.intro @keepT_cons (And.intro @keepO_nil (And.intro @keepO_cons (And.intro @ren_unk (And.intro @ren_und (And.intro @ren_ite (And.intro @ren_int (And.intro @ren_bool (And.intro @ren_str (And.intro @ren_nil (And.intro @ren_sl (And.intro @ren_agg (And.intro @ren_tup (And.intro @ren_own (And.intro @ren_ptr (And.intro @ren_box (And.intro @ren_row (And.intro @ren_dead (And.intro @bin_shl8 (And.intro @bin_shr4 (And.intro @toNat0 (And.intro @toNat1 (And.intro @toNatC (And.intro @leR (And.intro @zeroLe (And.intro @nat0 (And.intro @lkpA_mp (And.intro @nw_clo (And.intro @nw_calld (And.intro @askR_nil (And.intro @askR_cons (And.intro @askN_nil (And.intro @askN_cons (And.intro @root_self (And.intro @root_unk (And.intro @root_und (And.intro @root_el (And.intro @root_rp (And.intro @root_int (And.intro @root_sl (And.intro @flat_unk (And.intro @flat_und (And.intro @flat_el (And.intro @cloA_some (And.intro @calldA_fn (And.intro @v1_fn (And.intro @arg_fn (And.intro @norm_fn (And.intro @cells_fn (And.intro @parts_fn (And.intro @ok_fn (And.intro @pure_fn (And.intro @flat_fn (And.intro @ren_fn (And.intro @root_fn (And.intro @refW_none (And.intro @refW_some (And.intro @parts_aggo (And.intro @ren_aggo (And.intro @callR_fr1 (And.intro @flat_aggo (And.intro @resF0_ptr (And.intro @resF1_box (And.intro @resF2_own (And.intro @resF3_row (And.intro @resF4_some (And.intro @nw_bldo (And.intro @bldoA_own (And.intro @bldoB_row (And.intro @bldoC_some (And.intro @cells_aggo (@arg_aggo)))))))))))))))))))))))))))))))))))))))))))))))))))))))))))))))))))))))))))))))))))))))))))))))))))))))))))))))))))))))))))))))))))))))))))))))))))))))))))))))))))))))))))))))))))))))))))))))))))))))))))))))))))))))))))))))))))))))))))))))))))))))))))))))))))))))))))))))))))))))))))))
end Go.Bv
