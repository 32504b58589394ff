/- BY VALUE, part 6: each operation of the machine does what the evaluator says (operations that don't write). -/
import Derived.Test.YtnfmilnlekmjgaaBvRep
import Derived.Test.YtnfmilnlekmjgaaBvComp
import Derived.Laws.Tables
import Derived.Laws.StructEq
import Derived.Laws.MakeOwn
import Derived.Laws.OwnMore
import Derived.Lib.AppendStr
import Derived.Laws.IdiomStrings
import Derived.Laws.BytesString
import Derived.Laws.Strings
import Derived.Laws.Cells
import Derived.Laws.CopyRow
import Derived.Laws.Slices
import Derived.Laws.Bits
import Derived.Laws.Unary
import Derived.OwnWalk
import Derived.MapKept
set_option linter.unusedVariables false
set_option linter.unusedSimpArgs false
namespace Go.Bv
open Go.RowKit

/-- What may be said of the cells behind a call: those of old that were never written, and all new ones but for the row that is handed out. -/
def okAfter (base : Nat) (ok : Nat → Nat → Prop) (w' : World) (x : Option Nat) (b o : Nat) : Prop := (b < base ∧ ok b o) ∨ (base ≤ b ∧ b < w'.heap.size ∧ some b ≠ x)

def RepRes (base : Nat) (ok : Nat → Nat → Prop) (w' : World) (v : Value) : AV → Prop
  | .fr E c l => (∀ i, i < l.length → (l.getD i []).length = c) ∧ ∃ xs : List Value, w'.ownsRow base E c v l.length xs ∧
      ∀ i j, i < l.length → j < c → RepR w' (okAfter base ok w' (blkOf v)) (xs.getD (i * c + j) undef) ((l.getD i []).getD j .unk) ∧ ((l.getD i []).getD j .unk).pure = true
  | .fr1 j E c m l => ∃ vs : Array Value, v = .agg vs ∧ vs.size = l.length ∧ j < l.length ∧ ((∀ i, i < m.length → (m.getD i []).length = c) ∧ ∃ xs : List Value, w'.ownsRow base E c (vs.getD j undef) m.length xs ∧
      ∀ i k, i < m.length → k < c → RepR w' (okAfter base ok w' (blkOf (vs.getD j undef))) (xs.getD (i * c + k) undef) ((m.getD i []).getD k .unk) ∧ ((m.getD i []).getD k .unk).pure = true) ∧
      ∀ i, i < l.length → i ≠ j → RepR w' (okAfter base ok w' (blkOf (vs.getD j undef))) (vs.getD i undef) (l.getD i .unk) ∧ (l.getD i .unk).pure = true
  | A => RepR w' (okAfter base ok w' none) v A

/-- A function's contract, by value. -/
def VSpec (P : Program) (f : Nat) (as : List AV) (r : AV) : Prop :=
  ∀ (w : World) (vs : List Value) (ok : Nat → Nat → Prop), (∀ b o, ok b o → b < w.heap.size) → vs.length = as.length →
    (∀ j, j < as.length → RepR w ok (vs.getD j undef) (as.getD j .unk)) →
    Calls P f vs.toArray w (fun e w' => ∃ v, e = .returned v ∧ Below w.heap.size w w' ∧ RepRes w.heap.size ok w' v r)

/-- It has a body that is entered. -/
def callable (P : Program) (f : Nat) : Bool := match P.funcs[f]? with
  | some fn => !(fn.name == "runtime.NumGoroutine") && fn.body.isSome
  | none => false
def VSound (P : Program) (R : Nat → List AV → Option AV) : Prop := ∀ f as r, R f as = some r → VSpec P f as r ∧ callable P f = true

section
variable {P : Program} {base : Nat} {w0 : World} {ok0 : Nat → Nat → Prop} {e : Env} {a : Act} {w : World} {G : Gh}

theorem wp_value {o : Oper} {K : Act → World → Prop} {Q : Exit → Act → World → Prop} {v : Value} {w' : World} (h : (execOp a.eval o).run P w = .ok (.value v) w') (hK : K (a.put o.dst v) w') : o.wp P a w K Q := by
  unfold Oper.wp; rw [h]; exact hK
theorem wp_skip' {o : Oper} {K : Act → World → Prop} {Q : Exit → Act → World → Prop} {w' : World} (h : (execOp a.eval o).run P w = .ok .skip w') (hK : K (a.put o.dst undef) w') : o.wp P a w K Q := by
  unfold Oper.wp; rw [h]; exact hK

/-! ### Operands -/
theorem avOf_rep {v : Value} {A : AV} (h : avOf v = some A) (w : World) (ok : Nat → Nat → Prop) : RepR w ok v A ∧ A.pure = true := by
  unfold avOf at h
  split at h <;> first
    | (cases h; exact ⟨by constructor, rfl⟩)
    | cases h

theorem avsOf_rep {l : List Value} {m : List AV} (h : avsOf l = some m) (w : World) (ok : Nat → Nat → Prop) : m.length = l.length ∧ ∀ j, j < m.length → RepR w ok (l.getD j undef) (m.getD j .unk) ∧ (m.getD j .unk).pure = true := by
  induction l generalizing m with
  | nil => simp [avsOf] at h; subst h; exact ⟨rfl, fun j hj => absurd hj (by simp)⟩
  | cons v l ih =>
    simp only [avsOf] at h
    cases h1 : avOf v with
    | none => simp [h1] at h
    | some A =>
      cases h2 : avsOf l with
      | none => simp [h1, h2] at h
      | some n =>
        simp only [h1, h2, Option.some.injEq] at h
        subst h
        obtain ⟨i1, i2⟩ := ih h2
        refine ⟨by simp [i1], fun j hj => ?_⟩
        cases j with
        | zero => exact avOf_rep h1 w ok
        | succ j => exact i2 j (by simpa using hj)

theorem compX_rep {x : Operand} {y : X} (hc : compX x = some y) (h : Rel base w0 ok0 e a w G) : RepT w G e (a.eval x) (e.get y) := by
  unfold compX at hc
  split at hc
  · cases hc
    rename_i t
    simp only [Act.eval, Env.get]
    by_cases ht : t < e.tmps.length
    · exact h.tmps t ht
    · have : e.tmps.getD t .unk = .unk := by simp [List.getD_eq_getElem?_getD, List.getElem?_eq_none (Nat.le_of_not_lt ht)]
      rw [this]; exact .unk _
  · rename_i v
    cases h1 : avOf v with
    | none => simp [h1] at hc
    | some A =>
      simp [h1] at hc
      subst hc
      exact (avOf_rep h1 w G.ok).1.toT
  · cases hc
    exact RepR.toT (.fn _ #[] [] rfl (fun j hj => absurd hj (by simp)) (fun j hj => absurd hj (by simp)))
  · cases hc

theorem compXs_rep {l : List Operand} {m : List X} (hc : compXs l = some m) (h : Rel base w0 ok0 e a w G) : m.length = l.length ∧ ∀ j, j < m.length → RepT w G e ((l.map a.eval).getD j undef) (e.get (m.getD j default)) := by
  induction l generalizing m with
  | nil => simp [compXs] at hc; subst hc; exact ⟨rfl, fun j hj => absurd hj (by simp)⟩
  | cons x l ih =>
    simp only [compXs] at hc
    cases h1 : compX x with
    | none => simp [h1] at hc
    | some y =>
      cases h2 : compXs l with
      | none => simp [h1, h2] at hc
      | some n =>
        simp only [h1, h2, Option.some.injEq] at hc
        subst hc
        obtain ⟨i1, i2⟩ := ih h2
        refine ⟨by simp [i1], fun j hj => ?_⟩
        cases j with
        | zero => simpa using compX_rep h1 h
        | succ j => simpa using i2 j (by simpa using hj)

/-- An operation that hands back a value in the world that it got. -/
theorem sim_val (h : Rel base w0 ok0 e a w G) {o : Oper} {K : Act → World → Prop} {Q : Exit → Act → World → Prop} {e' : Env} {v : Value} {A : AV} {ks : List Nat}
    (hrun : (execOp a.eval o).run P w = .ok (.value v) w) (hv : RepT w (G.frz e ks) (e.freeze ks) v A) (he : applyRes (e.freeze ks) o.dst (.val A) = some e')
    (hK : ∀ a' w' G', Rel base w0 ok0 e' a' w' G' → K a' w') : o.wp P a w K Q := by
  cases he
  exact wp_value hrun (hK _ _ _ ((h.freeze ks).put o.dst hv))

theorem sim_val0 (h : Rel base w0 ok0 e a w G) {o : Oper} {K : Act → World → Prop} {Q : Exit → Act → World → Prop} {e' : Env} {v : Value} {A : AV}
    (hrun : (execOp a.eval o).run P w = .ok (.value v) w) (hv : RepT w G e v A) (he : applyRes (e.freeze []) o.dst (.val A) = some e')
    (hK : ∀ a' w' G', Rel base w0 ok0 e' a' w' G' → K a' w') : o.wp P a w K Q :=
  sim_val (ks := []) h hrun hv he hK

end
end Go.Bv

set_option linter.unusedVariables false
set_option linter.unusedSimpArgs false
namespace Go.Bv
open Go.RowKit

section
variable {P : Program} {base : Nat} {w0 : World} {ok0 : Nat → Nat → Prop} {e : Env} {a : Act} {w : World} {G : Gh}

theorem inv_int {v : Value} {k : IntKind} {n : Int} (h : RepT w G e v (.int k n)) : v = .int k n := by
  cases (show RepR w G.ok v (.int k n) from h); rfl
theorem inv_bool {v : Value} {b : Bool} (h : RepT w G e v (.bool b)) : v = .bool b := by
  cases (show RepR w G.ok v (.bool b) from h); rfl
theorem inv_str {v : Value} {s : ByteArray} (h : RepT w G e v (.str s)) : v = .string s := by
  cases (show RepR w G.ok v (.str s) from h); rfl
theorem inv_tup {v : Value} {l : List AV} (h : RepT w G e v (.tup l)) : ∃ vs : Array Value, v = .tuple vs ∧ vs.size = l.length ∧ ∀ j, j < l.length → RepR w G.ok (vs.getD j undef) (l.getD j .unk) := by
  cases (show RepR w G.ok v (.tup l) from h) with
  | tup vs _ hs hr => exact ⟨vs, rfl, hs, hr⟩
theorem inv_agg {v : Value} {l : List AV} (h : RepT w G e v (.agg l)) : ∃ vs : Array Value, v = .agg vs ∧ vs.size = l.length ∧ (∀ j, j < l.length → (l.getD j .unk).pure = true) ∧ ∀ j, j < l.length → RepR w G.ok (vs.getD j undef) (l.getD j .unk) := by
  cases (show RepR w G.ok v (.agg l) from h) with
  | agg vs _ hs hp hr => exact ⟨vs, rfl, hs, hp, hr⟩
theorem inv_el {v : Value} {l : List AV} (h : RepT w G e v (.el l)) : ∃ b o, ∃ u : Nat → Value, v = .pointer (some ⟨b, o, none⟩) ∧ (∀ j, j < l.length → G.ok b (o + j) ∧ w.cell? ⟨b, o + j, none⟩ = some (u j)) ∧
    (∀ j, j < l.length → (l.getD j .unk).pure = true) ∧ ∀ j, j < l.length → RepR w G.ok (u j) (l.getD j .unk) := by
  cases (show RepR w G.ok v (.el l) from h) with
  | el b o _ u h1 h2 h3 => exact ⟨b, o, u, rfl, h1, h2, h3⟩

theorem binA_run {op : BinOp} {A B D : AV} {x y : Value} {X Y : Operand} (T : TypeId) (h : binA op A B = some D) (hx : RepT w G e x A) (hy : RepT w G e y B) :
    ∃ v, (do eqGuard op T X Y x y; binOp op T x y : Sem Value).run P w = .ok v w ∧ RepR w G.ok v D := by
  unfold binA at h
  split at h
  · rename_i k a k' b
    rw [inv_int hx, inv_int hy]
    simp only [eqGuard_at_int]
    cases op <;> simp only at h
    case shl =>
      split at h
      · cases h
      · cases h; rename_i hb; exact ⟨_, by simp [binOp, Op.shift, hb], .int _ _⟩
    case shr =>
      split at h
      · cases h
      · cases h; rename_i hb; exact ⟨_, by simp [binOp, Op.shift, hb], .int _ _⟩
    case quo =>
      split at h
      · split at h
        · cases h
        · cases h; rename_i hk hb; subst hk; exact ⟨_, by simp [binOp, Op.intDiv, hb], .int _ _⟩
      · cases h
    case rem =>
      split at h
      · split at h
        · cases h
        · cases h; rename_i hk hb; subst hk; exact ⟨_, by simp [binOp, Op.intDiv, hb], .int _ _⟩
      · cases h
    all_goals
      split at h
      · cases h
        rename_i hk
        subst hk
        first
          | exact ⟨.int _ _, by simp [binOp, Op.intArith, Op.intBits, Op.intCmp], .int _ _⟩
          | exact ⟨.bool _, by simp [binOp, Op.intArith, Op.intBits, Op.intCmp], .bool _⟩
      · cases h
  · rename_i s t
    rw [inv_str hx, inv_str hy]
    simp only [eqGuard_at_string]
    cases op <;> simp only at h
    case add =>
      split at h
      · cases h
        rename_i hs
        refine ⟨_, ?_, .str _⟩
        have : ¬ ((9223372036854775807 : Int) < (s.size : Int) + (t.size : Int)) := by omega
        simp [binOp, Op.stringOp, this]
      · cases h
    all_goals first
      | (cases h; refine ⟨_, ?_, .bool _⟩; simp [binOp, Op.stringOp]; done)
      | cases h
  · cases h

theorem unA_run {op : UnOp} {A D : AV} {x : Value} (h : unA op A = some D) (hx : RepT w G e x A) : ∃ v, (Op.unary op x).run P w = .ok v w ∧ RepR w G.ok v D := by
  unfold unA at h
  split at h
  · rw [inv_int hx]
    cases op <;> simp only at h <;> cases h
    exact ⟨_, by simp [Op.unary, Op.intArith], .int _ _⟩
  · rw [inv_bool hx]
    cases op <;> simp only at h <;> cases h
    exact ⟨_, by simp [Op.unary], .bool _⟩
  · cases h

theorem mnxA_max {A B D : AV} {x y : Value} (h : mnxA true A B = some D) (hx : RepT w G e x A) (hy : RepT w G e y B) : ∃ v, (Builtin.max2 x y).run P w = .ok v w ∧ RepR w G.ok v D := by
  unfold mnxA at h
  split at h
  · rw [inv_int hx, inv_int hy]
    split at h
    · cases h; rename_i hk; subst hk; exact ⟨_, by simp [Builtin.max2]; rfl, by simp; exact .int _ _⟩
    · cases h
  · cases h
theorem mnxA_min {A B D : AV} {x y : Value} (h : mnxA false A B = some D) (hx : RepT w G e x A) (hy : RepT w G e y B) : ∃ v, (Builtin.min2 x y).run P w = .ok v w ∧ RepR w G.ok v D := by
  unfold mnxA at h
  split at h
  · rw [inv_int hx, inv_int hy]
    split at h
    · cases h; rename_i hk; subst hk; exact ⟨_, by simp [Builtin.min2]; rfl, by simp; exact .int _ _⟩
    · cases h
  · cases h

variable {R : Nat → List AV → Option AV} {o : Oper} {K : Act → World → Prop} {Q : Exit → Act → World → Prop} {e' : Env}

theorem sim_mv (h : Rel base w0 ok0 e a w G) {x : Operand} {y : X} (hx : compX x = some y) (ho : o.op = .move x ∨ o.op = .assign x)
    (he : evalO R e o.dst (.mv y) = some e') (hK : ∀ a' w' G', Rel base w0 ok0 e' a' w' G' → K a' w') : o.wp P a w K Q := by
  simp only [evalO, act] at he
  refine sim_val0 h ?_ (compX_rep hx h) he hK
  rcases ho with ho | ho <;> simp [execOp, ho]

theorem sim_pick (h : Rel base w0 ok0 e a w G) {c x y : Operand} {c' x' y' : X} (hc : compX c = some c') (hx : compX x = some x') (hy : compX y = some y') (ho : o.op = .pick c x y)
    (he : evalO R e o.dst (.pick c' x' y') = some e') (hK : ∀ a' w' G', Rel base w0 ok0 e' a' w' G' → K a' w') : o.wp P a w K Q := by
  simp only [evalO, act] at he
  cases hg : e.get c' with
  | bool b =>
    simp only [hg] at he
    have hb := compX_rep hc h
    rw [hg] at hb
    have hv := inv_bool hb
    refine sim_val0 h (v := if b then a.eval x else a.eval y) ?_ ?_ he hK
    · simp [execOp, ho, hv, asBool]
    · cases b
      · exact compX_rep hy h
      · exact compX_rep hx h
  | _ => simp [hg] at he

theorem sim_bin (h : Rel base w0 ok0 e a w G) {op : BinOp} {T U : TypeId} {x y : Operand} {x' y' : X} (hx : compX x = some x') (hy : compX y = some y') (ho : o.op = .binOp op T x y U)
    (he : evalO R e o.dst (.bin op x' y') = some e') (hK : ∀ a' w' G', Rel base w0 ok0 e' a' w' G' → K a' w') : o.wp P a w K Q := by
  simp only [evalO, act] at he
  cases hb : binA op (e.get x') (e.get y') with
  | none => simp [hb] at he
  | some D =>
    simp only [hb] at he
    obtain ⟨v, hr, hv⟩ := binA_run (P := P) (X := x) (Y := y) T hb (compX_rep hx h) (compX_rep hy h)
    refine sim_val0 h (v := v) ?_ hv.toT he hK
    simp only [execOp, ho, Sem.run_bind, hr, Result.andThen_ok, Sem.run_pure]

theorem sim_beq (h : Rel base w0 ok0 e a w G) {ne : Bool} {op : BinOp} {T U : TypeId} {x y : Operand} {x' y' : X} (hx : compX x = some x') (hy : compX y = some y') (ho : o.op = .binOp op T x y U)
    (hop : op = if ne then .neq else .eql) (hT : P.underlying T = some .bool)
    (he : evalO R e o.dst (.beq ne x' y') = some e') (hK : ∀ a' w' G', Rel base w0 ok0 e' a' w' G' → K a' w') : o.wp P a w K Q := by
  simp only [evalO, act] at he
  have h1 := compX_rep hx h
  have h2 := compX_rep hy h
  cases hgx : e.get x' <;> simp only [hgx] at he h1 <;> try (cases he; done)
  cases hgy : e.get y' <;> simp only [hgy] at he h2 <;> try (cases he; done)
  rename_i b c
  refine sim_val0 h (v := .bool (if ne then !(b == c) else b == c)) ?_ (RepR.bool _).toT he hK
  have e1 := inv_bool h1
  have e2 := inv_bool h2
  subst hop
  cases ne <;> simp [execOp, ho, e1, e2, eqGuard_at_bool, binOp, Op.equal, Op.maxDepth, run_equalIn_bool' w _ T b c hT]

theorem sim_un (h : Rel base w0 ok0 e a w G) {op : UnOp} {T : TypeId} {x : Operand} {x' : X} (hx : compX x = some x') (ho : o.op = .unOp op T x)
    (he : evalO R e o.dst (.un op x') = some e') (hK : ∀ a' w' G', Rel base w0 ok0 e' a' w' G' → K a' w') : o.wp P a w K Q := by
  simp only [evalO, act] at he
  cases hb : unA op (e.get x') with
  | none => simp [hb] at he
  | some D =>
    simp only [hb] at he
    obtain ⟨v, hr, hv⟩ := unA_run (P := P) hb (compX_rep hx h)
    refine sim_val0 h (v := v) ?_ hv.toT he hK
    simp only [execOp, ho, Sem.run_bind, hr, Result.andThen_ok, Sem.run_pure]

theorem sim_cvi (h : Rel base w0 ok0 e a w G) {k : IntKind} {s d : TypeId} {x : Operand} {x' : X} (hx : compX x = some x') (ho : o.op = .convert s d x)
    (hs : (P.underlying s).isSome = true) (hd : P.underlying d = some (.int k))
    (he : evalO R e o.dst (.cvi k x') = some e') (hK : ∀ a' w' G', Rel base w0 ok0 e' a' w' G' → K a' w') : o.wp P a w K Q := by
  simp only [evalO, act] at he
  have h1 := compX_rep hx h
  cases hgx : e.get x' <;> simp only [hgx] at he h1 <;> try (cases he; done)
  rename_i k' n
  have e1 := inv_int h1
  have hk : P.intKind d = k := by simp [Program.intKind, hd]
  have hr := run_convert_int (P := P) w s d k' n hs (by rw [hk]; exact hd)
  rw [hk] at hr
  refine sim_val0 h (v := .int k (k.wrap n)) ?_ (RepR.int _ _).toT he hK
  simp only [execOp, ho, Sem.run_bind, e1, hr, Result.andThen_ok, Sem.run_pure]

theorem sim_cvs (h : Rel base w0 ok0 e a w G) {s d : TypeId} {x : Operand} {x' : X} (hx : compX x = some x') (ho : o.op = .convert s d x)
    (hs : P.underlying s = some .string) (hd : P.underlying d = some .string)
    (he : evalO R e o.dst (.cvs x') = some e') (hK : ∀ a' w' G', Rel base w0 ok0 e' a' w' G' → K a' w') : o.wp P a w K Q := by
  simp only [evalO, act] at he
  have h1 := compX_rep hx h
  cases hgx : e.get x' <;> simp only [hgx] at he h1 <;> try (cases he; done)
  have e1 := inv_str h1
  refine sim_val0 h (v := _) ?_ h1 he hK
  rw [e1]
  simp [execOp, ho, e1, convert, run_underlying hs, run_underlying hd]

theorem sim_ext (h : Rel base w0 ok0 e a w G) {x : Operand} {x' : X} {i : Nat} (hx : compX x = some x') (ho : o.op = .extract x i)
    (he : evalO R e o.dst (.ext x' i) = some e') (hK : ∀ a' w' G', Rel base w0 ok0 e' a' w' G' → K a' w') : o.wp P a w K Q := by
  simp only [evalO, act] at he
  have h1 := compX_rep hx h
  cases hgx : e.get x' <;> simp only [hgx] at he h1 <;> try (cases he; done)
  rename_i l
  obtain ⟨vs, hv, hs, hr⟩ := inv_tup h1
  cases hi : l[i]? with
  | none => simp [hi] at he
  | some A =>
    simp only [hi] at he
    by_cases hpu : A.flat = true
    case neg => rw [if_neg hpu] at he; cases he
    rw [if_pos hpu] at he
    have hlt : i < l.length := (List.getElem?_eq_some_iff.1 hi).1
    have hA : l.getD i .unk = A := by simp [List.getD_eq_getElem?_getD, hi]
    have hvi : vs[i]? = some (vs.getD i undef) := by simp [Array.getElem?_eq_getElem (show i < vs.size by omega)]
    refine sim_val0 h (v := vs.getD i undef) ?_ (by rw [← hA]; exact (hr i hlt).toT) he hK
    simp only [execOp, ho, hv, Instr.extract, hvi]
    rfl

theorem sim_nck (h : Rel base w0 ok0 e a w G) {x : Operand} {x' : X} (hx : compX x = some x') (ho : o.op = .nilCheck x)
    (he : evalO R e o.dst (.nck x') = some e') (hK : ∀ a' w' G', Rel base w0 ok0 e' a' w' G' → K a' w') : o.wp P a w K Q := by
  simp only [evalO, act] at he
  have h1 := compX_rep hx h
  have fin : ∀ {ad : Addr} {A : AV}, a.eval x = .pointer (some ad) → RepT w G e (a.eval x) A → applyRes (e.freeze []) o.dst (.val A) = some e' → o.wp P a w K Q := by
    intro ad A hv hr he
    refine sim_val0 h (v := a.eval x) ?_ hr he hK
    simp only [execOp, ho]
    rw [hv]
    rfl
  cases hgx : e.get x' <;> simp only [hgx] at he h1 <;> try (cases he; done)
  case ptr d g off =>
    cases hk : e.ok? d g with
    | none => simp [hk] at he
    | some k =>
      cases k <;> simp only [hk] at he <;> try (cases he; done)
      obtain ⟨b, _, hv⟩ := h1.2.2 _ hk
      exact fin hv h1 he
  case rp d g i j =>
    cases hk : e.ok? d g with
    | none => simp [hk] at he
    | some k =>
      cases k <;> simp only [hk] at he <;> try (cases he; done)
      obtain ⟨b, _, _, _, hv⟩ := h1.2.2 _ _ _ _ hk
      exact fin hv h1 he
  case el l =>
    obtain ⟨b, o', u, hv, _⟩ := inv_el h1
    exact fin hv h1 he

theorem sim_lens (h : Rel base w0 ok0 e a w G) {x : Operand} {x' : X} {t : TypeId} (hx : compX x = some x') {c : Call} (ho : o.op = .call c) (hc : c.callee = .builtin .len) (hargs : c.args = #[x]) (hts : c.argTypes = #[t])
    (ht : P.underlying t = some .string)
    (he : evalO R e o.dst (.lens x') = some e') (hK : ∀ a' w' G', Rel base w0 ok0 e' a' w' G' → K a' w') : o.wp P a w K Q := by
  simp only [evalO, act] at he
  have h1 := compX_rep hx h
  cases hgx : e.get x' <;> simp only [hgx] at he h1 <;> try (cases he; done)
  rename_i s
  have e1 := inv_str h1
  refine sim_val0 h (v := .int .i64 s.size) ?_ (RepR.int _ _).toT he hK
  have hr := run_len_string (P := P) w t o.type s ht
  simp only [goInt] at hr
  simp [execOp, ho, resolve, hc, hargs, hts, invoke, builtin, e1, hr]

theorem inv_sl {ok : Nat → Nat → Prop} {v : Value} {l : List (List AV)} (h : RepR w ok v (.sl l)) : ∃ ad cap, v = .slice ad l.length cap ∧ l.length ≤ cap := by
  cases h with
  | sl0 a cap => exact ⟨a, cap, rfl, Nat.zero_le _⟩
  | sl b o cap c l u hcap => exact ⟨_, cap, rfl, hcap⟩

theorem sim_len (h : Rel base w0 ok0 e a w G) {x : Operand} {x' : X} {t el : TypeId} (hx : compX x = some x') {c : Call} (ho : o.op = .call c) (hc : c.callee = .builtin .len) (hargs : c.args = #[x]) (hts : c.argTypes = #[t])
    (ht : P.underlying t = some (.slice el))
    (he : evalO R e o.dst (.len x') = some e') (hK : ∀ a' w' G', Rel base w0 ok0 e' a' w' G' → K a' w') : o.wp P a w K Q := by
  simp only [evalO, act] at he
  have h1 := compX_rep hx h
  cases hl : e.elems (e.get x') with
  | none => simp [hl] at he
  | some r =>
    obtain ⟨l, ks⟩ := r
    simp only [hl] at he
    obtain ⟨ad, cap, hv, _⟩ := inv_sl (elems_rep h h1 hl)
    refine sim_val0 h (v := .int .i64 l.length) ?_ (RepR.int _ _).toT he hK
    have hel : P.elem t = el := by simp [Program.elem, ht]
    have hr := run_len_slice (P := P) w t o.type ad l.length cap (by rw [hel]; exact ht)
    simp only [goInt] at hr
    simp [execOp, ho, resolve, hc, hargs, hts, invoke, builtin, hv, hr]

theorem sim_ix (h : Rel base w0 ok0 e a w G) {x i : Operand} {x' i' : X} {t : TypeId} (hx : compX x = some x') (hi : compX i = some i') (ho : o.op = .index t x i) (ht : P.underlying t = some .string)
    (he : evalO R e o.dst (.ix x' i') = some e') (hK : ∀ a' w' G', Rel base w0 ok0 e' a' w' G' → K a' w') : o.wp P a w K Q := by
  simp only [evalO, act] at he
  have h1 := compX_rep hx h
  have h2 := compX_rep hi h
  cases hgx : e.get x' <;> simp only [hgx] at he h1 <;> try (cases he; done)
  cases hgi : e.get i' <;> simp only [hgi] at he h2 <;> try (cases he; done)
  rename_i s k n
  by_cases hb : 0 ≤ n ∧ n < (s.size : Int)
  case neg => simp [hb] at he
  simp only [hb, and_self, if_true] at he
  have e1 := inv_str h1
  have e2 := inv_int h2
  have hr := run_index_string (P := P) w t s k n ht
  rw [dif_pos hb] at hr
  have hlt : n.toNat < s.size := by omega
  have hbyte : ((s[n.toNat]'hlt).toNat : Int) = byteAt s n.toNat := by
    unfold byteAt
    have : s.data.getD n.toNat 0 = s[n.toNat]'hlt := by
      have h3 : n.toNat < s.data.size := hlt
      rw [Array.getD_eq_getD_getElem?, Array.getElem?_eq_getElem h3]
      rfl
    rw [this]
  rw [hbyte] at hr
  refine sim_val0 h (v := .int .u8 (byteAt s n.toNat)) ?_ (RepR.int _ _).toT he hK
  simp only [execOp, ho, Sem.run_bind, e1, e2, hr, Result.andThen_ok, Sem.run_pure]

end
end Go.Bv

/- BY VALUE, part 5b: a look-up in a map of bools. -/
set_option linter.unusedVariables false
set_option linter.unusedSimpArgs false
namespace Go.Bv
open Go.RowKit
theorem bytes_beq (a b : ByteArray) : (a == b) = (a.toList == b.toList) := by
  rw [ByteArray.toList_eq, ByteArray.toList_eq]
  have h0 : (a == b) = (a.data == b.data) := rfl
  rw [h0]
  by_cases h : a.data = b.data
  · rw [h]; simp
  · have h1 : (a.data == b.data) = false := by simpa using h
    have h2 : (a.data.toList == b.data.toList) = false := by
      cases hb : (a.data.toList == b.data.toList)
      · rfl
      · exact absurd (Array.ext' (eq_of_beq hb)) h
    rw [h1, h2]
theorem findNow_has (s : ByteArray) : ∀ (es : List MapEntry) (l : List (List AV)) (i : Nat), es.map (fun x => (x.key, x.val)) = l.map entV → (∀ x ∈ l, ∃ s b, x = [.str s, .bool b]) →
    ∃ r, Instr.findNow .string (.string s) es i = some r ∧ (match r with | some q => q.2 = .bool (mapHas l s) | none => mapHas l s = false) := by
  intro es
  induction es with
  | nil =>
    intro l i he hl
    cases l with
    | nil => exact ⟨none, rfl, rfl⟩
    | cons x l => simp at he
  | cons y es ih =>
    intro l i he hl
    cases l with
    | nil => simp at he
    | cons x l =>
      obtain ⟨t, b, rfl⟩ := hl x (by simp)
      simp only [List.map_cons, List.cons.injEq, entV, Prod.mk.injEq] at he
      obtain ⟨⟨hk, hv⟩, he⟩ := he
      unfold Instr.findNow
      rw [hk]
      simp only [Instr.sameNow, bytes_beq]
      cases hb : (s.toList == t.toList) with
      | true => exact ⟨some (i, y.val), rfl, by simp only [mapHas, hb, if_true]; exact hv⟩
      | false =>
        obtain ⟨r, h1, h2⟩ := ih l (i + 1) he (fun x hx => hl x (by simp [hx]))
        refine ⟨r, h1, ?_⟩
        simp only [mapHas, hb, Bool.false_eq_true, if_false]
        exact h2
section
variable {P : Program} {base : Nat} {w0 : World} {ok0 : Nat → Nat → Prop} {e e' : Env} {a : Act} {w : World} {G : Gh} {o : Oper} {K : Act → World → Prop} {Q : Exit → Act → World → Prop} {R : Nat → List AV → Option AV}
theorem run_lookup_bool {t kt et : TypeId} {inf : TypeInfo} (ht : P.underlying t = some (.map kt et)) (hk : P.underlying kt = some .string) (hi : P.info? et = some inf) (hz : inf.zero = some (.bool false))
    {r clock : Nat} {es : Array MapEntry} {l : List (List AV)} (hb : w.heap[r]? = some (.map es clock)) (he : es.toList.map (fun x => (x.key, x.val)) = l.map entV) (hl : ∀ x ∈ l, ∃ s b, x = [.str s, .bool b]) (s : ByteArray) :
    (Instr.lookup t (.map (some r)) (.string s) false).run P w = .ok (.bool (mapHas l s)) w := by
  obtain ⟨x, h1, h2⟩ := findNow_has s es.toList l 0 he hl
  have hc := MapKept.run_checkKey (P := P) (w := w) (k := .string s) hk (by simp [MapKept.IsKey]) es.isEmpty 9999
  have hf := MapKept.run_findKey (P := P) (w := w) hk h1
  have hzr : (zeroValue et).run P w = .ok (.bool false) w := by simp [zeroValue, typeInfo, hi, hz]
  cases x with
  | none =>
    simp only at h2
    simp [Instr.lookup, run_underlying ht, MapKept.run_getObj_map hb, hc, hf, hzr, Result.andThen, h2]
  | some q =>
    obtain ⟨i, v⟩ := q
    simp only at h2
    simp [Instr.lookup, run_underlying ht, MapKept.run_getObj_map hb, hc, hf, Result.andThen, h2]
theorem sim_lkp (h : Rel base w0 ok0 e a w G) {x k : Operand} {x' k' : X} {t kt et : TypeId} {inf : TypeInfo} (hx : compX x = some x') (hk : compX k = some k') (ho : o.op = .lookup t x k false) (ht : P.underlying t = some (.map kt et))
    (hkt : P.underlying kt = some .string) (hi : P.info? et = some inf) (hz : inf.zero = some (.bool false))
    (he : evalO R e o.dst (.lkp x' k') = some e') (hK : ∀ a' w' G', Rel base w0 ok0 e' a' w' G' → K a' w') : o.wp P a w K Q := by
  simp only [evalO, act] at he
  have h1 := compX_rep hx h
  have h2 := compX_rep hk h
  cases hgx : e.get x' <;> simp only [hgx] at he h1 <;> try (cases he; done)
  cases hgk : e.get k' <;> simp only [hgk] at he h2 <;> try (cases he; done)
  rename_i l s
  have e2 := inv_str h2
  generalize hv : a.eval x = v at h1
  cases h1 with
  | mp r clock es l hok hm hes hl =>
    refine sim_val0 h (v := .bool (mapHas l s)) ?_ (RepR.bool _).toT he hK
    simp [execOp, ho, hv, e2, run_lookup_bool ht hkt hi hz hm hes hl s, Result.andThen]
end
end Go.Bv

set_option linter.unusedVariables false
set_option linter.unusedSimpArgs false
namespace Go.Bv
open Go.RowKit

section
variable {P : Program} {base : Nat} {w0 : World} {ok0 : Nat → Nat → Prop} {e : Env} {a : Act} {w : World} {G : Gh}
variable {R : Nat → List AV → Option AV} {o : Oper} {K : Act → World → Prop} {Q : Exit → Act → World → Prop} {e' : Env}

theorem run_loadVar_one {t : TypeId} {d : TypeDesc} {ad : Addr} {v : Value} (hd : P.underlying t = some d) (hs : ∀ fs, d ≠ .struct fs) (hn : ∀ n el, d ≠ .array n el) (hc : w.cell? ad = some v) :
    (loadVar t ad).run P w = .ok v w := by
  cases d <;> first
    | exact absurd rfl (hs _)
    | exact absurd rfl (hn _ _)
    | simp [loadVar, isAgg, run_underlying hd, hc]

theorem run_loadVar_agg {t : TypeId} {d : TypeDesc} {b o n : Nat} {f : Nat → Value} (hd : P.underlying t = some d) (hs : (∃ fs, d = .struct fs) ∨ ∃ n el, d = .array n el) (hi : sizeOf? P t = some n)
    (hc : ∀ j, j < n → w.cell? ⟨b, o + j, none⟩ = some (f j)) :
    (loadVar t ⟨b, o, none⟩).run P w = .ok (.agg ((List.range n).map f).toArray) w := by
  have hl := run_loadCells (P := P) w ⟨b, o, none⟩ n f (fun j hj => by rw [Addr.add_lit]; exact hc j hj)
  unfold sizeOf? at hi
  cases hi' : P.info? t with
  | none => simp [hi'] at hi
  | some i =>
    simp [hi'] at hi
    subst hi
    rcases hs with ⟨fs, rfl⟩ | ⟨m, el, rfl⟩ <;> simp [loadVar, isAgg, run_underlying hd, sizeOf, typeInfo, hi', hl]

theorem range_getD (n : Nat) (f : Nat → Value) (j : Nat) (hj : j < n) : (((List.range n).map f).toArray).getD j undef = f j := by
  simp [List.getElem?_range, hj]

theorem box_cells (h : Rel base w0 ok0 e a w G) {d g : Nat} {l : List AV} (hk : e.ok? d g = some (.box l)) :
    ∃ b vs T, G.sv d = .pointer (some ⟨b, 0, none⟩) ∧ base ≤ b ∧ w.heap[b]? = some (.cells vs T (0, 0)) ∧ vs.size = l.length ∧
      (∀ j, j < l.length → RepT w G e (vs.getD j undef) (l.getD j .unk) ∧ (l.getD j .unk).cell1 = true) ∧ (∀ o, ¬ G.ok b o) ∧ ∀ j, j < l.length → w.cell? ⟨b, j, none⟩ = some (vs.getD j undef) := by
  have hkk := Env.ok?_eq hk
  have ho := h.objs d hkk.1
  rw [hkk.2.2] at ho
  obtain ⟨b, vs, T, h1, h2, h3, h4, h5, h6⟩ := ho
  refine ⟨b, vs, T, h1, h2, h3, h4, h5, h6, fun j hj => ?_⟩
  rw [cell_of_row w b j vs T (0, 0) h3]
  simp [Array.getElem?_eq_getElem (show j < vs.size by omega)]

theorem row_cells (h : Rel base w0 ok0 e a w G) {d g E c f : Nat} {l : List (List AV)} (hk : e.ok? d g = some (.row E c f l)) :
    f ≤ l.length ∧ (∀ i, i < l.length → (l.getD i []).length = c) ∧ ∃ xs : List Value, w.ownsRow base E c (G.sv d) l.length xs ∧
      (∀ i j, i < l.length → j < c → RepR w G.ok (xs.getD (i * c + j) undef) ((l.getD i []).getD j .unk) ∧ ((l.getD i []).getD j .unk).pure = true) ∧
      (∀ b, blkOf (G.sv d) = some b → ∀ o, G.ok b o → o < f * c) ∧
      ∀ b, blkOf (G.sv d) = some b → ∀ i j, i < l.length → j < c → w.cell? ⟨b, i * c + j, none⟩ = some (xs.getD (i * c + j) undef) := by
  have hkk := Env.ok?_eq hk
  have ho := h.objs d hkk.1
  rw [hkk.2.2] at ho
  obtain ⟨h1, h2, xs, h3, h4, h5⟩ := ho
  refine ⟨h1, h2, xs, h3, h4, h5, fun b hb i j hi hj => ?_⟩
  have hlt' : i * c + j < xs.length := by
    rw [h3.1]
    have : (i + 1) * c ≤ l.length * c := Nat.mul_le_mul_right c hi
    rw [Nat.add_mul] at this; omega
  have hcell := h3.cells (g := b) (ownBlock_blkOf h3 hb).1 (i * c + j) (xs.getD (i * c + j) undef) (by simp [List.getD_eq_getElem?_getD, List.getElem?_eq_getElem hlt'])
  rwa [Addr.add_lit, Nat.zero_add] at hcell

theorem drop_take_getD (l : List AV) (off n j : Nat) (hj : j < n) (h : off + n ≤ l.length) : ((l.drop off).take n).getD j .unk = l.getD (off + j) .unk := by
  simp [List.getD_eq_getElem?_getD, List.getElem?_take, List.getElem?_drop, hj]

theorem take_drop_len (l : List AV) (off n : Nat) (h : off + n ≤ l.length) : ((l.drop off).take n).length = n := by
  simp; omega

theorem sim_ld1 (h : Rel base w0 ok0 e a w G) {x : Operand} {x' : X} {t : TypeId} {d : TypeDesc} (hx : compX x = some x') (ho : o.op = .load t x) (hd : P.underlying t = some d) (hs : ∀ fs, d ≠ .struct fs) (hn : ∀ n el, d ≠ .array n el)
    (he : evalO R e o.dst (.ld none x') = some e') (hK : ∀ a' w' G', Rel base w0 ok0 e' a' w' G' → K a' w') : o.wp P a w K Q := by
  simp only [evalO, act] at he
  have h1 := compX_rep hx h
  have fin : ∀ {ad : Addr} {v : Value} {A : AV}, a.eval x = .pointer (some ad) → w.cell? ad = some v → RepT w G e v A → applyRes (e.freeze []) o.dst (.val A) = some e' → o.wp P a w K Q := by
    intro ad v A hv hc hr he
    refine sim_val0 h (v := v) ?_ hr he hK
    have hl := run_loadVar_one (P := P) hd hs hn hc
    simp only [execOp, ho, hv, Instr.loadAt, Instr.sureAddr, Sem.run_bind, Sem.run_pure, Result.andThen_ok, hl]
  cases hgx : e.get x' <;> simp only [hgx] at he h1 <;> try (cases he; done)
  case ptr d' g off =>
    cases hk : e.ok? d' g with
    | none => simp [hk] at he
    | some k =>
      cases k <;> simp only [hk] at he <;> try (cases he; done)
      rename_i l
      cases hl : l[off]? with
      | none => simp [hl] at he
      | some A =>
        simp only [hl, Option.map_some] at he
        obtain ⟨b, vs, T, q1, q2, q3, q4, q5, q6, q7⟩ := box_cells h hk
        obtain ⟨b', q1', hv⟩ := h1.2.2 l hk
        have : b = b' := by rw [q1] at q1'; simpa using q1'
        subst this
        have hlt : off < l.length := (List.getElem?_eq_some_iff.1 hl).1
        have hA : l.getD off .unk = A := by simp [List.getD_eq_getElem?_getD, hl]
        exact fin hv (q7 off hlt) (by rw [← hA]; exact (q5 off hlt).1) he
  case rp d' g i j =>
    cases hk : e.ok? d' g with
    | none => simp [hk] at he
    | some k =>
      cases k <;> simp only [hk] at he <;> try (cases he; done)
      rename_i E c f l
      cases hl : (l.getD i [])[j]? with
      | none => simp only [hl] at he; cases he
      | some A =>
        simp only [hl] at he
        by_cases hpu : A.pure = true
        case neg => rw [if_neg hpu] at he; cases he
        rw [if_pos hpu] at he
        obtain ⟨q1, q2, xs, q3, q4, q5, q6⟩ := row_cells h hk
        obtain ⟨b, n, cap, hsv, hv⟩ := h1.2.2 E c f l hk
        have hj : j < (l.getD i []).length := (List.getElem?_eq_some_iff.1 hl).1
        have hi : i < l.length := by
          rcases Nat.lt_or_ge i l.length with hi | hi
          · exact hi
          · simp [List.getD_eq_getElem?_getD, List.getElem?_eq_none hi] at hj
        rw [q2 i hi] at hj
        have hA : (l.getD i []).getD j .unk = A := by rw [List.getD_eq_getElem?_getD, hl]; rfl
        exact fin hv (q6 b (by rw [hsv]; rfl) i j hi hj) (by rw [← hA]; exact (q4 i j hi hj).1.toT) he
  case el l =>
    obtain ⟨b, o', u, hv, hc, hp, hr⟩ := inv_el h1
    cases hl : l[0]? with
    | none => simp [hl] at he
    | some A =>
      simp only [hl] at he
      by_cases hpu : A.pure = true
      case neg => rw [if_neg hpu] at he; cases he
      rw [if_pos hpu] at he
      have hlt : 0 < l.length := (List.getElem?_eq_some_iff.1 hl).1
      have hA : l.getD 0 .unk = A := by simp [List.getD_eq_getElem?_getD, hl]
      exact fin hv (by have := (hc 0 hlt).2; rwa [Nat.add_zero] at this) (by rw [← hA]; exact (hr 0 hlt).toT) he

theorem sim_ldn (h : Rel base w0 ok0 e a w G) {x : Operand} {x' : X} {t : TypeId} {d : TypeDesc} {n : Nat} (hx : compX x = some x') (ho : o.op = .load t x) (hd : P.underlying t = some d) (hs : (∃ fs, d = .struct fs) ∨ ∃ n el, d = .array n el)
    (hi : sizeOf? P t = some n)
    (he : evalO R e o.dst (.ld (some n) x') = some e') (hK : ∀ a' w' G', Rel base w0 ok0 e' a' w' G' → K a' w') : o.wp P a w K Q := by
  simp only [evalO, act] at he
  have h1 := compX_rep hx h
  have fin : ∀ {b off : Nat} {f : Nat → Value} {m : List AV} {ks : List Nat}, a.eval x = .pointer (some ⟨b, off, none⟩) → (∀ j, j < n → w.cell? ⟨b, off + j, none⟩ = some (f j)) → m.length = n →
      (∀ j, j < n → RepR w (G.frz e ks).ok (f j) (m.getD j .unk) ∧ (m.getD j .unk).pure = true) → applyRes (e.freeze ks) o.dst (.val (.agg m)) = some e' → o.wp P a w K Q := by
    intro b off f m ks hv hc hm hr he
    refine sim_val h (v := .agg ((List.range n).map f).toArray) ?_ ?_ he hK
    · have hl := run_loadVar_agg (P := P) hd hs hi hc
      simp only [execOp, ho, hv, Instr.loadAt, Instr.sureAddr, Sem.run_bind, Sem.run_pure, Result.andThen_ok, hl]
    · refine RepR.toT (.agg _ _ (by simp [hm]) (fun j hj => (hr j (by omega)).2) (fun j hj => ?_))
      rw [range_getD n f j (by omega)]
      exact (hr j (by omega)).1
  cases hgx : e.get x' <;> simp only [hgx] at he h1 <;> try (cases he; done)
  case ptr d' g off =>
    cases hk : e.ok? d' g with
    | none => simp [hk] at he
    | some k =>
      cases k <;> simp only [hk] at he <;> try (cases he; done)
      rename_i l
      by_cases hb : off + n ≤ l.length
      case neg => simp [hb] at he
      simp only [hb, if_true] at he
      cases hvs : e.views ((l.drop off).take n) with
      | none => simp [hvs] at he
      | some r =>
        obtain ⟨m, ks⟩ := r
        simp only [hvs] at he
        obtain ⟨b, vs, T, q1, q2, q3, q4, q5, q6, q7⟩ := box_cells h hk
        obtain ⟨b', q1', hv⟩ := h1.2.2 l hk
        have : b = b' := by rw [q1] at q1'; simpa using q1'
        subst this
        obtain ⟨i1, i2⟩ := views_rep h (vs := fun j => vs.getD (off + j) undef) (fun j hj => by
          rw [take_drop_len l off n hb] at hj
          rw [drop_take_getD l off n j hj hb]
          exact (q5 (off + j) (by omega)).1) hvs
        rw [take_drop_len l off n hb] at i1
        exact fin hv (fun j hj => q7 (off + j) (by omega)) i1 (fun j hj => i2 j (by omega)) he
  case rp d' g i j0 =>
    cases hk : e.ok? d' g with
    | none => simp [hk] at he
    | some k =>
      cases k <;> simp only [hk] at he <;> try (cases he; done)
      rename_i E c f l
      by_cases hb0 : j0 + n ≤ (l.getD i []).length ∧ (((l.getD i []).drop j0).take n).all AV.pure = true
      case neg => rw [if_neg hb0] at he; cases he
      rw [if_pos hb0] at he
      have hb := hb0.1
      simp only at he
      obtain ⟨q1, q2, xs, q3, q4, q5, q6⟩ := row_cells h hk
      obtain ⟨b, n', cap, hsv, hv⟩ := h1.2.2 E c f l hk
      by_cases hn0 : n = 0
      · subst hn0
        exact fin (f := fun _ => undef) (m := ((l.getD i []).drop j0).take 0) hv (fun j hj => absurd hj (by omega)) (by simp) (fun j hj => absurd hj (by omega)) he
      have hi' : i < l.length := by
        rcases Nat.lt_or_ge i l.length with hi | hi
        · exact hi
        · simp [List.getD_eq_getElem?_getD, List.getElem?_eq_none hi] at hb; omega
      have hc' := q2 i hi'
      refine fin (f := fun j => xs.getD (i * c + (j0 + j)) undef) hv (fun j hj => ?_) (take_drop_len _ _ _ hb) (fun j hj => ?_) he
      · rw [Nat.add_assoc]; exact q6 b (by rw [hsv]; rfl) i (j0 + j) hi' (by omega)
      · rw [drop_take_getD _ _ _ _ hj hb]
        exact q4 i (j0 + j) hi' (by omega)
  case el l =>
    obtain ⟨b, o', u, hv, hc, hp, hr⟩ := inv_el h1
    by_cases hb0 : n ≤ l.length ∧ (l.take n).all AV.pure = true
    case neg => rw [if_neg hb0] at he; cases he
    rw [if_pos hb0] at he
    have hb := hb0.1
    have ht : ∀ j, j < n → (l.take n).getD j .unk = l.getD j .unk := fun j hj => by simp [List.getD_eq_getElem?_getD, List.getElem?_take, hj]
    exact fin (ks := []) hv (fun j hj => (hc j (by omega)).2) (by simp; omega) (fun j hj => by rw [ht j hj]; exact ⟨hr j (by omega), hp j (by omega)⟩) he

theorem sim_fa (h : Rel base w0 ok0 e a w G) {x : Operand} {x' : X} {s : TypeId} {f n : Nat} {fields : Array Field} {fd : Field} (hx : compX x = some x') (ho : o.op = .fieldAddr s x f) (hs : P.underlying s = some (.struct fields)) (hf : fields[f]? = some fd)
    (hsz : sizeOf? P fd.type = some n) (hn : n ≠ 0)
    (he : evalO R e o.dst (.fa fd.offset n x') = some e') (hK : ∀ a' w' G', Rel base w0 ok0 e' a' w' G' → K a' w') : o.wp P a w K Q := by
  simp only [evalO, act] at he
  have h1 := compX_rep hx h
  have hrun : ∀ b off, a.eval x = .pointer (some ⟨b, off, none⟩) → (execOp a.eval o).run P w = .ok (.value (.pointer (some ⟨b, off + fd.offset, none⟩))) w := by
    intro b off hv
    unfold sizeOf? at hsz
    cases hi' : P.info? fd.type with
    | none => simp [hi'] at hsz
    | some i =>
      simp [hi'] at hsz
      simp [execOp, ho, hv, Instr.fieldAt, run_underlying hs, hf, Instr.sureAddr, fieldPlace, sizeOf, typeInfo, hi', hsz, hn, Addr.add_lit]
  cases hgx : e.get x' <;> simp only [hgx] at he h1 <;> try (cases he; done)
  case ptr d' g off =>
    cases hk : e.ok? d' g with
    | none => simp [hk] at he
    | some k =>
      cases k <;> simp only [hk] at he <;> try (cases he; done)
      obtain ⟨b, q1, hv⟩ := h1.2.2 _ hk
      exact sim_val0 h (A := .ptr d' g (off + fd.offset)) (hrun b off hv) ⟨h1.1, h1.2.1, fun l' hk' => ⟨b, q1, rfl⟩⟩ he hK
  case rp d' g i j =>
    cases hk : e.ok? d' g with
    | none => simp [hk] at he
    | some k =>
      cases k <;> simp only [hk] at he <;> try (cases he; done)
      obtain ⟨b, n', cap, q1, hv⟩ := h1.2.2 _ _ _ _ hk
      refine sim_val0 h (A := .rp d' g i (j + fd.offset)) (hrun b _ hv) ⟨h1.1, h1.2.1, fun E' c' f'' l' hk' => ⟨b, n', cap, q1, ?_⟩⟩ he hK
      rw [hk] at hk'
      cases hk'
      rw [Nat.add_assoc]
  case el l =>
    obtain ⟨b, o', u, hv, hc, hp, hr⟩ := inv_el h1
    have hg : ∀ j, j < ((l.drop fd.offset).take n).length → ((l.drop fd.offset).take n).getD j .unk = l.getD (fd.offset + j) .unk ∧ fd.offset + j < l.length := fun j hj => by
      simp at hj
      have hjn : j < n := by omega
      refine ⟨?_, by omega⟩
      simp [List.getD_eq_getElem?_getD, List.getElem?_take, List.getElem?_drop, hjn]
    refine sim_val0 h (hrun b o' hv) (RepR.toT (.el b (o' + fd.offset) _ (fun j => u (fd.offset + j)) (fun j hj => ?_) (fun j hj => ?_) (fun j hj => ?_))) he hK
    · rw [Nat.add_assoc]; exact hc _ (hg j hj).2
    · rw [(hg j hj).1]; exact hp _ (hg j hj).2
    · rw [(hg j hj).1]; exact hr _ (hg j hj).2

end
end Go.Bv
