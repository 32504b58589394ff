/- BY VALUE, part 2: what it means that values of the machine, in a world, are told by values. -/
import Derived.Test.YtnfmilnlekmjgaaBvCore
import Derived.Below
import Derived.Laws.AppendOwn
import Derived.Orders
namespace Go.Bv
open Go.RowKit

/-- 'ok b o': cell 'o' of block 'b' is never written any more. -/
inductive RepR (w : World) (ok : Nat → Nat → Prop) : Value → AV → Prop where
  | unk (v : Value) : RepR w ok v .unk
  | und : RepR w ok undef .und
  | int (k : IntKind) (n : Int) : RepR w ok (.int k n) (.int k n)
  | bool (b : Bool) : RepR w ok (.bool b) (.bool b)
  | str (s : ByteArray) : RepR w ok (.string s) (.str s)
  | nil : RepR w ok (.slice none 0 0) .nil
  | sl0 (a : Option Addr) (cap : Nat) : RepR w ok (.slice a 0 cap) (.sl [])
  | sl (b o cap c : Nat) (l : List (List AV)) (u : Nat → Nat → Value)
      (hcap : l.length ≤ cap) (hc : ∀ i, i < l.length → (l.getD i []).length = c)
      (hcell : ∀ i j, i < l.length → j < c → ok b (o + i * c + j) ∧ w.cell? ⟨b, o + i * c + j, none⟩ = some (u i j))
      (hpure : ∀ i j, i < l.length → j < c → ((l.getD i []).getD j .unk).pure = true)
      (hrep : ∀ i j, i < l.length → j < c → RepR w ok (u i j) ((l.getD i []).getD j .unk)) :
      RepR w ok (.slice (some ⟨b, o, none⟩) l.length cap) (.sl l)
  | agg (vs : Array Value) (l : List AV) (hs : vs.size = l.length)
      (hpure : ∀ j, j < l.length → (l.getD j .unk).pure = true)
      (hrep : ∀ j, j < l.length → RepR w ok (vs.getD j undef) (l.getD j .unk)) : RepR w ok (.agg vs) (.agg l)
  | tup (vs : Array Value) (l : List AV) (hs : vs.size = l.length)
      (hrep : ∀ j, j < l.length → RepR w ok (vs.getD j undef) (l.getD j .unk)) : RepR w ok (.tuple vs) (.tup l)
  | el (b o : Nat) (l : List AV) (u : Nat → Value)
      (hcell : ∀ j, j < l.length → ok b (o + j) ∧ w.cell? ⟨b, o + j, none⟩ = some (u j))
      (hpure : ∀ j, j < l.length → (l.getD j .unk).pure = true)
      (hrep : ∀ j, j < l.length → RepR w ok (u j) (l.getD j .unk)) : RepR w ok (.pointer (some ⟨b, o, none⟩)) (.el l)
  | raw (v : Value) : RepR w ok v (.raw v)

theorem RepR.mono {w w' : World} {ok ok' : Nat → Nat → Prop} (h1 : ∀ b o, ok b o → ok' b o) (h2 : ∀ b o, ok b o → w'.cell? ⟨b, o, none⟩ = w.cell? ⟨b, o, none⟩)
    {v : Value} {A : AV} (h : RepR w ok v A) : RepR w' ok' v A := by
  induction h with
  | unk v => exact .unk v
  | und => exact .und
  | int k n => exact .int k n
  | bool b => exact .bool b
  | str s => exact .str s
  | nil => exact .nil
  | sl0 a cap => exact .sl0 a cap
  | sl b o cap c l u hcap hc hcell hpure _ ih =>
    exact .sl b o cap c l u hcap hc (fun i j hi hj => ⟨h1 _ _ (hcell i j hi hj).1, by rw [h2 _ _ (hcell i j hi hj).1]; exact (hcell i j hi hj).2⟩) hpure ih
  | agg vs l hs hpure _ ih => exact .agg vs l hs hpure ih
  | tup vs l hs _ ih => exact .tup vs l hs ih
  | el b o l u hcell hpure _ ih =>
    exact .el b o l u (fun j hj => ⟨h1 _ _ (hcell j hj).1, by rw [h2 _ _ (hcell j hj).1]; exact (hcell j hj).2⟩) hpure ih
  | raw v => exact .raw v

theorem RepR.oneCell {w : World} {ok : Nat → Nat → Prop} {v : Value} {A : AV} (h : RepR w ok v A) (hp : A.pure = true) : v.oneCell' = true := by
  cases h <;> simp [AV.pure] at hp <;> rfl

theorem AV.pure_cell1 {A : AV} (h : A.pure = true) : A.cell1 = true := by
  cases A <;> simp [AV.pure] at h <;> rfl

/-- What stands behind the keys: the value that leads there; and which cells are never written any more. -/
structure Gh where
  sv : Nat → Value
  ok : Nat → Nat → Prop

def RepT (w : World) (G : Gh) (e : Env) (v : Value) : AV → Prop
  | .own d g => d < e.objs.length ∧ g ≤ e.gen d ∧ ∀ E c f l, e.ok? d g = some (.row E c f l) → v = G.sv d
  | .ptr d g off => d < e.objs.length ∧ g ≤ e.gen d ∧ ∀ l, e.ok? d g = some (.box l) → ∃ b, G.sv d = .pointer (some ⟨b, 0, none⟩) ∧ v = .pointer (some ⟨b, off, none⟩)
  | .rp d g i j => d < e.objs.length ∧ g ≤ e.gen d ∧ ∀ E c f l, e.ok? d g = some (.row E c f l) → ∃ b n cap, G.sv d = .slice (some ⟨b, 0, none⟩) n cap ∧ v = .pointer (some ⟨b, i * c + j, none⟩)
  | A => RepR w G.ok v A

def blkOf : Value → Option Nat
  | .slice (some a) _ _ => some a.block
  | .pointer (some a) => some a.block
  | _ => none

def RepObj (w : World) (G : Gh) (e : Env) (base d : Nat) : OK → Prop
  | .dead => True
  | .box l => ∃ b vs T, G.sv d = .pointer (some ⟨b, 0, none⟩) ∧ base ≤ b ∧ w.heap[b]? = some (.cells vs T (0, 0)) ∧ vs.size = l.length ∧
      (∀ j, j < l.length → RepT w G e (vs.getD j undef) (l.getD j .unk) ∧ (l.getD j .unk).cell1 = true) ∧ ∀ o, ¬ G.ok b o
  | .row E c f l => f ≤ l.length ∧ (∀ i, i < l.length → (l.getD i []).length = c) ∧
      ∃ xs : List Value, w.ownsRow base E c (G.sv d) l.length xs ∧
      (∀ i j, i < l.length → j < c → RepR w G.ok (xs.getD (i * c + j) undef) ((l.getD i []).getD j .unk) ∧ ((l.getD i []).getD j .unk).pure = true) ∧
      ∀ b, blkOf (G.sv d) = some b → ∀ o, G.ok b o → o < f * c

def OK.live : OK → Bool
  | .dead => false
  | _ => true

structure Rel (base : Nat) (w0 : World) (ok0 : Nat → Nat → Prop) (e : Env) (a : Act) (w : World) (G : Gh) : Prop where
  below : Below base w0 w
  base_le : base ≤ w.heap.size
  size : a.tmps.size = e.tmps.length
  tmps : ∀ t, t < e.tmps.length → RepT w G e (a.tmps.getD t undef) (e.tmps.getD t .unk)
  defers : a.defers = []
  okb : ∀ b o, G.ok b o → b < w.heap.size
  ok0 : ∀ b o, b < base → (G.ok b o ↔ ok0 b o)
  objs : ∀ d, d < e.objs.length → RepObj w G e base d (e.kind d)
  inj : ∀ d d', d < e.objs.length → d' < e.objs.length → (e.kind d).live = true → (e.kind d').live = true → ∀ b, blkOf (G.sv d) = some b → blkOf (G.sv d') = some b → d = d'

/-! ### Environments that tell the same of what is there -/
theorem Env.ok?_eq {e : Env} {d g : Nat} {k : OK} (h : e.ok? d g = some k) : d < e.objs.length ∧ e.gen d = g ∧ e.kind d = k := by
  unfold Env.ok? at h
  cases ho : e.objs[d]? with
  | none => simp [ho] at h
  | some o =>
    simp only [ho] at h
    have hlt := (List.getElem?_eq_some_iff.1 ho).1
    by_cases hg : o.gen = g
    · rw [if_pos hg] at h
      refine ⟨hlt, ?_, ?_⟩
      · simp [Env.gen, ho, hg]
      · simpa [Env.kind, ho] using h
    · rw [if_neg hg] at h; cases h

theorem Env.ok?_of {e : Env} {d g : Nat} (hd : d < e.objs.length) (hg : e.gen d = g) : e.ok? d g = some (e.kind d) := by
  unfold Env.ok? Env.kind
  unfold Env.gen at hg
  rw [List.getElem?_eq_getElem hd] at hg ⊢
  simp only at hg ⊢
  rw [if_pos hg]

/-- 'e'' knows no more than 'e' of what references lead to. -/
structure Weaker (e e' : Env) : Prop where
  len : e'.objs.length = e.objs.length
  gen : ∀ d, e.gen d ≤ e'.gen d
  row : ∀ d g E c f l, g ≤ e.gen d → e'.ok? d g = some (.row E c f l) → ∃ f' l', e.ok? d g = some (.row E c f' l')
  box : ∀ d g l, g ≤ e.gen d → e'.ok? d g = some (.box l) → ∃ l', e.ok? d g = some (.box l')

theorem RepT.mono {w w' : World} {G G' : Gh} {e e' : Env} (hw : Weaker e e') (h1 : ∀ b o, G.ok b o → G'.ok b o) (h2 : ∀ b o, G.ok b o → w'.cell? ⟨b, o, none⟩ = w.cell? ⟨b, o, none⟩)
    (h3 : ∀ d g k, e'.ok? d g = some k → g ≤ e.gen d → k.live = true → G'.sv d = G.sv d) {v : Value} {A : AV} (h : RepT w G e v A) : RepT w' G' e' v A := by
  cases A
  case own d g =>
    obtain ⟨hd, hg, hr⟩ := h
    refine ⟨by rw [hw.len]; exact hd, Nat.le_trans hg (hw.gen d), fun E c f l hk => ?_⟩
    obtain ⟨f', l', hk'⟩ := hw.row d g E c f l hg hk
    rw [h3 d g _ hk hg rfl]
    exact hr E c f' l' hk'
  case ptr d g off =>
    obtain ⟨hd, hg, hr⟩ := h
    refine ⟨by rw [hw.len]; exact hd, Nat.le_trans hg (hw.gen d), fun l hk => ?_⟩
    obtain ⟨l', hk'⟩ := hw.box d g l hg hk
    rw [h3 d g _ hk hg rfl]
    exact hr l' hk'
  case rp d g i j =>
    obtain ⟨hd, hg, hr⟩ := h
    refine ⟨by rw [hw.len]; exact hd, Nat.le_trans hg (hw.gen d), fun E c f l hk => ?_⟩
    obtain ⟨f', l', hk'⟩ := hw.row d g E c f l hg hk
    rw [h3 d g _ hk hg rfl]
    exact hr E c f' l' hk'
  all_goals exact RepR.mono h1 h2 h

theorem Weaker.refl (e : Env) : Weaker e e := ⟨rfl, fun _ => Nat.le_refl _, fun _ _ _ _ f l _ h => ⟨f, l, h⟩, fun _ _ l _ h => ⟨l, h⟩⟩

/-- Nothing but a temporary turns. -/
theorem RepT.tmps {w : World} {G : Gh} {e e' : Env} (h : e'.objs = e.objs) {v : Value} {A : AV} (hr : RepT w G e v A) : RepT w G e' v A := by
  have h1 : ∀ d g, e'.ok? d g = e.ok? d g := fun d g => by simp [Env.ok?, h]
  have h2 : ∀ d, e'.gen d = e.gen d := fun d => by simp [Env.gen, h]
  cases A <;> first
    | exact hr
    | (simp only [RepT, h1, h2, h] at hr ⊢; exact hr)

theorem RepObj.tmps {w : World} {G : Gh} {e e' : Env} (h : e'.objs = e.objs) {base d : Nat} {k : OK} (hr : RepObj w G e base d k) : RepObj w G e' base d k := by
  cases k with
  | dead => trivial
  | row E c f l => exact hr
  | box l =>
    obtain ⟨b, vs, T, h1, h2, h3, h4, h5, h6⟩ := hr
    exact ⟨b, vs, T, h1, h2, h3, h4, fun j hj => ⟨(h5 j hj).1.tmps h, (h5 j hj).2⟩, h6⟩

theorem getD_set_eq {α : Type} (l : List α) (t : Nat) (x d : α) (h : t < l.length) : (l.set t x).getD t d = x := by
  simp [List.getD_eq_getElem?_getD, h]
theorem getD_set_ne' {α : Type} (l : List α) (t s : Nat) (x d : α) (h : t ≠ s) : (l.set t x).getD s d = l.getD s d := by
  simp [List.getD_eq_getElem?_getD, h]
theorem agetD_set_eq {α : Type} (l : Array α) (t : Nat) (x d : α) (h : t < l.size) : (l.setIfInBounds t x).getD t d = x := by
  simp [h]
theorem agetD_set_ne {α : Type} (l : Array α) (t s : Nat) (x d : α) (h : t ≠ s) : (l.setIfInBounds t x).getD s d = l.getD s d := by
  simp [h]

section
variable {base : Nat} {w0 : World} {ok0 : Nat → Nat → Prop} {e : Env} {a : Act} {w : World} {G : Gh}

theorem Env.put_objs (e : Env) (dst : Option Nat) (A : AV) : (e.put dst A).objs = e.objs := by cases dst <;> rfl

theorem Rel.put (h : Rel base w0 ok0 e a w G) (dst : Option Nat) {v : Value} {A : AV} (hv : RepT w G e v A) : Rel base w0 ok0 (e.put dst A) (a.put dst v) w G := by
  have ho := Env.put_objs e dst A
  have hk : ∀ d, (e.put dst A).kind d = e.kind d := fun d => by simp [Env.kind, ho]
  refine ⟨h.below, h.base_le, ?_, ?_, ?_, h.okb, h.ok0, fun d hd => by rw [hk]; rw [ho] at hd; exact (h.objs d hd).tmps ho, fun d d' hd hd' => by rw [hk, hk]; rw [ho] at hd hd'; exact h.inj d d' hd hd'⟩
  · cases dst with
    | none => exact h.size
    | some d => simpa [Act.put, Env.put] using h.size
  · intro t ht
    cases dst with
    | none => exact h.tmps t ht
    | some d =>
      have ht' : t < e.tmps.length := by simpa [Env.put] using ht
      by_cases hdt : d = t
      · subst hdt
        simp only [Act.put, Env.put]
        rw [agetD_set_eq _ _ _ _ (by rw [h.size]; exact ht'), getD_set_eq _ _ _ _ ht']
        exact hv.tmps ho
      · simp only [Act.put, Env.put]
        rw [agetD_set_ne _ _ _ _ _ hdt, getD_set_ne' _ _ _ _ _ hdt]
        exact (h.tmps t ht').tmps ho
  · cases dst with
    | none => exact h.defers
    | some d => exact h.defers

def X.op (f : AV → Value) : X → Operand
  | .t n => .tmp n
  | .c A => .const (f A)
end

end Go.Bv
