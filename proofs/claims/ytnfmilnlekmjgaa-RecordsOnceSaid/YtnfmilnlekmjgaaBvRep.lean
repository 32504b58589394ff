/- BY VALUE, part 2: what it means that values of the machine, in a world, are told by values. -/
import Derived.Test.YtnfmilnlekmjgaaBvCore
import Derived.Below
import Derived.Laws.AppendOwn
import Derived.Orders
namespace Go.Bv
open Go.RowKit

/-- Cell 'o' of block 'b' reads as before, and a map there is as it was. -/
def SameAt (w w' : World) (b o : Nat) : Prop := w'.cell? ⟨b, o, none⟩ = w.cell? ⟨b, o, none⟩ ∧ ∀ es c, w.heap[b]? = some (.map es c) → w'.heap[b]? = some (.map es c)
theorem SameAt.of_block {w w' : World} {b o : Nat} (h : w'.heap[b]? = w.heap[b]?) : SameAt w w' b o := ⟨World.cell?_of_block h, fun _ _ hh => h.trans hh⟩
theorem SameAt.refl {w : World} {b o : Nat} : SameAt w w b o := ⟨rfl, fun _ _ h => h⟩
/-- An entry of a map of bools. -/
def entV : List AV → Value × Value
  | [.str s, .bool b] => (.string s, .bool b)
  | _ => (undef, undef)

/-- 'ok b o': cell 'o' of block 'b' is never written any more. -/
inductive RepR (w : World) (ok : Nat → Nat → Prop) : Value → AV → Prop where
  | unk (v : Value) : RepR w ok v .unk
  | und : RepR w ok undef .und
  | int (k : IntKind) (n : Int) : RepR w ok (.int k n) (.int k n)
  | bool (b : Bool) : RepR w ok (.bool b) (.bool b)
  | str (s : ByteArray) : RepR w ok (.string s) (.str s)
  | nil : RepR w ok (.slice none 0 0) .nil
  | sl0 (a : Option Addr) (cap : Nat) : RepR w ok (.slice a 0 cap) (.sl [])
  | sl (b o cap c : Nat) (l : List (List AV)) (u : Nat → Nat → Value)
      (hcap : l.length ≤ cap) (hc : ∀ i, i < l.length → (l.getD i []).length = c)
      (hcell : ∀ i j, i < l.length → j < c → ok b (o + i * c + j) ∧ w.cell? ⟨b, o + i * c + j, none⟩ = some (u i j))
      (hpure : ∀ i j, i < l.length → j < c → ((l.getD i []).getD j .unk).pure = true)
      (hrep : ∀ i j, i < l.length → j < c → RepR w ok (u i j) ((l.getD i []).getD j .unk)) :
      RepR w ok (.slice (some ⟨b, o, none⟩) l.length cap) (.sl l)
  | agg (vs : Array Value) (l : List AV) (hs : vs.size = l.length)
      (hpure : ∀ j, j < l.length → (l.getD j .unk).pure = true)
      (hrep : ∀ j, j < l.length → RepR w ok (vs.getD j undef) (l.getD j .unk)) : RepR w ok (.agg vs) (.agg l)
  | tup (vs : Array Value) (l : List AV) (hs : vs.size = l.length)
      (hrep : ∀ j, j < l.length → RepR w ok (vs.getD j undef) (l.getD j .unk)) : RepR w ok (.tuple vs) (.tup l)
  | el (b o : Nat) (l : List AV) (u : Nat → Value)
      (hcell : ∀ j, j < l.length → ok b (o + j) ∧ w.cell? ⟨b, o + j, none⟩ = some (u j))
      (hpure : ∀ j, j < l.length → (l.getD j .unk).pure = true)
      (hrep : ∀ j, j < l.length → RepR w ok (u j) (l.getD j .unk)) : RepR w ok (.pointer (some ⟨b, o, none⟩)) (.el l)
  | raw (v : Value) : RepR w ok v (.raw v)
  | mp (r clock : Nat) (es : Array MapEntry) (l : List (List AV)) (hok : ok r 0) (hm : w.heap[r]? = some (.map es clock))
      (he : es.toList.map (fun x => (x.key, x.val)) = l.map entV) (hl : ∀ x ∈ l, ∃ s b, x = [.str s, .bool b]) : RepR w ok (.map (some r)) (.mp l)
  | fn (f : Nat) (vs : Array Value) (l : List AV) (hs : vs.size = l.length) (hp : ∀ j, j < l.length → (l.getD j .unk).pure = true ∨ ∃ m, l.getD j .unk = .agg m)
      (hrep : ∀ j, j < l.length → RepR w ok (vs.getD j undef) (l.getD j .unk)) : RepR w ok (.func (.func f) #[] vs) (.fn f l)

theorem RepR.mono {w w' : World} {ok ok' : Nat → Nat → Prop} (h1 : ∀ b o, ok b o → ok' b o) (h2 : ∀ b o, ok b o → SameAt w w' b o)
    {v : Value} {A : AV} (h : RepR w ok v A) : RepR w' ok' v A := by
  induction h with
  | unk v => exact .unk v
  | und => exact .und
  | int k n => exact .int k n
  | bool b => exact .bool b
  | str s => exact .str s
  | nil => exact .nil
  | sl0 a cap => exact .sl0 a cap
  | sl b o cap c l u hcap hc hcell hpure _ ih =>
    exact .sl b o cap c l u hcap hc (fun i j hi hj => ⟨h1 _ _ (hcell i j hi hj).1, by rw [(h2 _ _ (hcell i j hi hj).1).1]; exact (hcell i j hi hj).2⟩) hpure ih
  | agg vs l hs hpure _ ih => exact .agg vs l hs hpure ih
  | tup vs l hs _ ih => exact .tup vs l hs ih
  | el b o l u hcell hpure _ ih =>
    exact .el b o l u (fun j hj => ⟨h1 _ _ (hcell j hj).1, by rw [(h2 _ _ (hcell j hj).1).1]; exact (hcell j hj).2⟩) hpure ih
  | raw v => exact .raw v
  | fn f vs l hs hp _ ih => exact .fn f vs l hs hp ih
  | mp r clock es l hok hm he hl => exact .mp r clock es l (h1 _ _ hok) ((h2 _ _ hok).2 es clock hm) he hl

theorem RepR.oneCell {w : World} {ok : Nat → Nat → Prop} {v : Value} {A : AV} (h : RepR w ok v A) (hp : A.pure = true) : v.oneCell' = true := by
  cases h <;> simp [AV.pure] at hp <;> rfl

theorem AV.pure_cell1 {A : AV} (h : A.pure = true) : A.cell1 = true := by
  cases A <;> simp [AV.pure] at h <;> rfl

/-- What stands behind the keys: the value that leads there; and which cells are never written any more. -/
structure Gh where
  sv : Nat → Value
  ok : Nat → Nat → Prop

def RepT (w : World) (G : Gh) (e : Env) (v : Value) : AV → Prop
  | .own d g => d < e.objs.length ∧ g ≤ e.gen d ∧ ∀ E c f l, e.ok? d g = some (.row E c f l) → v = G.sv d
  | .ptr d g off => d < e.objs.length ∧ g ≤ e.gen d ∧ ∀ l, e.ok? d g = some (.box l) → ∃ b, G.sv d = .pointer (some ⟨b, 0, none⟩) ∧ v = .pointer (some ⟨b, off, none⟩)
  | .rp d g i j => d < e.objs.length ∧ g ≤ e.gen d ∧ ∀ E c f l, e.ok? d g = some (.row E c f l) → ∃ b n cap, G.sv d = .slice (some ⟨b, 0, none⟩) n cap ∧ v = .pointer (some ⟨b, i * c + j, none⟩)
  | .aggo j d g l => d < e.objs.length ∧ g ≤ e.gen d ∧ ∃ vs : Array Value, v = .agg vs ∧ vs.size = l.length ∧ j < l.length ∧
      (∀ i, i < l.length → i ≠ j → RepR w G.ok (vs.getD i undef) (l.getD i .unk) ∧ (l.getD i .unk).pure = true) ∧ (∀ A ∈ l, A.pure = true) ∧ ∀ E c f m, e.ok? d g = some (.row E c f m) → vs.getD j undef = G.sv d
  | A => RepR w G.ok v A

def blkOf : Value → Option Nat
  | .slice (some a) _ _ => some a.block
  | .pointer (some a) => some a.block
  | _ => none

def RepObj (w : World) (G : Gh) (e : Env) (base d : Nat) : OK → Prop
  | .dead => True
  | .box l => ∃ b vs T, G.sv d = .pointer (some ⟨b, 0, none⟩) ∧ base ≤ b ∧ w.heap[b]? = some (.cells vs T (0, 0)) ∧ vs.size = l.length ∧
      (∀ j, j < l.length → RepT w G e (vs.getD j undef) (l.getD j .unk) ∧ (l.getD j .unk).cell1 = true) ∧ ∀ o, ¬ G.ok b o
  | .row E c f l => f ≤ l.length ∧ (∀ i, i < l.length → (l.getD i []).length = c) ∧
      ∃ xs : List Value, w.ownsRow base E c (G.sv d) l.length xs ∧
      (∀ i j, i < l.length → j < c → RepR w G.ok (xs.getD (i * c + j) undef) ((l.getD i []).getD j .unk) ∧ ((l.getD i []).getD j .unk).pure = true) ∧
      ∀ b, blkOf (G.sv d) = some b → ∀ o, G.ok b o → o < f * c

def OK.live : OK → Bool
  | .dead => false
  | _ => true

structure Rel (base : Nat) (w0 : World) (ok0 : Nat → Nat → Prop) (e : Env) (a : Act) (w : World) (G : Gh) : Prop where
  below : Below base w0 w
  base_le : base ≤ w.heap.size
  size : a.tmps.size = e.tmps.length
  tmps : ∀ t, t < e.tmps.length → RepT w G e (a.tmps.getD t undef) (e.tmps.getD t .unk)
  defers : a.defers = []
  okb : ∀ b o, G.ok b o → b < w.heap.size
  ok0 : ∀ b o, b < base → (G.ok b o ↔ ok0 b o)
  objs : ∀ d, d < e.objs.length → RepObj w G e base d (e.kind d)
  inj : ∀ d d', d < e.objs.length → d' < e.objs.length → (e.kind d).live = true → (e.kind d').live = true → ∀ b, blkOf (G.sv d) = some b → blkOf (G.sv d') = some b → d = d'

/-! ### Environments that tell the same of what is there -/
theorem Env.ok?_eq {e : Env} {d g : Nat} {k : OK} (h : e.ok? d g = some k) : d < e.objs.length ∧ e.gen d = g ∧ e.kind d = k := by
  unfold Env.ok? at h
  cases ho : e.objs[d]? with
  | none => simp [ho] at h
  | some o =>
    simp only [ho] at h
    have hlt := (List.getElem?_eq_some_iff.1 ho).1
    by_cases hg : o.gen = g
    · rw [if_pos hg] at h
      refine ⟨hlt, ?_, ?_⟩
      · simp [Env.gen, ho, hg]
      · simpa [Env.kind, ho] using h
    · rw [if_neg hg] at h; cases h

theorem Env.ok?_of {e : Env} {d g : Nat} (hd : d < e.objs.length) (hg : e.gen d = g) : e.ok? d g = some (e.kind d) := by
  unfold Env.ok? Env.kind
  unfold Env.gen at hg
  rw [List.getElem?_eq_getElem hd] at hg ⊢
  simp only at hg ⊢
  rw [if_pos hg]

/-- 'e'' knows no more than 'e' of what references lead to. -/
structure Weaker (e e' : Env) : Prop where
  len : e'.objs.length = e.objs.length
  gen : ∀ d, e.gen d ≤ e'.gen d
  row : ∀ d g E c f l, g ≤ e.gen d → e'.ok? d g = some (.row E c f l) → ∃ f' l', e.ok? d g = some (.row E c f' l')
  box : ∀ d g l, g ≤ e.gen d → e'.ok? d g = some (.box l) → ∃ l', e.ok? d g = some (.box l')

theorem RepT.mono {w w' : World} {G G' : Gh} {e e' : Env} (hw : Weaker e e') (h1 : ∀ b o, G.ok b o → G'.ok b o) (h2 : ∀ b o, G.ok b o → SameAt w w' b o)
    (h3 : ∀ d g k, e'.ok? d g = some k → g ≤ e.gen d → k.live = true → G'.sv d = G.sv d) {v : Value} {A : AV} (h : RepT w G e v A) : RepT w' G' e' v A := by
  cases A
  case own d g =>
    obtain ⟨hd, hg, hr⟩ := h
    refine ⟨by rw [hw.len]; exact hd, Nat.le_trans hg (hw.gen d), fun E c f l hk => ?_⟩
    obtain ⟨f', l', hk'⟩ := hw.row d g E c f l hg hk
    rw [h3 d g _ hk hg rfl]
    exact hr E c f' l' hk'
  case ptr d g off =>
    obtain ⟨hd, hg, hr⟩ := h
    refine ⟨by rw [hw.len]; exact hd, Nat.le_trans hg (hw.gen d), fun l hk => ?_⟩
    obtain ⟨l', hk'⟩ := hw.box d g l hg hk
    rw [h3 d g _ hk hg rfl]
    exact hr l' hk'
  case rp d g i j =>
    obtain ⟨hd, hg, hr⟩ := h
    refine ⟨by rw [hw.len]; exact hd, Nat.le_trans hg (hw.gen d), fun E c f l hk => ?_⟩
    obtain ⟨f', l', hk'⟩ := hw.row d g E c f l hg hk
    rw [h3 d g _ hk hg rfl]
    exact hr E c f' l' hk'
  case aggo j d g l =>
    obtain ⟨hd, hg, vs, q1, q2, q3, q4, q6, q5⟩ := h
    refine ⟨by rw [hw.len]; exact hd, Nat.le_trans hg (hw.gen d), vs, q1, q2, q3, fun i hi hij => ⟨RepR.mono h1 h2 (q4 i hi hij).1, (q4 i hi hij).2⟩, q6, fun E c f m hk => ?_⟩
    obtain ⟨f', l', hk'⟩ := hw.row d g E c f m hg hk
    rw [h3 d g _ hk hg rfl]
    exact q5 E c f' l' hk'
  all_goals exact RepR.mono h1 h2 h

theorem Weaker.refl (e : Env) : Weaker e e := ⟨rfl, fun _ => Nat.le_refl _, fun _ _ _ _ f l _ h => ⟨f, l, h⟩, fun _ _ l _ h => ⟨l, h⟩⟩

/-- Nothing but a temporary turns. -/
theorem RepT.tmps {w : World} {G : Gh} {e e' : Env} (h : e'.objs = e.objs) {v : Value} {A : AV} (hr : RepT w G e v A) : RepT w G e' v A := by
  have h1 : ∀ d g, e'.ok? d g = e.ok? d g := fun d g => by simp [Env.ok?, h]
  have h2 : ∀ d, e'.gen d = e.gen d := fun d => by simp [Env.gen, h]
  cases A <;> first
    | exact hr
    | (simp only [RepT, h1, h2, h] at hr ⊢; exact hr)

theorem RepObj.tmps {w : World} {G : Gh} {e e' : Env} (h : e'.objs = e.objs) {base d : Nat} {k : OK} (hr : RepObj w G e base d k) : RepObj w G e' base d k := by
  cases k with
  | dead => trivial
  | row E c f l => exact hr
  | box l =>
    obtain ⟨b, vs, T, h1, h2, h3, h4, h5, h6⟩ := hr
    exact ⟨b, vs, T, h1, h2, h3, h4, fun j hj => ⟨(h5 j hj).1.tmps h, (h5 j hj).2⟩, h6⟩

theorem getD_set_eq {α : Type} (l : List α) (t : Nat) (x d : α) (h : t < l.length) : (l.set t x).getD t d = x := by
  simp [List.getD_eq_getElem?_getD, h]
theorem getD_set_ne' {α : Type} (l : List α) (t s : Nat) (x d : α) (h : t ≠ s) : (l.set t x).getD s d = l.getD s d := by
  simp [List.getD_eq_getElem?_getD, h]
theorem agetD_set_eq {α : Type} (l : Array α) (t : Nat) (x d : α) (h : t < l.size) : (l.setIfInBounds t x).getD t d = x := by
  simp [h]
theorem agetD_set_ne {α : Type} (l : Array α) (t s : Nat) (x d : α) (h : t ≠ s) : (l.setIfInBounds t x).getD s d = l.getD s d := by
  simp [h]

section
variable {base : Nat} {w0 : World} {ok0 : Nat → Nat → Prop} {e : Env} {a : Act} {w : World} {G : Gh}

theorem Env.put_objs (e : Env) (dst : Option Nat) (A : AV) : (e.put dst A).objs = e.objs := by cases dst <;> rfl

theorem Rel.put (h : Rel base w0 ok0 e a w G) (dst : Option Nat) {v : Value} {A : AV} (hv : RepT w G e v A) : Rel base w0 ok0 (e.put dst A) (a.put dst v) w G := by
  have ho := Env.put_objs e dst A
  have hk : ∀ d, (e.put dst A).kind d = e.kind d := fun d => by simp [Env.kind, ho]
  refine ⟨h.below, h.base_le, ?_, ?_, ?_, h.okb, h.ok0, fun d hd => by rw [hk]; rw [ho] at hd; exact (h.objs d hd).tmps ho, fun d d' hd hd' => by rw [hk, hk]; rw [ho] at hd hd'; exact h.inj d d' hd hd'⟩
  · cases dst with
    | none => exact h.size
    | some d => simpa [Act.put, Env.put] using h.size
  · intro t ht
    cases dst with
    | none => exact h.tmps t ht
    | some d =>
      have ht' : t < e.tmps.length := by simpa [Env.put] using ht
      by_cases hdt : d = t
      · subst hdt
        simp only [Act.put, Env.put]
        rw [agetD_set_eq _ _ _ _ (by rw [h.size]; exact ht'), getD_set_eq _ _ _ _ ht']
        exact hv.tmps ho
      · simp only [Act.put, Env.put]
        rw [agetD_set_ne _ _ _ _ _ hdt, getD_set_ne' _ _ _ _ _ hdt]
        exact (h.tmps t ht').tmps ho
  · cases dst with
    | none => exact h.defers
    | some d => exact h.defers

def X.op (f : AV → Value) : X → Operand
  | .t n => .tmp n
  | .c A => .const (f A)
end

end Go.Bv

/- BY VALUE, part 3: rows that are read only from now on; values seen from outside; what is made; what is written. -/
namespace Go.Bv
open Go.RowKit

def OK.frz : OK → OK
  | .row E c _ l => .row E c l.length l
  | k => k
theorem AObj.freeze_eq (o : AObj) : o.freeze = ⟨o.gen, o.k.frz⟩ := by
  obtain ⟨g, k⟩ := o
  cases k <;> rfl

def Env.freeze1 (e : Env) (d : Nat) : Env := { e with objs := e.objs.modify d AObj.freeze }
theorem Env.freeze_nil (e : Env) : e.freeze [] = e := rfl
theorem Env.freeze_cons (e : Env) (d : Nat) (ks : List Nat) : e.freeze (d :: ks) = (e.freeze1 d).freeze ks := rfl
theorem Env.freeze_append (e : Env) (ks ks' : List Nat) : e.freeze (ks ++ ks') = (e.freeze ks).freeze ks' := by
  simp [Env.freeze, List.foldl_append]

theorem Env.freeze1_len (e : Env) (d : Nat) : (e.freeze1 d).objs.length = e.objs.length := by simp [Env.freeze1]
theorem Env.freeze1_gen (e : Env) (d d' : Nat) : (e.freeze1 d).gen d' = e.gen d' := by
  unfold Env.freeze1 Env.gen
  simp only [List.getElem?_modify]
  cases e.objs[d']? with
  | none => simp
  | some o => by_cases h : d = d' <;> simp [h, AObj.freeze_eq]
theorem Env.freeze1_kind (e : Env) (d d' : Nat) : (e.freeze1 d).kind d' = if d = d' then (e.kind d').frz else e.kind d' := by
  unfold Env.freeze1 Env.kind
  simp only [List.getElem?_modify]
  cases e.objs[d']? with
  | none => by_cases h : d = d' <;> simp [h, OK.frz]
  | some o => by_cases h : d = d' <;> simp [h, AObj.freeze_eq]
theorem Env.freeze1_ok? (e : Env) (d d' g : Nat) : (e.freeze1 d).ok? d' g = if d = d' then (e.ok? d' g).map OK.frz else e.ok? d' g := by
  unfold Env.freeze1 Env.ok?
  simp only [List.getElem?_modify]
  cases e.objs[d']? with
  | none => by_cases h : d = d' <;> simp [h]
  | some o =>
    by_cases h : d = d'
    · subst h
      simp only [if_true, AObj.freeze_eq, Option.map_eq_map, Option.map_some]
      by_cases hg : o.gen = g <;> simp [hg]
    · simp [h]

theorem Weaker.freeze1 (e : Env) (d : Nat) : Weaker e (e.freeze1 d) := by
  refine ⟨Env.freeze1_len e d, fun d' => by rw [Env.freeze1_gen]; exact Nat.le_refl _, fun d' g E c f l _ h => ?_, fun d' g l _ h => ?_⟩
  · rw [Env.freeze1_ok?] at h
    by_cases hd : d = d'
    · rw [if_pos hd] at h
      cases hk : e.ok? d' g with
      | none => simp [hk] at h
      | some k => cases k <;> simp [hk, OK.frz] at h; obtain ⟨rfl, rfl, rfl, rfl⟩ := h; exact ⟨_, _, rfl⟩
    · rw [if_neg hd] at h; exact ⟨_, _, h⟩
  · rw [Env.freeze1_ok?] at h
    by_cases hd : d = d'
    · rw [if_pos hd] at h
      cases hk : e.ok? d' g with
      | none => simp [hk] at h
      | some k => cases k <;> simp [hk, OK.frz] at h; subst h; exact ⟨_, rfl⟩
    · rw [if_neg hd] at h; exact ⟨_, h⟩

def Gh.frz1 (G : Gh) (e : Env) (d : Nat) : Gh := match e.kind d with
  | .row _ c _ l => { G with ok := fun b o => G.ok b o ∨ (blkOf (G.sv d) = some b ∧ o < l.length * c) }
  | _ => G
def Gh.frz (G : Gh) (e : Env) : List Nat → Gh
  | [] => G
  | d :: ks => (G.frz1 e d).frz (e.freeze1 d) ks

theorem Gh.frz1_sv (G : Gh) (e : Env) (d : Nat) : (G.frz1 e d).sv = G.sv := by unfold Gh.frz1; split <;> rfl
theorem Gh.frz1_ok (G : Gh) (e : Env) (d : Nat) {b o : Nat} (h : G.ok b o) : (G.frz1 e d).ok b o := by
  unfold Gh.frz1; split
  · exact .inl h
  · exact h

section
variable {base : Nat} {w0 : World} {ok0 : Nat → Nat → Prop} {e : Env} {a : Act} {w : World} {G : Gh}

theorem ownBlock_blkOf {v : Value} {b : Nat} {E c n : Nat} {xs : List Value} (h : w.ownsRow base E c v n xs) (hb : blkOf v = some b) : v.ownBlock = some b ∧ base ≤ b ∧ b < w.heap.size := by
  rcases h.2 with ⟨rfl, _⟩ | ⟨g, cap, cur, rfl, h1, h2, _⟩
  · simp [blkOf] at hb
  · simp [blkOf] at hb
    subst hb
    exact ⟨rfl, h1, (Array.getElem?_eq_some_iff.1 h2).1⟩

theorem kind_lt {d : Nat} (h : (e.kind d).live = true) : d < e.objs.length := by
  unfold Env.kind at h
  cases ho : e.objs[d]? with
  | none => simp [ho, OK.live] at h
  | some o => exact (List.getElem?_eq_some_iff.1 ho).1

theorem RepT.frz1 {d : Nat} {v : Value} {A : AV} (h : RepT w G e v A) : RepT w (G.frz1 e d) (e.freeze1 d) v A :=
  RepT.mono (Weaker.freeze1 e d) (fun _ _ h => Gh.frz1_ok G e d h) (fun _ _ _ => SameAt.refl) (fun d' _ _ _ _ _ => by rw [Gh.frz1_sv]) h

theorem Rel.freeze1 (h : Rel base w0 ok0 e a w G) (d : Nat) : Rel base w0 ok0 (e.freeze1 d) a w (G.frz1 e d) := by
  by_cases hrow : ∃ E c f l, e.kind d = .row E c f l
  case neg =>
    have hG : G.frz1 e d = G := by
      unfold Gh.frz1
      split
      · rename_i E c f l hk; exact absurd ⟨E, c, f, l, hk⟩ hrow
      · rfl
    have he : e.freeze1 d = e := by
      unfold Env.freeze1
      have : e.objs.modify d AObj.freeze = e.objs := by
        apply List.ext_getElem?
        intro i
        rw [List.getElem?_modify]
        cases ho : e.objs[i]? with
        | none => rfl
        | some o =>
          by_cases hi : d = i
          · subst hi
            have hk : e.kind d = o.k := by simp [Env.kind, ho]
            obtain ⟨g, k⟩ := o
            cases k with
            | row E c f l => exact absurd ⟨E, c, f, l, hk⟩ hrow
            | _ => simp [AObj.freeze]
          · simp [hi]
      rw [this]
    rw [hG, he]; exact h
  obtain ⟨E, c, f, l, hk⟩ := hrow
  have hd : d < e.objs.length := kind_lt (by rw [hk]; rfl)
  have hobj := h.objs d hd
  rw [hk] at hobj
  obtain ⟨hf, hc, xs, hown, hx, hfr⟩ := hobj
  have hok : ∀ b o, (G.frz1 e d).ok b o ↔ (G.ok b o ∨ (blkOf (G.sv d) = some b ∧ o < l.length * c)) := fun b o => by simp [Gh.frz1, hk]
  have hsv : (G.frz1 e d).sv = G.sv := Gh.frz1_sv G e d
  refine ⟨h.below, h.base_le, h.size, fun t ht => (h.tmps t ht).frz1, h.defers, fun b o hb => ?_, fun b o hb => ?_, fun d' hd' => ?_, fun d1 d2 h1 h2 l1 l2 b hb1 hb2 => ?_⟩
  · rcases (hok b o).1 hb with hb | ⟨hb, _⟩
    · exact h.okb b o hb
    · exact (ownBlock_blkOf hown hb).2.2
  · rw [hok]
    constructor
    · rintro (hh | ⟨hh, _⟩)
      · exact (h.ok0 b o hb).1 hh
      · have := (ownBlock_blkOf hown hh).2.1; omega
    · exact fun hh => .inl ((h.ok0 b o hb).2 hh)
  · have hd'' : d' < e.objs.length := by simpa [Env.freeze1] using hd'
    have hob := h.objs d' hd''
    rw [Env.freeze1_kind]
    by_cases hdd : d = d'
    · subst hdd
      rw [if_pos rfl, hk]
      refine ⟨Nat.le_refl _, hc, xs, by rw [hsv]; exact hown, fun i j hi hj => ⟨RepR.mono (fun b o hb => (hok b o).2 (.inl hb)) (fun _ _ _ => SameAt.refl) (hx i j hi hj).1, (hx i j hi hj).2⟩, fun b hb o ho => ?_⟩
      rw [hsv] at hb
      rcases (hok b o).1 ho with ho | ⟨_, ho⟩
      · have h1 := hfr b hb o ho
        exact Nat.lt_of_lt_of_le h1 (Nat.mul_le_mul_right c hf)
      · exact ho
    · rw [if_neg hdd]
      cases hk' : e.kind d' with
      | dead => trivial
      | box m =>
        rw [hk'] at hob
        obtain ⟨b, vs, T, h1, h2, h3, h4, h5, h6⟩ := hob
        refine ⟨b, vs, T, by rw [hsv]; exact h1, h2, h3, h4, fun j hj => ⟨(h5 j hj).1.frz1, (h5 j hj).2⟩, fun o ho => ?_⟩
        rcases (hok b o).1 ho with ho | ⟨ho, _⟩
        · exact h6 o ho
        · exact hdd (h.inj d d' hd hd'' (by rw [hk]; rfl) (by rw [hk']; rfl) b ho (by rw [h1]; rfl))
      | row E' c' f' l' =>
        rw [hk'] at hob
        obtain ⟨h1, h2, xs', h3, h4, h5⟩ := hob
        refine ⟨h1, h2, xs', by rw [hsv]; exact h3, fun i j hi hj => ⟨RepR.mono (fun b o hb => (hok b o).2 (.inl hb)) (fun _ _ _ => SameAt.refl) (h4 i j hi hj).1, (h4 i j hi hj).2⟩, fun b hb o ho => ?_⟩
        rw [hsv] at hb
        rcases (hok b o).1 ho with ho | ⟨ho, _⟩
        · exact h5 b hb o ho
        · exact absurd (h.inj d d' hd hd'' (by rw [hk]; rfl) (by rw [hk']; rfl) b ho hb) hdd
  · rw [hsv] at hb1 hb2
    have e1 : ((e.freeze1 d).kind d1).live = (e.kind d1).live := by rw [Env.freeze1_kind]; split <;> (cases e.kind d1 <;> rfl)
    have e2 : ((e.freeze1 d).kind d2).live = (e.kind d2).live := by rw [Env.freeze1_kind]; split <;> (cases e.kind d2 <;> rfl)
    rw [Env.freeze1_len] at h1 h2
    exact h.inj d1 d2 h1 h2 (by rw [← e1]; exact l1) (by rw [← e2]; exact l2) b hb1 hb2

theorem Rel.freeze (h : Rel base w0 ok0 e a w G) : ∀ ks, Rel base w0 ok0 (e.freeze ks) a w (G.frz e ks) := by
  intro ks
  induction ks generalizing e G with
  | nil => exact h
  | cons d ks ih => exact ih (h.freeze1 d)

theorem RepT.frz {v : Value} {A : AV} (ks : List Nat) (h : RepT w G e v A) : RepT w (G.frz e ks) (e.freeze ks) v A := by
  induction ks generalizing e G with
  | nil => exact h
  | cons d ks ih => exact ih h.frz1

theorem Gh.frz_sv (ks : List Nat) : (G.frz e ks).sv = G.sv := by
  induction ks generalizing e G with
  | nil => rfl
  | cons d ks ih => exact (ih (G := G.frz1 e d)).trans (Gh.frz1_sv G e d)
theorem Gh.frz_ok (ks : List Nat) {b o : Nat} (h : G.ok b o) : (G.frz e ks).ok b o := by
  induction ks generalizing e G with
  | nil => exact h
  | cons d ks ih => exact ih (Gh.frz1_ok G e d h)
theorem Gh.frz_append (ks ks' : List Nat) : G.frz e (ks ++ ks') = (G.frz e ks).frz (e.freeze ks) ks' := by
  induction ks generalizing e G with
  | nil => rfl
  | cons d ks ih => exact ih

theorem Gh.frz_iff (ks : List Nat) {b o : Nat} : (G.frz e ks).ok b o ↔ (G.ok b o ∨ ∃ d, d ∈ ks ∧ ∃ E c f l, e.kind d = .row E c f l ∧ blkOf (G.sv d) = some b ∧ o < l.length * c) := by
  induction ks generalizing e G with
  | nil => simp [Gh.frz]
  | cons d ks ih =>
    have h1 : (G.frz1 e d).ok b o ↔ (G.ok b o ∨ ∃ E c f l, e.kind d = .row E c f l ∧ blkOf (G.sv d) = some b ∧ o < l.length * c) := by
      unfold Gh.frz1
      cases hk : e.kind d with
      | row E c f l =>
        refine or_congr Iff.rfl ⟨fun h => ⟨E, c, f, l, rfl, h⟩, ?_⟩
        rintro ⟨_, _, _, _, he, h⟩
        cases he
        exact h
      | _ => simp
    have h2 : ∀ d' , (∃ E c f l, (e.freeze1 d).kind d' = .row E c f l ∧ blkOf ((G.frz1 e d).sv d') = some b ∧ o < l.length * c) ↔ (∃ E c f l, e.kind d' = .row E c f l ∧ blkOf (G.sv d') = some b ∧ o < l.length * c) := by
      intro d'
      rw [Gh.frz1_sv, Env.freeze1_kind]
      by_cases hd : d = d'
      · rw [if_pos hd]
        cases hk : e.kind d' with
        | row E c f l =>
          constructor
          · rintro ⟨_, _, _, _, he, h⟩
            cases he
            exact ⟨E, c, f, l, rfl, h⟩
          · rintro ⟨_, _, _, _, he, h⟩
            cases he
            exact ⟨E, c, l.length, l, rfl, h⟩
        | _ => simp [OK.frz]
      · rw [if_neg hd]
    show ((G.frz1 e d).frz (e.freeze1 d) ks).ok b o ↔ _
    rw [ih, h1]
    simp only [h2]
    constructor
    · rintro ((h | h) | ⟨d', hd', h⟩)
      · exact .inl h
      · exact .inr ⟨d, by simp, h⟩
      · exact .inr ⟨d', by simp [hd'], h⟩
    · rintro (h | ⟨d', hd', h⟩)
      · exact .inl (.inl h)
      · rcases List.mem_cons.1 hd' with rfl | hd'
        · exact .inl (.inr h)
        · exact .inr ⟨d', hd', h⟩

theorem Gh.frz_sub {ks ks' : List Nat} (h : ∀ d, d ∈ ks → d ∈ ks') {b o : Nat} (hb : (G.frz e ks).ok b o) : (G.frz e ks').ok b o := by
  rw [Gh.frz_iff] at hb ⊢
  rcases hb with hb | ⟨d, hd, hb⟩
  · exact .inl hb
  · exact .inr ⟨d, h d hd, hb⟩

theorem Gh.frz_mem {ks : List Nat} {d E c f : Nat} {l : List (List AV)} (hd : d ∈ ks) (hk : e.kind d = .row E c f l) {b o : Nat} (hb : blkOf (G.sv d) = some b) (ho : o < l.length * c) : (G.frz e ks).ok b o :=
  (Gh.frz_iff ks).2 (.inr ⟨d, hd, E, c, f, l, hk, hb, ho⟩)

theorem RepR.frz {v : Value} {A : AV} (ks : List Nat) (h : RepR w G.ok v A) : RepR w (G.frz e ks).ok v A :=
  h.mono (fun _ _ hb => Gh.frz_ok ks hb) (fun _ _ _ => SameAt.refl)

/-! ### Seen from outside -/
theorem row_seen (h : Rel base w0 ok0 e a w G) {d E c f : Nat} {l : List (List AV)} (hk : e.kind d = .row E c f l) {ks : List Nat} (hd : d ∈ ks) : RepR w (G.frz e ks).ok (G.sv d) (.sl l) := by
  have hlt : d < e.objs.length := kind_lt (by rw [hk]; rfl)
  have ho := h.objs d hlt
  rw [hk] at ho
  obtain ⟨hf, hc, xs, hown, hx, _⟩ := ho
  rcases hown.2 with ⟨hv, hn⟩ | ⟨g, cap, cur, hv, hb, hg, hnc, hm, hs, ht⟩
  · have : l = [] := List.eq_nil_of_length_eq_zero hn
    subst this
    rw [hv]; exact .sl0 none 0
  · rw [hv]
    have hxl : xs.length = l.length * c := hown.1
    refine .sl g 0 cap c l (fun i j => xs.getD (i * c + j) undef) hnc hc (fun i j hi hj => ⟨?_, ?_⟩) (fun i j hi hj => (hx i j hi hj).2) (fun i j hi hj => ((hx i j hi hj).1).frz ks)
    · have hlt' : i * c + j < l.length * c := by
        have : (i + 1) * c ≤ l.length * c := Nat.mul_le_mul_right c hi
        rw [Nat.add_mul] at this; omega
      rw [Nat.zero_add]
      exact Gh.frz_mem hd hk (by rw [hv]; rfl) hlt'
    · have hlt' : i * c + j < xs.length := by
        have : (i + 1) * c ≤ l.length * c := Nat.mul_le_mul_right c hi
        rw [Nat.add_mul] at this; omega
      have hcell := hown.cells (g := g) (by rw [hv]; rfl) (i * c + j) (xs.getD (i * c + j) undef) (by simp [List.getD_eq_getElem?_getD, List.getElem?_eq_getElem hlt'])
      have hadd : (⟨g, 0, none⟩ : Addr).add (i * c + j) = ⟨g, 0 + i * c + j, none⟩ := by unfold Addr.add; split <;> simp_all
      rw [hadd] at hcell
      exact hcell

theorem ok?_kind {d g : Nat} {k : OK} (h : e.ok? d g = some k) : e.kind d = k := (Env.ok?_eq h).2.2

theorem view1_rep (h : Rel base w0 ok0 e a w G) {v : Value} {A B : AV} {ks : List Nat} (hA : RepT w G e v A) (hv : e.view1 A = some (B, ks)) :
    RepR w (G.frz e ks).ok v B ∧ B.pure = true := by
  cases A <;> simp only [Env.view1] at hv
  case own d g =>
    cases hk : e.ok? d g with
    | none => simp [hk] at hv
    | some k =>
      cases k <;> simp [hk] at hv
      obtain ⟨rfl, rfl⟩ := hv
      rw [hA.2.2 _ _ _ _ hk]
      exact ⟨row_seen h (ok?_kind hk) (List.mem_singleton.2 rfl), rfl⟩
  all_goals first
    | (simp only [Option.some.injEq, Prod.mk.injEq] at hv; obtain ⟨rfl, rfl⟩ := hv; exact ⟨hA, rfl⟩)
    | (cases hv)

theorem view1_freeze {A : AV} (ks : List Nat) : (e.freeze ks).view1 A = e.view1 A := by
  induction ks generalizing e with
  | nil => rfl
  | cons d ks ih =>
    rw [Env.freeze_cons, ih]
    cases A <;> simp only [Env.view1]
    case own d' g =>
      rw [Env.freeze1_ok?]
      by_cases hd : d = d'
      · rw [if_pos hd]
        cases e.ok? d' g with
        | none => rfl
        | some k => cases k <;> rfl
      · rw [if_neg hd]

theorem views_rep (h : Rel base w0 ok0 e a w G) {l m : List AV} {ks : List Nat} {vs : Nat → Value} (hl : ∀ j, j < l.length → RepT w G e (vs j) (l.getD j .unk)) (hv : e.views l = some (m, ks)) :
    m.length = l.length ∧ ∀ j, j < m.length → RepR w (G.frz e ks).ok (vs j) (m.getD j .unk) ∧ (m.getD j .unk).pure = true := by
  induction l generalizing m ks vs with
  | nil => simp [Env.views] at hv; obtain ⟨rfl, rfl⟩ := hv; exact ⟨rfl, fun j hj => absurd hj (by simp)⟩
  | cons A l ih =>
    simp only [Env.views] at hv
    cases h1 : e.view1 A with
    | none => simp [h1] at hv
    | some r =>
      obtain ⟨B, k1⟩ := r
      simp only [h1] at hv
      cases h2 : e.views l with
      | none => simp [h2] at hv
      | some r =>
        obtain ⟨l', k2⟩ := r
        simp only [h2, Option.some.injEq, Prod.mk.injEq] at hv
        obtain ⟨rfl, rfl⟩ := hv
        obtain ⟨i1, i2⟩ := ih (vs := fun j => vs (j + 1)) (fun j hj => by have := hl (j + 1) (by simpa using hj); simpa using this) h2
        obtain ⟨b1, b2⟩ := view1_rep h (hl 0 (by simp)) h1
        refine ⟨by simp [i1], fun j hj => ?_⟩
        rw [Gh.frz_append]
        cases j with
        | zero => exact ⟨b1.frz k2, b2⟩
        | succ j =>
          obtain ⟨c1, c2⟩ := i2 j (by simpa using hj)
          refine ⟨?_, by simpa using c2⟩
          have : RepR w (G.frz e k2).ok (vs (j + 1)) (l'.getD j .unk) := c1
          refine RepR.mono (fun b o hb => ?_) (fun _ _ _ => SameAt.refl) (by simpa using this)
          rw [← Gh.frz_append]
          exact Gh.frz_sub (fun x hx => List.mem_append_right k1 hx) hb

end
end Go.Bv

/- BY VALUE, part 4: cells, arguments and elements seen from outside; a step that turns what one key leads to. -/
namespace Go.Bv
open Go.RowKit

section
variable {base : Nat} {w0 : World} {ok0 : Nat → Nat → Prop} {e : Env} {a : Act} {w : World} {G : Gh}

theorem RepR.toT {v : Value} {A : AV} (h : RepR w G.ok v A) : RepT w G e v A := by
  cases h
  case unk => exact .unk v
  case und => exact .und
  case int k n => exact .int k n
  case bool b => exact .bool b
  case str s => exact .str s
  case nil => exact .nil
  case sl0 a cap => exact .sl0 a cap
  case sl b o cap c l u hcap hc hcell hpure hrep => exact .sl b o cap c l u hcap hc hcell hpure hrep
  case agg vs l hs hpure hrep => exact .agg vs l hs hpure hrep
  case tup vs l hs hrep => exact .tup vs l hs hrep
  case el b o l u hcell hpure hrep => exact .el b o l u hcell hpure hrep
  case raw => exact .raw _
  case mp r clock es l hok hm he hl => exact .mp r clock es l hok hm he hl
  case fn f vs l hs hp hrep => exact .fn f vs l hs hp hrep

theorem RepR.cells_one {ok : Nat → Nat → Prop} {v : Value} {A : AV} (h : RepR w ok v A) (hp : A.pure = true) : v.cells = #[v] := by
  cases h <;> simp [AV.pure] at hp <;> rfl

theorem aggo_cells {v : Value} {j d g : Nat} {l : List AV} (hA : RepT w G e v (.aggo j d g l)) : ∃ vs : Array Value, v = .agg vs ∧ vs.size = (l.set j (.own d g)).length ∧ ∀ i, i < (l.set j (.own d g)).length → RepT w G e (vs.getD i undef) ((l.set j (.own d g)).getD i .unk) := by
  obtain ⟨hd, hg, vs, rfl, q2, q3, q4, q6, q5⟩ := hA
  refine ⟨vs, rfl, by simpa using q2, fun i hi => ?_⟩
  have hi' : i < l.length := by simpa using hi
  by_cases hij : j = i
  · subst hij
    rw [getD_set_eq _ _ _ _ hi']
    exact ⟨hd, hg, q5⟩
  · rw [getD_set_ne' _ _ _ _ _ hij]
    exact (q4 i hi' (fun hh => hij hh.symm)).1.toT

theorem cells_rep (h : Rel base w0 ok0 e a w G) {v : Value} {A : AV} {l : List AV} {ks : List Nat} (hA : RepT w G e v A) (hv : e.cells A = some (l, ks)) :
    v.cells.size = l.length ∧ ∀ j, j < l.length → RepR w (G.frz e ks).ok (v.cells.getD j undef) (l.getD j .unk) ∧ (l.getD j .unk).pure = true := by
  by_cases hagg : ∃ l0, A = .agg l0
  · obtain ⟨l0, rfl⟩ := hagg
    have hA' : RepR w G.ok v (.agg l0) := hA
    cases hA' with
    | agg vs _ hs hpure hrep =>
      obtain ⟨h1, h2⟩ := views_rep h (vs := fun j => vs.getD j undef) (fun j hj => (hrep j hj).toT) hv
      exact ⟨by rw [h1]; exact hs, h2⟩
  by_cases hago : ∃ j d g l0, A = .aggo j d g l0
  · obtain ⟨j, d, g, l0, rfl⟩ := hago
    obtain ⟨vs, rfl, hs, hT⟩ := aggo_cells hA
    obtain ⟨h1, h2⟩ := views_rep h (vs := fun j => vs.getD j undef) hT hv
    exact ⟨by rw [h1]; exact hs, h2⟩
  · have hv' : e.views [A] = some (l, ks) := by
      cases A <;> first | exact hv | exact absurd ⟨_, rfl⟩ hagg | exact absurd ⟨_, _, _, _, rfl⟩ hago
    obtain ⟨h1, h2⟩ := views_rep h (vs := fun _ => v) (l := [A]) (fun j hj => by
      have : j = 0 := by simp at hj; omega
      subst this
      exact hA) hv'
    have h3 := h2 0 (by rw [h1]; simp)
    have hc := RepR.cells_one h3.1 h3.2
    rw [hc]
    refine ⟨by rw [h1]; rfl, fun j hj => ?_⟩
    have : j = 0 := by rw [h1] at hj; simp at hj; omega
    subst this
    exact h3

theorem AV.norm_pure {A : AV} (h : A.pure = true) : A.norm.pure = true := by cases A <;> first | exact h | rfl
theorem RepR.norm {ok : Nat → Nat → Prop} {v : Value} {A : AV} (h : RepR w ok v A) : RepR w ok v A.norm := by
  cases A <;> first | exact h | (cases h; exact .sl0 none 0)

theorem RepR.aggNorm {ok : Nat → Nat → Prop} {vs : Array Value} {l : List AV} (hs : vs.size = l.length) (h : ∀ j, j < l.length → RepR w ok (vs.getD j undef) (l.getD j .unk) ∧ (l.getD j .unk).pure = true) : RepR w ok (.agg vs) (.agg (l.map AV.norm)) := by
  have hg : ∀ j, j < l.length → (l.map AV.norm).getD j .unk = (l.getD j .unk).norm := fun j hj => by
    simp [List.getD_eq_getElem?_getD, List.getElem?_map, List.getElem?_eq_getElem hj]
  refine .agg vs _ (by simpa using hs) (fun j hj => ?_) (fun j hj => ?_)
  · rw [hg j (by simpa using hj)]; exact AV.norm_pure (h j (by simpa using hj)).2
  · rw [hg j (by simpa using hj)]; exact (h j (by simpa using hj)).1.norm

theorem arg_rep (h : Rel base w0 ok0 e a w G) {v : Value} {A B : AV} {ks : List Nat} (hA : RepT w G e v A) (hv : e.arg A = some (B, ks)) : RepR w (G.frz e ks).ok v B := by
  by_cases hagg : ∃ l0, A = .agg l0
  · obtain ⟨l0, rfl⟩ := hagg
    have hA' : RepR w G.ok v (.agg l0) := hA
    cases hA' with
    | agg vs _ hs hpure hrep =>
      simp only [Env.arg] at hv
      cases h1 : e.views l0 with
      | none => simp [h1] at hv
      | some r =>
        obtain ⟨m, k⟩ := r
        simp only [h1, Option.some.injEq, Prod.mk.injEq] at hv
        obtain ⟨rfl, rfl⟩ := hv
        obtain ⟨i1, i2⟩ := views_rep h (vs := fun j => vs.getD j undef) (fun j hj => (hrep j hj).toT) h1
        exact RepR.aggNorm (by rw [i1]; exact hs) i2
  by_cases hago : ∃ j d g l0, A = .aggo j d g l0
  · obtain ⟨j, d, g, l0, rfl⟩ := hago
    obtain ⟨vs, rfl, hs, hT⟩ := aggo_cells hA
    simp only [Env.arg] at hv
    cases h1 : e.views (l0.set j (.own d g)) with
    | none => simp [h1] at hv
    | some r =>
      obtain ⟨m, k⟩ := r
      simp only [h1, Option.some.injEq, Prod.mk.injEq] at hv
      obtain ⟨rfl, rfl⟩ := hv
      obtain ⟨i1, i2⟩ := views_rep h (vs := fun j => vs.getD j undef) hT h1
      exact RepR.aggNorm (by rw [i1]; exact hs) i2
  · have hv' : ∃ B', e.view1 A = some (B', ks) ∧ B = B'.norm := by
      have : e.arg A = match e.view1 A with
          | some (B, ks) => some (B.norm, ks)
          | none => none := by cases A <;> first | rfl | exact absurd ⟨_, rfl⟩ hagg | exact absurd ⟨_, _, _, _, rfl⟩ hago
      rw [this] at hv
      cases h1 : e.view1 A with
      | none => simp [h1] at hv
      | some r =>
        obtain ⟨m, k⟩ := r
        simp only [h1, Option.some.injEq, Prod.mk.injEq] at hv
        obtain ⟨rfl, rfl⟩ := hv
        exact ⟨m, rfl, rfl⟩
    obtain ⟨B', h1, rfl⟩ := hv'
    exact (view1_rep h hA h1).1.norm

theorem args_rep (h : Rel base w0 ok0 e a w G) {xs : List X} {vs : Nat → Value} {m : List AV} {ks : List Nat} (hx : ∀ j, j < xs.length → RepT w G e (vs j) (e.get (xs.getD j default))) (hv : e.args xs = some (m, ks)) :
    m.length = xs.length ∧ ∀ j, j < m.length → RepR w (G.frz e ks).ok (vs j) (m.getD j .unk) := by
  induction xs generalizing m ks vs with
  | nil => simp [Env.args] at hv; obtain ⟨rfl, rfl⟩ := hv; exact ⟨rfl, fun j hj => absurd hj (by simp)⟩
  | cons x xs ih =>
    simp only [Env.args] at hv
    cases h1 : e.arg (e.get x) with
    | none => simp [h1] at hv
    | some r =>
      obtain ⟨B, k1⟩ := r
      simp only [h1] at hv
      cases h2 : e.args xs with
      | none => simp [h2] at hv
      | some r =>
        obtain ⟨l', k2⟩ := r
        simp only [h2, Option.some.injEq, Prod.mk.injEq] at hv
        obtain ⟨rfl, rfl⟩ := hv
        obtain ⟨i1, i2⟩ := ih (vs := fun j => vs (j + 1)) (fun j hj => by have := hx (j + 1) (by simpa using hj); simpa using this) h2
        have b1 := arg_rep h (hx 0 (by simp)) h1
        refine ⟨by simp [i1], fun j hj => ?_⟩
        cases j with
        | zero => rw [Gh.frz_append]; exact b1.frz k2
        | succ j =>
          have := i2 j (by simpa using hj)
          exact RepR.mono (fun b o hb => Gh.frz_sub (fun x hx => List.mem_append_right k1 hx) hb) (fun _ _ _ => SameAt.refl) (by simpa using this)

theorem elems_rep (h : Rel base w0 ok0 e a w G) {v : Value} {A : AV} {l : List (List AV)} {ks : List Nat} (hA : RepT w G e v A) (hv : e.elems A = some (l, ks)) : RepR w (G.frz e ks).ok v (.sl l) := by
  cases A <;> simp only [Env.elems] at hv
  case nil =>
    simp at hv
    obtain ⟨rfl, rfl⟩ := hv
    have hA' : RepR w G.ok v .nil := hA
    cases hA'
    exact .sl0 none 0
  case sl l' =>
    simp at hv
    obtain ⟨rfl, rfl⟩ := hv
    exact hA
  case own d g =>
    cases hk : e.ok? d g with
    | none => simp [hk] at hv
    | some k =>
      cases k <;> simp [hk] at hv
      obtain ⟨rfl, rfl⟩ := hv
      rw [hA.2.2 _ _ _ _ hk]
      exact row_seen h (ok?_kind hk) (List.mem_singleton.2 rfl)
  all_goals cases hv

/-! ### One key -/
theorem Env.setObj_len (e : Env) (d g : Nat) (k : OK) : (e.setObj d g k).objs.length = e.objs.length := by simp [Env.setObj]
theorem Env.setObj_gen (e : Env) (d g d' : Nat) (k : OK) (hd : d < e.objs.length) : (e.setObj d g k).gen d' = if d = d' then g else e.gen d' := by
  unfold Env.setObj Env.gen
  simp only [List.getElem?_set]
  by_cases h : d = d'
  · subst h; simp [hd]
  · simp [h]
theorem Env.setObj_kind (e : Env) (d g d' : Nat) (k : OK) (hd : d < e.objs.length) : (e.setObj d g k).kind d' = if d = d' then k else e.kind d' := by
  unfold Env.setObj Env.kind
  simp only [List.getElem?_set]
  by_cases h : d = d'
  · subst h; simp [hd]
  · simp [h]
theorem Env.setObj_ok? (e : Env) (d g d' g' : Nat) (k : OK) (hd : d < e.objs.length) : (e.setObj d g k).ok? d' g' = if d = d' then (if g = g' then some k else none) else e.ok? d' g' := by
  unfold Env.setObj Env.ok?
  simp only [List.getElem?_set]
  by_cases h : d = d'
  · subst h; simp [hd]
  · simp [h]

/-- A newer turn of what a key leads to. -/
theorem Weaker.newer {d g : Nat} {k : OK} (hd : d < e.objs.length) (hg : e.gen d < g) : Weaker e (e.setObj d g k) := by
  refine ⟨Env.setObj_len e d g k, fun d' => ?_, fun d' g' E c f l hg' h => ?_, fun d' g' l hg' h => ?_⟩
  · rw [Env.setObj_gen _ _ _ _ _ hd]; split
    · subst_vars; omega
    · exact Nat.le_refl _
  · rw [Env.setObj_ok? _ _ _ _ _ _ hd] at h
    by_cases hdd : d = d'
    · subst hdd
      rw [if_pos rfl, if_neg (by omega)] at h; cases h
    · rw [if_neg hdd] at h; exact ⟨f, l, h⟩
  · rw [Env.setObj_ok? _ _ _ _ _ _ hd] at h
    by_cases hdd : d = d'
    · subst hdd
      rw [if_pos rfl, if_neg (by omega)] at h; cases h
    · rw [if_neg hdd] at h; exact ⟨l, h⟩

theorem Weaker.sameRow {d E c f f' : Nat} {l l' : List (List AV)} (hd : d < e.objs.length) (hk : e.kind d = .row E c f l) : Weaker e (e.setObj d (e.gen d) (.row E c f' l')) := by
  refine ⟨Env.setObj_len _ _ _ _, fun d' => ?_, fun d' g' E' c' f'' l'' hg' h => ?_, fun d' g' l hg' h => ?_⟩
  · rw [Env.setObj_gen _ _ _ _ _ hd]; split
    · subst_vars; exact Nat.le_refl _
    · exact Nat.le_refl _
  · rw [Env.setObj_ok? _ _ _ _ _ _ hd] at h
    by_cases hdd : d = d'
    · subst hdd
      rw [if_pos rfl] at h
      by_cases hgg : e.gen d = g'
      · rw [if_pos hgg] at h
        cases h
        exact ⟨f, l, by rw [Env.ok?_of hd hgg, hk]⟩
      · rw [if_neg hgg] at h; cases h
    · rw [if_neg hdd] at h; exact ⟨_, _, h⟩
  · rw [Env.setObj_ok? _ _ _ _ _ _ hd] at h
    by_cases hdd : d = d'
    · subst hdd
      rw [if_pos rfl] at h
      by_cases hgg : e.gen d = g'
      · rw [if_pos hgg] at h; cases h
      · rw [if_neg hgg] at h; cases h
    · rw [if_neg hdd] at h; exact ⟨_, h⟩

theorem Weaker.sameBox {d : Nat} {l l' : List AV} (hd : d < e.objs.length) (hk : e.kind d = .box l) : Weaker e (e.setObj d (e.gen d) (.box l')) := by
  refine ⟨Env.setObj_len _ _ _ _, fun d' => ?_, fun d' g' E' c' f'' l'' hg' h => ?_, fun d' g' l hg' h => ?_⟩
  · rw [Env.setObj_gen _ _ _ _ _ hd]; split
    · subst_vars; exact Nat.le_refl _
    · exact Nat.le_refl _
  · rw [Env.setObj_ok? _ _ _ _ _ _ hd] at h
    by_cases hdd : d = d'
    · subst hdd
      rw [if_pos rfl] at h
      by_cases hgg : e.gen d = g'
      · rw [if_pos hgg] at h; cases h
      · rw [if_neg hgg] at h; cases h
    · rw [if_neg hdd] at h; exact ⟨_, _, h⟩
  · rw [Env.setObj_ok? _ _ _ _ _ _ hd] at h
    by_cases hdd : d = d'
    · subst hdd
      rw [if_pos rfl] at h
      by_cases hgg : e.gen d = g'
      · exact ⟨_, by rw [Env.ok?_of hd hgg, hk]⟩
      · rw [if_neg hgg] at h; cases h
    · rw [if_neg hdd] at h; exact ⟨_, h⟩

def Gh.at_ (G : Gh) (d : Nat) (nv : Value) : Gh := { G with sv := fun x => if x = d then nv else G.sv x }

theorem Rel.change (h : Rel base w0 ok0 e a w G) {d g : Nat} {k : OK} {nv : Value} {w' : World} (hd : d < e.objs.length) (hW : Weaker e (e.setObj d g k)) (hB : Below base w w')
    (hblk : ∀ d', d' ≠ d → (e.kind d').live = true → ∀ b, blkOf (G.sv d') = some b → w'.heap[b]? = w.heap[b]?)
    (hok : ∀ b o, G.ok b o → SameAt w w' b o)
    (hsv : g = e.gen d → (e.kind d).live = true → nv = G.sv d)
    (hgd : g = e.gen d → (e.kind d).live = true)
    (hge : e.gen d ≤ g)
    (hobj : RepObj w' (G.at_ d nv) (e.setObj d g k) base d k)
    (hinj : k.live = true → ∀ b, blkOf nv = some b → ∀ d', d' ≠ d → d' < e.objs.length → (e.kind d').live = true → blkOf (G.sv d') ≠ some b) :
    Rel base w0 ok0 (e.setObj d g k) a w' (G.at_ d nv) := by
  have hT : ∀ v A, RepT w G e v A → RepT w' (G.at_ d nv) (e.setObj d g k) v A := fun v A hv =>
    RepT.mono (G := G) (G' := G.at_ d nv) hW (fun _ _ h => h) hok (fun d' g' k' hk' hg' hl' => by
      by_cases hdd : d' = d
      · subst hdd
        rw [Env.setObj_ok? _ _ _ _ _ _ hd, if_pos rfl] at hk'
        by_cases hgg : g = g'
        · have h1 : g = e.gen d' := by omega
          simp [Gh.at_, hsv h1 (hgd h1)]
        · rw [if_neg hgg] at hk'; cases hk'
      · simp [Gh.at_, hdd]) hv
  refine ⟨h.below.trans hB, Nat.le_trans h.base_le hB.size, h.size, fun t ht => hT _ _ (h.tmps t ht), h.defers, fun b o hb => Nat.lt_of_lt_of_le (h.okb b o hb) hB.size, h.ok0, fun d' hd' => ?_, fun d1 d2 h1 h2 l1 l2 b hb1 hb2 => ?_⟩
  · rw [Env.setObj_len] at hd'
    rw [Env.setObj_kind _ _ _ _ _ hd]
    by_cases hdd : d = d'
    · subst hdd; rw [if_pos rfl]; exact hobj
    · rw [if_neg hdd]
      have hob := h.objs d' hd'
      have hs : (G.at_ d nv).sv d' = G.sv d' := by simp [Gh.at_, Ne.symm hdd]
      cases hk' : e.kind d' with
      | dead => trivial
      | box m =>
        rw [hk'] at hob
        obtain ⟨b, vs, T, h1, h2, h3, h4, h5, h6⟩ := hob
        exact ⟨b, vs, T, by rw [hs]; exact h1, h2, by rw [hblk d' (Ne.symm hdd) (by rw [hk']; rfl) b (by rw [h1]; rfl)]; exact h3, h4, fun j hj => ⟨hT _ _ (h5 j hj).1, (h5 j hj).2⟩, h6⟩
      | row E c f l =>
        rw [hk'] at hob
        obtain ⟨h1, h2, xs, h3, h4, h5⟩ := hob
        refine ⟨h1, h2, xs, ?_, fun i j hi hj => ⟨RepR.mono (fun _ _ h => h) hok (h4 i j hi hj).1, (h4 i j hi hj).2⟩, fun b hb o ho => h5 b (by rw [← hs]; exact hb) o ho⟩
        rw [hs]
        refine ⟨h3.1, ?_⟩
        rcases h3.2 with hn | ⟨gb, cap, cur, q1, q2, q3, q4⟩
        · exact .inl hn
        · exact .inr ⟨gb, cap, cur, q1, q2, by rw [hblk d' (Ne.symm hdd) (by rw [hk']; rfl) gb (by rw [q1]; rfl)]; exact q3, q4⟩
  · rw [Env.setObj_len] at h1 h2
    rw [Env.setObj_kind _ _ _ _ _ hd] at l1 l2
    by_cases e1 : d1 = d
    · subst e1
      by_cases e2 : d2 = d1
      · exact e2.symm
      · rw [if_pos rfl] at l1
        rw [if_neg (Ne.symm e2)] at l2
        have hb1' : blkOf nv = some b := by simpa [Gh.at_] using hb1
        have hb2' : blkOf (G.sv d2) = some b := by simpa [Gh.at_, e2] using hb2
        exact absurd hb2' (hinj l1 b hb1' d2 e2 h2 l2)
    · rw [if_neg (Ne.symm e1)] at l1
      have hb1' : blkOf (G.sv d1) = some b := by simpa [Gh.at_, e1] using hb1
      by_cases e2 : d2 = d
      · subst e2
        rw [if_pos rfl] at l2
        have hb2' : blkOf nv = some b := by simpa [Gh.at_] using hb2
        exact absurd hb1' (hinj l2 b hb2' d1 e1 h1 l1)
      · rw [if_neg (Ne.symm e2)] at l2
        have hb2' : blkOf (G.sv d2) = some b := by simpa [Gh.at_, e2] using hb2
        exact h.inj d1 d2 h1 h2 l1 l2 b hb1' hb2'

end
end Go.Bv
