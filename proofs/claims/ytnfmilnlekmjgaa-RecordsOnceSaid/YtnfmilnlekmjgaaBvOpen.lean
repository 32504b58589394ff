/- BY VALUE, part 14: what a claim's reading of an argument says of it. -/
import Derived.Test.YtnfmilnlekmjgaaBvRep
import Derived.Test.YtnfmilnlekmjgaaBvRep
import Derived.ChangeShapes
import Derived.WideShapes
import Derived.ChangeOld
import Derived.Deep.Slices
set_option linter.unusedVariables false
set_option linter.unusedSimpArgs false
namespace Go.Bv
open Go.RowKit

/-- The form of a cell. -/
inductive Sh where
  | int (k : IntKind)
  | bool
  | str
  | sl (l : List Sh)
  deriving Inhabited

def shapeFs (P : Program) (rec : TypeId → Option (List Sh)) : List Field → Nat → Option (List Sh)
  | [], _ => some []
  | f :: fs, n => if f.offset = n then
      match rec f.type with
      | some ks => if P.cellsOf f.type = ks.length then
          match shapeFs P rec fs (n + ks.length) with
          | some ks' => some (ks ++ ks')
          | none => none
        else none
      | none => none
    else none

def shapeOf (P : Program) : Nat → TypeId → Option (List Sh)
  | 0, _ => none
  | d + 1, t => match P.underlying t with
    | some (.int k) => some [.int k]
    | some .bool => some [.bool]
    | some .string => some [.str]
    | some (.slice e) => match shapeOf P d e with
      | some ks => if P.cellsOf e = ks.length ∧ 0 < ks.length then some [.sl ks] else none
      | none => none
    | some (.struct fs) => match shapeFs P (shapeOf P d) fs.toList 0 with
      | some ks => if P.cellsOf t = ks.length then some ks else none
      | none => none
    | _ => none

inductive Fits : Sh → AV → Prop where
  | int (k : IntKind) (n : Int) (h : (Lit.int k n).wf = true) : Fits (.int k) (.int k n)
  | bool (b : Bool) : Fits .bool (.bool b)
  | str (s : ByteArray) (h : s.size ≤ maxLen) : Fits .str (.str s)
  | sl (ks : List Sh) (l : List (List AV)) (hl : l.length ≤ maxLen) (h1 : ∀ i, i < l.length → (l.getD i []).length = ks.length)
      (h2 : ∀ i j, i < l.length → j < ks.length → Fits (ks.getD j .bool) ((l.getD i []).getD j .unk)) : Fits (.sl ks) (.sl l)

def okAll (w : World) (b o : Nat) : Prop := b < w.heap.size

theorem Fits.pure {k : Sh} {A : AV} (h : Fits k A) : A.pure = true := by cases h <;> rfl

section
variable {H : Type} {enc : TypeId × Value → H} {P : Program} {w : World} {spare : Nat → Bool} {held : Bool}

theorem omapM {α β : Type} {f : α → Option β} : ∀ {l : List α} {r : List β}, l.mapM f = some r → r.length = l.length ∧ ∀ (i : Nat) (x : α), l[i]? = some x → ∃ y, r[i]? = some y ∧ f x = some y
  | [], r, h => by simp at h; subst h; exact ⟨rfl, fun i x hx => by simp at hx⟩
  | a :: l, r, h => by
    rw [List.mapM_cons] at h
    cases h1 : f a with
    | none => simp [h1] at h
    | some y =>
      cases h2 : l.mapM f with
      | none => simp [h1, h2] at h
      | some m =>
        simp [h1, h2] at h
        subst h
        obtain ⟨i1, i2⟩ := omapM h2
        refine ⟨by simp [i1], fun i x hx => ?_⟩
        cases i with
        | zero => simp at hx; subst hx; exact ⟨y, rfl, h1⟩
        | succ i => simpa using i2 i x (by simpa using hx)

/-- Cells that are told. -/
def Told (w : World) (shs : List Sh) (cs : Nat → Value) (l : List AV) : Prop :=
  l.length = shs.length ∧ ∀ j, j < shs.length → Fits (shs.getD j .bool) (l.getD j .unk) ∧ RepR w (okAll w) (cs j) (l.getD j .unk)

theorem told_append {ks ks' : List Sh} {cs : Nat → Value} {l l' : List AV} (h : Told w ks cs l) (h' : Told w ks' (fun j => cs (ks.length + j)) l') : Told w (ks ++ ks') cs (l ++ l') := by
  refine ⟨by simp [h.1, h'.1], fun j hj => ?_⟩
  simp only [List.length_append] at hj
  rcases Nat.lt_or_ge j ks.length with hlt | hge
  · have e1 : (ks ++ ks').getD j .bool = ks.getD j .bool := by simp [List.getD_eq_getElem?_getD, List.getElem?_append, hlt]
    have e2 : (l ++ l').getD j .unk = l.getD j .unk := by simp [List.getD_eq_getElem?_getD, List.getElem?_append, h.1, hlt]
    rw [e1, e2]; exact h.2 j hlt
  · obtain ⟨i, rfl⟩ := Nat.exists_eq_add_of_le hge
    have e1 : (ks ++ ks').getD (ks.length + i) .bool = ks'.getD i .bool := by
      rw [List.getD_eq_getElem?_getD, List.getElem?_append_right (by omega), Nat.add_sub_cancel_left, List.getD_eq_getElem?_getD]
    have e2 : (l ++ l').getD (ks.length + i) .unk = l'.getD i .unk := by
      rw [List.getD_eq_getElem?_getD, List.getElem?_append_right (by rw [h.1]; omega), h.1, Nat.add_sub_cancel_left, List.getD_eq_getElem?_getD]
    rw [e1, e2]; exact h'.2 i (by omega)

theorem told_one {k : Sh} {cs : List Value} {v : Value} {A : AV} (hc : cs = [v]) (hf : Fits k A) (hr : RepR w (okAll w) v A) : cs.length = [k].length ∧ ∃ l, Told w [k] (fun j => cs.getD j undef) l := by
  subst hc
  refine ⟨rfl, [A], rfl, fun j hj => ?_⟩
  have : j = 0 := by simp at hj; exact hj
  subst this
  exact ⟨hf, hr⟩

theorem fields_open {d fuel : Nat} {cs : List Value}
    (ih : ∀ t cs (x : DataW H × List MemPlace) shs, DataW.trod enc P w 0 spare held fuel t cs = some x → shapeOf P d t = some shs → cs.length = shs.length ∧ ∃ l, Told w shs (fun j => cs.getD j undef) l) :
    ∀ (fs : List Field) (n : Nat) (xs : List (DataW H × List MemPlace)) (shs : List Sh), fs.mapM (fun f => DataW.trod enc P w 0 spare held fuel f.type ((cs.drop f.offset).take (P.cellsOf f.type))) = some xs → shapeFs P (shapeOf P d) fs n = some shs →
      ∃ l, Told w shs (fun j => cs.getD (n + j) undef) l := by
  intro fs
  induction fs with
  | nil =>
    intro n xs shs h hs
    simp [shapeFs] at hs; subst hs
    exact ⟨[], rfl, fun j hj => absurd hj (by simp)⟩
  | cons f fs ihf =>
    intro n xs shs h hs
    rw [List.mapM_cons] at h
    simp only [shapeFs] at hs
    by_cases hn : f.offset = n
    case neg => rw [if_neg hn] at hs; cases hs
    rw [if_pos hn] at hs
    cases h1 : shapeOf P d f.type with
    | none => simp [h1] at hs
    | some ks =>
      simp only [h1] at hs
      by_cases hc : P.cellsOf f.type = ks.length
      case neg => rw [if_neg hc] at hs; cases hs
      rw [if_pos hc] at hs
      cases h2 : shapeFs P (shapeOf P d) fs (n + ks.length) with
      | none => simp [h2] at hs
      | some ks' =>
        simp only [h2, Option.some.injEq] at hs
        subst hs
        cases h3 : DataW.trod enc P w 0 spare held fuel f.type ((cs.drop f.offset).take (P.cellsOf f.type)) with
        | none => simp [h3] at h
        | some x =>
          cases h4 : fs.mapM (fun f => DataW.trod enc P w 0 spare held fuel f.type ((cs.drop f.offset).take (P.cellsOf f.type))) with
          | none => simp [h3, h4] at h
          | some xs' =>
            obtain ⟨j1, l, j2⟩ := ih f.type _ x ks h3 h1
            obtain ⟨l', j3⟩ := ihf (n + ks.length) xs' ks' h4 h2
            refine ⟨l ++ l', told_append (ks := ks) ?_ ?_⟩
            · refine ⟨j2.1, fun j hj => ?_⟩
              have := j2.2 j hj
              have e1 : ((cs.drop f.offset).take (P.cellsOf f.type)).getD j undef = cs.getD (n + j) undef := by
                rw [hn, hc]
                simp [List.getD_eq_getElem?_getD, List.getElem?_take, hj]
              simp only [e1] at this
              exact this
            · refine ⟨j3.1, fun j hj => ?_⟩
              have := j3.2 j hj
              simp only [Nat.add_assoc] at this
              exact this

theorem cells_at {base : Nat} {a : Addr} {n : Nat} {cs : List Value} (h : w.cells? base a n = some cs) : cs.length = n ∧ ∀ j, j < n → w.cell? (a.add j) = some (cs.getD j undef) := by
  unfold World.cells? at h
  split at h
  · obtain ⟨i1, i2⟩ := omapM h
    refine ⟨by simpa using i1, fun j hj => ?_⟩
    obtain ⟨y, h1, h2⟩ := i2 j j (by simp [hj])
    rw [h2, List.getD_eq_getElem?_getD, h1]; rfl
  · cases h

theorem cell_spot {a : Addr} {v : Value} (h : w.cell? a = some v) : a.spot = none ∧ a.block < w.heap.size := by
  refine ⟨?_, World.block_lt_of_cell? w a h⟩
  unfold World.cell? at h
  split at h
  · split at h
    · cases h
    · rename_i hh; simpa using hh
  · cases h

theorem trod_bool {fuel : Nat} {t : TypeId} {cs : List Value} {x : DataW H × List MemPlace} (hu : P.underlying t = some .bool) (h : DataW.trod enc P w 0 spare held (fuel + 1) t cs = some x) : ∃ b, cs = [.bool b] := by
  unfold DataW.trod at h
  split at h <;> simp_all
theorem trod_int {fuel : Nat} {t : TypeId} {k : IntKind} {cs : List Value} {x : DataW H × List MemPlace} (hu : P.underlying t = some (.int k)) (h : DataW.trod enc P w 0 spare held (fuel + 1) t cs = some x) : ∃ n, cs = [.int k n] ∧ (Lit.int k n).wf = true := by
  unfold DataW.trod at h
  split at h <;> simp_all
theorem trod_str {fuel : Nat} {t : TypeId} {cs : List Value} {x : DataW H × List MemPlace} (hu : P.underlying t = some .string) (h : DataW.trod enc P w 0 spare held (fuel + 1) t cs = some x) : ∃ s, cs = [.string s] ∧ s.size ≤ maxLen := by
  unfold DataW.trod at h
  split at h <;> simp_all
theorem trod_struct {fuel : Nat} {t : TypeId} {fs : Array Field} {cs : List Value} {x : DataW H × List MemPlace} (hu : P.underlying t = some (.struct fs)) (h : DataW.trod enc P w 0 spare held (fuel + 1) t cs = some x) :
    cs.length = P.cellsOf t ∧ ∃ xs, fs.toList.mapM (fun f => DataW.trod enc P w 0 spare held fuel f.type ((cs.drop f.offset).take (P.cellsOf f.type))) = some xs := by
  unfold DataW.trod at h
  split at h <;> simp_all
  obtain ⟨h1, a, h2, _⟩ := h
  exact ⟨_, h2⟩

theorem Addr.spot_none {a : Addr} (h : a.spot = none) : a = ⟨a.block, a.off, none⟩ := by cases a; simp_all

theorem open_cells (d : Nat) : ∀ (fuel : Nat) (t : TypeId) (cs : List Value) (x : DataW H × List MemPlace) (shs : List Sh), DataW.trod enc P w 0 spare held fuel t cs = some x → shapeOf P d t = some shs →
    cs.length = shs.length ∧ ∃ l, Told w shs (fun j => cs.getD j undef) l := by
  induction d with
  | zero => intro fuel t cs x shs h hs; simp [shapeOf] at hs
  | succ d ih =>
    intro fuel t cs x shs h hs
    cases fuel with
    | zero => simp [DataW.trod] at h
    | succ fuel =>
      simp only [shapeOf] at hs
      cases hu : P.underlying t with
      | none => simp [hu] at hs
      | some D =>
        rw [hu] at hs
        cases D <;> simp only at hs <;> try (cases hs; done)
        case bool =>
          cases hs
          obtain ⟨b, rfl⟩ := trod_bool hu h
          exact told_one rfl (.bool b) (.bool b)
        case int k =>
          cases hs
          obtain ⟨n, rfl, hw⟩ := trod_int hu h
          exact told_one rfl (.int _ n hw) (.int _ n)
        case string =>
          cases hs
          obtain ⟨s, rfl, hw⟩ := trod_str hu h
          exact told_one rfl (.str s hw) (.str s)
        case struct =>
          rename_i fs
          cases hf : shapeFs P (shapeOf P d) fs.toList 0 with
          | none => simp [hf] at hs
          | some ks =>
            simp only [hf] at hs
            by_cases hc : P.cellsOf t = ks.length
            case neg => rw [if_neg hc] at hs; cases hs
            rw [if_pos hc] at hs
            cases hs
            obtain ⟨h1, xs, h2⟩ := trod_struct hu h
            obtain ⟨l, hl⟩ := fields_open (fun t cs x shs => ih fuel t cs x shs) fs.toList 0 xs _ h2 hf
            refine ⟨by rw [h1, hc], l, ?_⟩
            simp only [Nat.zero_add] at hl
            exact hl
        case slice =>
          rename_i el
          cases hf : shapeOf P d el with
          | none => simp [hf] at hs
          | some ks =>
            simp only [hf] at hs
            by_cases hc : P.cellsOf el = ks.length ∧ 0 < ks.length
            case neg => rw [if_neg hc] at hs; cases hs
            rw [if_pos hc] at hs
            cases hs
            rcases Go.Deep.open_slice hu h with ⟨rfl, _⟩ | ⟨a, len, cap, m, n, D, Pl, rfl, _, h1, h2, h3, _, h4⟩
            · exact told_one rfl (.sl ks [] (Nat.zero_le _) (fun i hi => absurd hi (by simp)) (fun i j hi => absurd hi (by simp))) (.sl0 none 0)
            · have hm : len ≤ m := by rw [h3]; split <;> omega
              have h5 : ∀ i, i < len → ∃ cs' l, w.cells? 0 (a.add (i * P.cellsOf el)) (P.cellsOf el) = some cs' ∧ Told w ks (fun j => cs'.getD j undef) l := by
                intro i hi
                obtain ⟨cs', q1, q2⟩ := h4 i (by omega)
                obtain ⟨_, l, q3⟩ := ih n el cs' _ ks q2 hf
                exact ⟨cs', l, q1, q3⟩
              classical
              let L : Nat → List AV := fun i => if hi : i < len then (h5 i hi).choose_spec.choose else []
              let U : Nat → List Value := fun i => if hi : i < len then (h5 i hi).choose else []
              have hL : ∀ i, i < len → w.cells? 0 (a.add (i * P.cellsOf el)) (P.cellsOf el) = some (U i) ∧ Told w ks (fun j => (U i).getD j undef) (L i) := by
                intro i hi
                have := (h5 i hi).choose_spec.choose_spec
                simp only [L, U, dif_pos hi]
                exact this
              have hg : ∀ i, i < len → ((List.range len).map L).getD i [] = L i := fun i hi => by
                simp [List.getD_eq_getElem?_getD, hi]
              have hlen : ((List.range len).map L).length = len := by simp
              have hfit : Fits (.sl ks) (.sl ((List.range len).map L)) := by
                refine .sl ks _ (by rw [hlen]; omega) (fun i hi => ?_) (fun i j hi hj => ?_)
                · rw [hlen] at hi; rw [hg i hi]; exact (hL i hi).2.1
                · rw [hlen] at hi; rw [hg i hi]; exact ((hL i hi).2.2 j hj).1
              refine told_one rfl hfit ?_
              cases len with
              | zero => exact .sl0 (some a) cap
              | succ len =>
                have ha : a.spot = none := by
                  have q := (cells_at (hL 0 (by omega)).1).2 0 (by rw [hc.1]; exact hc.2)
                  have := (cell_spot q).1
                  simpa [Addr.add] using this
                have hcell : ∀ i j, i < len + 1 → j < ks.length → w.cell? ⟨a.block, a.off + i * ks.length + j, none⟩ = some ((U i).getD j undef) := by
                  intro i j hi hj
                  have q := (cells_at (hL i hi).1).2 j (by rw [hc.1]; exact hj)
                  rw [hc.1, Addr.spot_none ha] at q
                  rw [Go.Deep.add_add, Addr.add_lit] at q
                  simpa [Nat.add_assoc] using q
                rw [Addr.spot_none ha]
                have := RepR.sl (w := w) (ok := okAll w) a.block a.off cap ks.length ((List.range (len + 1)).map L) (fun i j => (U i).getD j undef) (by rw [hlen]; exact h1)
                  (fun i hi => by rw [hlen] at hi; rw [hg i hi]; exact (hL i hi).2.1)
                  (fun i j hi hj => by rw [hlen] at hi; exact ⟨(cell_spot (hcell i j hi hj)).2, hcell i j hi hj⟩)
                  (fun i j hi hj => by rw [hlen] at hi; rw [hg i hi]; exact ((hL i hi).2.2 j hj).1.pure)
                  (fun i j hi hj => by rw [hlen] at hi; rw [hg i hi]; exact ((hL i hi).2.2 j hj).2)
                rw [hlen] at this
                exact this

/-! ### Arguments -/
open WideShapes in
theorem open_struct {n : Nat} {t : TypeId} {fs : Array Field} {shs : List Sh} {v : Value} {r : Reach} {base : Nat} {d : DataW H} {ps : List MemPlace} (hu : P.underlying t = some (.struct fs)) (hs : shapeOf P n t = some shs)
    (hv : Value.okWide P w r base t v) (h : DataW.Trod enc P w 0 spare held t v d ps) :
    ∃ l, (l.length = shs.length ∧ ∀ j, j < shs.length → Fits (shs.getD j .bool) (l.getD j .unk)) ∧ RepR w (okAll w) v (.agg l) := by
  obtain ⟨cs, rfl, hsz⟩ := okWide_struct hu hv
  obtain ⟨fuel, hf⟩ := h
  obtain ⟨h1, l, h2, h3⟩ := open_cells n fuel t _ _ shs hf hs
  have hc : (Value.agg cs).cells = cs := rfl
  rw [hc] at h1 h3
  refine ⟨l, ⟨h2, fun j hj => (h3 j hj).1⟩, .agg cs l (by rw [h2, ← h1]; simp) (fun j hj => ((h3 j (by omega)).1).pure) (fun j hj => ?_)⟩
  have := (h3 j (by omega)).2
  simpa [List.getD_eq_getElem?_getD, Array.getD_eq_getD_getElem?] using this

theorem open_one {n : Nat} {t : TypeId} {k : Sh} {v : Value} {d : DataW H} {ps : List MemPlace} (hs : shapeOf P n t = some [k]) (hv : v.cells = #[v]) (h : DataW.Trod enc P w 0 spare held t v d ps) :
    ∃ A, Fits k A ∧ RepR w (okAll w) v A := by
  obtain ⟨fuel, hf⟩ := h
  obtain ⟨h1, l, h2, h3⟩ := open_cells n fuel t _ _ [k] hf hs
  rw [hv] at h3
  exact ⟨_, (h3 0 (by simp)).1, (h3 0 (by simp)).2⟩

open WideShapes in
theorem opn_slice {t el : TypeId} {v : Value} {r : Reach} {base : Nat} (hu : P.underlying t = some (.slice el)) (hv : Value.okWide P w r base t v) : v.cells = #[v] := by
  obtain ⟨_, _, _, rfl⟩ := okWide_slice hu hv; rfl
open WideShapes in
theorem opn_str {t : TypeId} {v : Value} {r : Reach} {base : Nat} (hu : P.underlying t = some .string) (hv : Value.okWide P w r base t v) : v.cells = #[v] := by
  obtain ⟨_, rfl⟩ := okWide_string hu hv; rfl
open WideShapes in
theorem opn_int {t : TypeId} {k : IntKind} {v : Value} {r : Reach} {base : Nat} (hu : P.underlying t = some (.int k)) (hv : Value.okWide P w r base t v) : v.cells = #[v] := by
  obtain ⟨_, rfl⟩ := okWide_int hu hv; rfl
open WideShapes in
theorem opn_bool {t : TypeId} {v : Value} {r : Reach} {base : Nat} (hu : P.underlying t = some .bool) (hv : Value.okWide P w r base t v) : v.cells = #[v] := by
  obtain ⟨_, rfl⟩ := okWide_bool hu hv; rfl

end
end Go.Bv
