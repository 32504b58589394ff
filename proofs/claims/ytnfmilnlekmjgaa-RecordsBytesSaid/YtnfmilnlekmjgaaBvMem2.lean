/- BY VALUE, part 4: cells, arguments and elements seen from outside; a step that turns what one key leads to. -/
import Derived.Test.YtnfmilnlekmjgaaBvMem
namespace Go.Bv
open Go.RowKit

section
variable {base : Nat} {w0 : World} {ok0 : Nat → Nat → Prop} {e : Env} {a : Act} {w : World} {G : Gh}

theorem RepR.toT {v : Value} {A : AV} (h : RepR w G.ok v A) : RepT w G e v A := by
  cases h
  case unk => exact .unk v
  case und => exact .und
  case int k n => exact .int k n
  case bool b => exact .bool b
  case str s => exact .str s
  case nil => exact .nil
  case sl0 a cap => exact .sl0 a cap
  case sl b o cap c l u hcap hc hcell hpure hrep => exact .sl b o cap c l u hcap hc hcell hpure hrep
  case agg vs l hs hpure hrep => exact .agg vs l hs hpure hrep
  case tup vs l hs hrep => exact .tup vs l hs hrep
  case el b o l u hcell hpure hrep => exact .el b o l u hcell hpure hrep
  case raw => exact .raw _

theorem RepR.cells_one {ok : Nat → Nat → Prop} {v : Value} {A : AV} (h : RepR w ok v A) (hp : A.pure = true) : v.cells = #[v] := by
  cases h <;> simp [AV.pure] at hp <;> rfl

theorem cells_rep (h : Rel base w0 ok0 e a w G) {v : Value} {A : AV} {l : List AV} {ks : List Nat} (hA : RepT w G e v A) (hv : e.cells A = some (l, ks)) :
    v.cells.size = l.length ∧ ∀ j, j < l.length → RepR w (G.frz e ks).ok (v.cells.getD j undef) (l.getD j .unk) ∧ (l.getD j .unk).pure = true := by
  by_cases hagg : ∃ l0, A = .agg l0
  · obtain ⟨l0, rfl⟩ := hagg
    have hA' : RepR w G.ok v (.agg l0) := hA
    cases hA' with
    | agg vs _ hs hpure hrep =>
      obtain ⟨h1, h2⟩ := views_rep h (vs := fun j => vs.getD j undef) (fun j hj => (hrep j hj).toT) hv
      exact ⟨by rw [h1]; exact hs, h2⟩
  · have hv' : e.views [A] = some (l, ks) := by
      cases A <;> first | exact hv | exact absurd ⟨_, rfl⟩ hagg
    obtain ⟨h1, h2⟩ := views_rep h (vs := fun _ => v) (l := [A]) (fun j hj => by
      have : j = 0 := by simp at hj; omega
      subst this
      exact hA) hv'
    have h3 := h2 0 (by rw [h1]; simp)
    have hc := RepR.cells_one h3.1 h3.2
    rw [hc]
    refine ⟨by rw [h1]; rfl, fun j hj => ?_⟩
    have : j = 0 := by rw [h1] at hj; simp at hj; omega
    subst this
    exact h3

theorem AV.norm_pure {A : AV} (h : A.pure = true) : A.norm.pure = true := by cases A <;> first | exact h | rfl
theorem RepR.norm {ok : Nat → Nat → Prop} {v : Value} {A : AV} (h : RepR w ok v A) : RepR w ok v A.norm := by
  cases A <;> first | exact h | (cases h; exact .sl0 none 0)

theorem RepR.aggNorm {ok : Nat → Nat → Prop} {vs : Array Value} {l : List AV} (hs : vs.size = l.length) (h : ∀ j, j < l.length → RepR w ok (vs.getD j undef) (l.getD j .unk) ∧ (l.getD j .unk).pure = true) : RepR w ok (.agg vs) (.agg (l.map AV.norm)) := by
  have hg : ∀ j, j < l.length → (l.map AV.norm).getD j .unk = (l.getD j .unk).norm := fun j hj => by
    simp [List.getD_eq_getElem?_getD, List.getElem?_map, List.getElem?_eq_getElem hj]
  refine .agg vs _ (by simpa using hs) (fun j hj => ?_) (fun j hj => ?_)
  · rw [hg j (by simpa using hj)]; exact AV.norm_pure (h j (by simpa using hj)).2
  · rw [hg j (by simpa using hj)]; exact (h j (by simpa using hj)).1.norm

theorem arg_rep (h : Rel base w0 ok0 e a w G) {v : Value} {A B : AV} {ks : List Nat} (hA : RepT w G e v A) (hv : e.arg A = some (B, ks)) : RepR w (G.frz e ks).ok v B := by
  by_cases hagg : ∃ l0, A = .agg l0
  · obtain ⟨l0, rfl⟩ := hagg
    have hA' : RepR w G.ok v (.agg l0) := hA
    cases hA' with
    | agg vs _ hs hpure hrep =>
      simp only [Env.arg] at hv
      cases h1 : e.views l0 with
      | none => simp [h1] at hv
      | some r =>
        obtain ⟨m, k⟩ := r
        simp only [h1, Option.some.injEq, Prod.mk.injEq] at hv
        obtain ⟨rfl, rfl⟩ := hv
        obtain ⟨i1, i2⟩ := views_rep h (vs := fun j => vs.getD j undef) (fun j hj => (hrep j hj).toT) h1
        exact RepR.aggNorm (by rw [i1]; exact hs) i2
  · have hv' : ∃ B', e.view1 A = some (B', ks) ∧ B = B'.norm := by
      have : e.arg A = match e.view1 A with
          | some (B, ks) => some (B.norm, ks)
          | none => none := by cases A <;> first | rfl | exact absurd ⟨_, rfl⟩ hagg
      rw [this] at hv
      cases h1 : e.view1 A with
      | none => simp [h1] at hv
      | some r =>
        obtain ⟨m, k⟩ := r
        simp only [h1, Option.some.injEq, Prod.mk.injEq] at hv
        obtain ⟨rfl, rfl⟩ := hv
        exact ⟨m, rfl, rfl⟩
    obtain ⟨B', h1, rfl⟩ := hv'
    exact (view1_rep h hA h1).1.norm

theorem args_rep (h : Rel base w0 ok0 e a w G) {xs : List X} {vs : Nat → Value} {m : List AV} {ks : List Nat} (hx : ∀ j, j < xs.length → RepT w G e (vs j) (e.get (xs.getD j default))) (hv : e.args xs = some (m, ks)) :
    m.length = xs.length ∧ ∀ j, j < m.length → RepR w (G.frz e ks).ok (vs j) (m.getD j .unk) := by
  induction xs generalizing m ks vs with
  | nil => simp [Env.args] at hv; obtain ⟨rfl, rfl⟩ := hv; exact ⟨rfl, fun j hj => absurd hj (by simp)⟩
  | cons x xs ih =>
    simp only [Env.args] at hv
    cases h1 : e.arg (e.get x) with
    | none => simp [h1] at hv
    | some r =>
      obtain ⟨B, k1⟩ := r
      simp only [h1] at hv
      cases h2 : e.args xs with
      | none => simp [h2] at hv
      | some r =>
        obtain ⟨l', k2⟩ := r
        simp only [h2, Option.some.injEq, Prod.mk.injEq] at hv
        obtain ⟨rfl, rfl⟩ := hv
        obtain ⟨i1, i2⟩ := ih (vs := fun j => vs (j + 1)) (fun j hj => by have := hx (j + 1) (by simpa using hj); simpa using this) h2
        have b1 := arg_rep h (hx 0 (by simp)) h1
        refine ⟨by simp [i1], fun j hj => ?_⟩
        cases j with
        | zero => rw [Gh.frz_append]; exact b1.frz k2
        | succ j =>
          have := i2 j (by simpa using hj)
          exact RepR.mono (fun b o hb => Gh.frz_sub (fun x hx => List.mem_append_right k1 hx) hb) (fun _ _ _ => rfl) (by simpa using this)

theorem elems_rep (h : Rel base w0 ok0 e a w G) {v : Value} {A : AV} {l : List (List AV)} {ks : List Nat} (hA : RepT w G e v A) (hv : e.elems A = some (l, ks)) : RepR w (G.frz e ks).ok v (.sl l) := by
  cases A <;> simp only [Env.elems] at hv
  case nil =>
    simp at hv
    obtain ⟨rfl, rfl⟩ := hv
    have hA' : RepR w G.ok v .nil := hA
    cases hA'
    exact .sl0 none 0
  case sl l' =>
    simp at hv
    obtain ⟨rfl, rfl⟩ := hv
    exact hA
  case own d g =>
    cases hk : e.ok? d g with
    | none => simp [hk] at hv
    | some k =>
      cases k <;> simp [hk] at hv
      obtain ⟨rfl, rfl⟩ := hv
      rw [hA.2.2 _ _ _ _ hk]
      exact row_seen h (ok?_kind hk) (List.mem_singleton.2 rfl)
  all_goals cases hv

/-! ### One key -/
theorem Env.setObj_len (e : Env) (d g : Nat) (k : OK) : (e.setObj d g k).objs.length = e.objs.length := by simp [Env.setObj]
theorem Env.setObj_gen (e : Env) (d g d' : Nat) (k : OK) (hd : d < e.objs.length) : (e.setObj d g k).gen d' = if d = d' then g else e.gen d' := by
  unfold Env.setObj Env.gen
  simp only [List.getElem?_set]
  by_cases h : d = d'
  · subst h; simp [hd]
  · simp [h]
theorem Env.setObj_kind (e : Env) (d g d' : Nat) (k : OK) (hd : d < e.objs.length) : (e.setObj d g k).kind d' = if d = d' then k else e.kind d' := by
  unfold Env.setObj Env.kind
  simp only [List.getElem?_set]
  by_cases h : d = d'
  · subst h; simp [hd]
  · simp [h]
theorem Env.setObj_ok? (e : Env) (d g d' g' : Nat) (k : OK) (hd : d < e.objs.length) : (e.setObj d g k).ok? d' g' = if d = d' then (if g = g' then some k else none) else e.ok? d' g' := by
  unfold Env.setObj Env.ok?
  simp only [List.getElem?_set]
  by_cases h : d = d'
  · subst h; simp [hd]
  · simp [h]

/-- A newer turn of what a key leads to. -/
theorem Weaker.newer {d g : Nat} {k : OK} (hd : d < e.objs.length) (hg : e.gen d < g) : Weaker e (e.setObj d g k) := by
  refine ⟨Env.setObj_len e d g k, fun d' => ?_, fun d' g' E c f l hg' h => ?_, fun d' g' l hg' h => ?_⟩
  · rw [Env.setObj_gen _ _ _ _ _ hd]; split
    · subst_vars; omega
    · exact Nat.le_refl _
  · rw [Env.setObj_ok? _ _ _ _ _ _ hd] at h
    by_cases hdd : d = d'
    · subst hdd
      rw [if_pos rfl, if_neg (by omega)] at h; cases h
    · rw [if_neg hdd] at h; exact ⟨f, l, h⟩
  · rw [Env.setObj_ok? _ _ _ _ _ _ hd] at h
    by_cases hdd : d = d'
    · subst hdd
      rw [if_pos rfl, if_neg (by omega)] at h; cases h
    · rw [if_neg hdd] at h; exact ⟨l, h⟩

theorem Weaker.sameRow {d E c f f' : Nat} {l l' : List (List AV)} (hd : d < e.objs.length) (hk : e.kind d = .row E c f l) : Weaker e (e.setObj d (e.gen d) (.row E c f' l')) := by
  refine ⟨Env.setObj_len _ _ _ _, fun d' => ?_, fun d' g' E' c' f'' l'' hg' h => ?_, fun d' g' l hg' h => ?_⟩
  · rw [Env.setObj_gen _ _ _ _ _ hd]; split
    · subst_vars; exact Nat.le_refl _
    · exact Nat.le_refl _
  · rw [Env.setObj_ok? _ _ _ _ _ _ hd] at h
    by_cases hdd : d = d'
    · subst hdd
      rw [if_pos rfl] at h
      by_cases hgg : e.gen d = g'
      · rw [if_pos hgg] at h
        cases h
        exact ⟨f, l, by rw [Env.ok?_of hd hgg, hk]⟩
      · rw [if_neg hgg] at h; cases h
    · rw [if_neg hdd] at h; exact ⟨_, _, h⟩
  · rw [Env.setObj_ok? _ _ _ _ _ _ hd] at h
    by_cases hdd : d = d'
    · subst hdd
      rw [if_pos rfl] at h
      by_cases hgg : e.gen d = g'
      · rw [if_pos hgg] at h; cases h
      · rw [if_neg hgg] at h; cases h
    · rw [if_neg hdd] at h; exact ⟨_, h⟩

theorem Weaker.sameBox {d : Nat} {l l' : List AV} (hd : d < e.objs.length) (hk : e.kind d = .box l) : Weaker e (e.setObj d (e.gen d) (.box l')) := by
  refine ⟨Env.setObj_len _ _ _ _, fun d' => ?_, fun d' g' E' c' f'' l'' hg' h => ?_, fun d' g' l hg' h => ?_⟩
  · rw [Env.setObj_gen _ _ _ _ _ hd]; split
    · subst_vars; exact Nat.le_refl _
    · exact Nat.le_refl _
  · rw [Env.setObj_ok? _ _ _ _ _ _ hd] at h
    by_cases hdd : d = d'
    · subst hdd
      rw [if_pos rfl] at h
      by_cases hgg : e.gen d = g'
      · rw [if_pos hgg] at h; cases h
      · rw [if_neg hgg] at h; cases h
    · rw [if_neg hdd] at h; exact ⟨_, _, h⟩
  · rw [Env.setObj_ok? _ _ _ _ _ _ hd] at h
    by_cases hdd : d = d'
    · subst hdd
      rw [if_pos rfl] at h
      by_cases hgg : e.gen d = g'
      · exact ⟨_, by rw [Env.ok?_of hd hgg, hk]⟩
      · rw [if_neg hgg] at h; cases h
    · rw [if_neg hdd] at h; exact ⟨_, h⟩

def Gh.at_ (G : Gh) (d : Nat) (nv : Value) : Gh := { G with sv := fun x => if x = d then nv else G.sv x }

theorem Rel.change (h : Rel base w0 ok0 e a w G) {d g : Nat} {k : OK} {nv : Value} {w' : World} (hd : d < e.objs.length) (hW : Weaker e (e.setObj d g k)) (hB : Below base w w')
    (hblk : ∀ d', d' ≠ d → (e.kind d').live = true → ∀ b, blkOf (G.sv d') = some b → w'.heap[b]? = w.heap[b]?)
    (hok : ∀ b o, G.ok b o → w'.cell? ⟨b, o, none⟩ = w.cell? ⟨b, o, none⟩)
    (hsv : g = e.gen d → (e.kind d).live = true → nv = G.sv d)
    (hgd : g = e.gen d → (e.kind d).live = true)
    (hge : e.gen d ≤ g)
    (hobj : RepObj w' (G.at_ d nv) (e.setObj d g k) base d k)
    (hinj : k.live = true → ∀ b, blkOf nv = some b → ∀ d', d' ≠ d → d' < e.objs.length → (e.kind d').live = true → blkOf (G.sv d') ≠ some b) :
    Rel base w0 ok0 (e.setObj d g k) a w' (G.at_ d nv) := by
  have hT : ∀ v A, RepT w G e v A → RepT w' (G.at_ d nv) (e.setObj d g k) v A := fun v A hv =>
    RepT.mono (G := G) (G' := G.at_ d nv) hW (fun _ _ h => h) hok (fun d' g' k' hk' hg' hl' => by
      by_cases hdd : d' = d
      · subst hdd
        rw [Env.setObj_ok? _ _ _ _ _ _ hd, if_pos rfl] at hk'
        by_cases hgg : g = g'
        · have h1 : g = e.gen d' := by omega
          simp [Gh.at_, hsv h1 (hgd h1)]
        · rw [if_neg hgg] at hk'; cases hk'
      · simp [Gh.at_, hdd]) hv
  refine ⟨h.below.trans hB, Nat.le_trans h.base_le hB.size, h.size, fun t ht => hT _ _ (h.tmps t ht), h.defers, fun b o hb => Nat.lt_of_lt_of_le (h.okb b o hb) hB.size, h.ok0, fun d' hd' => ?_, fun d1 d2 h1 h2 l1 l2 b hb1 hb2 => ?_⟩
  · rw [Env.setObj_len] at hd'
    rw [Env.setObj_kind _ _ _ _ _ hd]
    by_cases hdd : d = d'
    · subst hdd; rw [if_pos rfl]; exact hobj
    · rw [if_neg hdd]
      have hob := h.objs d' hd'
      have hs : (G.at_ d nv).sv d' = G.sv d' := by simp [Gh.at_, Ne.symm hdd]
      cases hk' : e.kind d' with
      | dead => trivial
      | box m =>
        rw [hk'] at hob
        obtain ⟨b, vs, T, h1, h2, h3, h4, h5, h6⟩ := hob
        exact ⟨b, vs, T, by rw [hs]; exact h1, h2, by rw [hblk d' (Ne.symm hdd) (by rw [hk']; rfl) b (by rw [h1]; rfl)]; exact h3, h4, fun j hj => ⟨hT _ _ (h5 j hj).1, (h5 j hj).2⟩, h6⟩
      | row E c f l =>
        rw [hk'] at hob
        obtain ⟨h1, h2, xs, h3, h4, h5⟩ := hob
        refine ⟨h1, h2, xs, ?_, fun i j hi hj => ⟨RepR.mono (fun _ _ h => h) hok (h4 i j hi hj).1, (h4 i j hi hj).2⟩, fun b hb o ho => h5 b (by rw [← hs]; exact hb) o ho⟩
        rw [hs]
        refine ⟨h3.1, ?_⟩
        rcases h3.2 with hn | ⟨gb, cap, cur, q1, q2, q3, q4⟩
        · exact .inl hn
        · exact .inr ⟨gb, cap, cur, q1, q2, by rw [hblk d' (Ne.symm hdd) (by rw [hk']; rfl) gb (by rw [q1]; rfl)]; exact q3, q4⟩
  · rw [Env.setObj_len] at h1 h2
    rw [Env.setObj_kind _ _ _ _ _ hd] at l1 l2
    by_cases e1 : d1 = d
    · subst e1
      by_cases e2 : d2 = d1
      · exact e2.symm
      · rw [if_pos rfl] at l1
        rw [if_neg (Ne.symm e2)] at l2
        have hb1' : blkOf nv = some b := by simpa [Gh.at_] using hb1
        have hb2' : blkOf (G.sv d2) = some b := by simpa [Gh.at_, e2] using hb2
        exact absurd hb2' (hinj l1 b hb1' d2 e2 h2 l2)
    · rw [if_neg (Ne.symm e1)] at l1
      have hb1' : blkOf (G.sv d1) = some b := by simpa [Gh.at_, e1] using hb1
      by_cases e2 : d2 = d
      · subst e2
        rw [if_pos rfl] at l2
        have hb2' : blkOf nv = some b := by simpa [Gh.at_] using hb2
        exact absurd hb1' (hinj l2 b hb2' d1 e1 h1 l1)
      · rw [if_neg (Ne.symm e2)] at l2
        have hb2' : blkOf (G.sv d2) = some b := by simpa [Gh.at_, e2] using hb2
        exact h.inj d1 d2 h1 h2 l1 l2 b hb1' hb2'

end
end Go.Bv
