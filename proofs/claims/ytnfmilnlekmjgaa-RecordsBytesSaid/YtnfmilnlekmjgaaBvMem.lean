/- BY VALUE, part 3: rows that are read only from now on; values seen from outside; what is made; what is written. -/
import Derived.Test.YtnfmilnlekmjgaaBvRep
namespace Go.Bv
open Go.RowKit

def OK.frz : OK → OK
  | .row E c _ l => .row E c l.length l
  | k => k
theorem AObj.freeze_eq (o : AObj) : o.freeze = ⟨o.gen, o.k.frz⟩ := by
  obtain ⟨g, k⟩ := o
  cases k <;> rfl

def Env.freeze1 (e : Env) (d : Nat) : Env := { e with objs := e.objs.modify d AObj.freeze }
theorem Env.freeze_nil (e : Env) : e.freeze [] = e := rfl
theorem Env.freeze_cons (e : Env) (d : Nat) (ks : List Nat) : e.freeze (d :: ks) = (e.freeze1 d).freeze ks := rfl
theorem Env.freeze_append (e : Env) (ks ks' : List Nat) : e.freeze (ks ++ ks') = (e.freeze ks).freeze ks' := by
  simp [Env.freeze, List.foldl_append]

theorem Env.freeze1_len (e : Env) (d : Nat) : (e.freeze1 d).objs.length = e.objs.length := by simp [Env.freeze1]
theorem Env.freeze1_gen (e : Env) (d d' : Nat) : (e.freeze1 d).gen d' = e.gen d' := by
  unfold Env.freeze1 Env.gen
  simp only [List.getElem?_modify]
  cases e.objs[d']? with
  | none => simp
  | some o => by_cases h : d = d' <;> simp [h, AObj.freeze_eq]
theorem Env.freeze1_kind (e : Env) (d d' : Nat) : (e.freeze1 d).kind d' = if d = d' then (e.kind d').frz else e.kind d' := by
  unfold Env.freeze1 Env.kind
  simp only [List.getElem?_modify]
  cases e.objs[d']? with
  | none => by_cases h : d = d' <;> simp [h, OK.frz]
  | some o => by_cases h : d = d' <;> simp [h, AObj.freeze_eq]
theorem Env.freeze1_ok? (e : Env) (d d' g : Nat) : (e.freeze1 d).ok? d' g = if d = d' then (e.ok? d' g).map OK.frz else e.ok? d' g := by
  unfold Env.freeze1 Env.ok?
  simp only [List.getElem?_modify]
  cases e.objs[d']? with
  | none => by_cases h : d = d' <;> simp [h]
  | some o =>
    by_cases h : d = d'
    · subst h
      simp only [if_true, AObj.freeze_eq, Option.map_eq_map, Option.map_some]
      by_cases hg : o.gen = g <;> simp [hg]
    · simp [h]

theorem Weaker.freeze1 (e : Env) (d : Nat) : Weaker e (e.freeze1 d) := by
  refine ⟨Env.freeze1_len e d, fun d' => by rw [Env.freeze1_gen]; exact Nat.le_refl _, fun d' g E c f l _ h => ?_, fun d' g l _ h => ?_⟩
  · rw [Env.freeze1_ok?] at h
    by_cases hd : d = d'
    · rw [if_pos hd] at h
      cases hk : e.ok? d' g with
      | none => simp [hk] at h
      | some k => cases k <;> simp [hk, OK.frz] at h; obtain ⟨rfl, rfl, rfl, rfl⟩ := h; exact ⟨_, _, rfl⟩
    · rw [if_neg hd] at h; exact ⟨_, _, h⟩
  · rw [Env.freeze1_ok?] at h
    by_cases hd : d = d'
    · rw [if_pos hd] at h
      cases hk : e.ok? d' g with
      | none => simp [hk] at h
      | some k => cases k <;> simp [hk, OK.frz] at h; subst h; exact ⟨_, rfl⟩
    · rw [if_neg hd] at h; exact ⟨_, h⟩

def Gh.frz1 (G : Gh) (e : Env) (d : Nat) : Gh := match e.kind d with
  | .row _ c _ l => { G with ok := fun b o => G.ok b o ∨ (blkOf (G.sv d) = some b ∧ o < l.length * c) }
  | _ => G
def Gh.frz (G : Gh) (e : Env) : List Nat → Gh
  | [] => G
  | d :: ks => (G.frz1 e d).frz (e.freeze1 d) ks

theorem Gh.frz1_sv (G : Gh) (e : Env) (d : Nat) : (G.frz1 e d).sv = G.sv := by unfold Gh.frz1; split <;> rfl
theorem Gh.frz1_ok (G : Gh) (e : Env) (d : Nat) {b o : Nat} (h : G.ok b o) : (G.frz1 e d).ok b o := by
  unfold Gh.frz1; split
  · exact .inl h
  · exact h

section
variable {base : Nat} {w0 : World} {ok0 : Nat → Nat → Prop} {e : Env} {a : Act} {w : World} {G : Gh}

theorem ownBlock_blkOf {v : Value} {b : Nat} {E c n : Nat} {xs : List Value} (h : w.ownsRow base E c v n xs) (hb : blkOf v = some b) : v.ownBlock = some b ∧ base ≤ b ∧ b < w.heap.size := by
  rcases h.2 with ⟨rfl, _⟩ | ⟨g, cap, cur, rfl, h1, h2, _⟩
  · simp [blkOf] at hb
  · simp [blkOf] at hb
    subst hb
    exact ⟨rfl, h1, (Array.getElem?_eq_some_iff.1 h2).1⟩

theorem kind_lt {d : Nat} (h : (e.kind d).live = true) : d < e.objs.length := by
  unfold Env.kind at h
  cases ho : e.objs[d]? with
  | none => simp [ho, OK.live] at h
  | some o => exact (List.getElem?_eq_some_iff.1 ho).1

theorem RepT.frz1 {d : Nat} {v : Value} {A : AV} (h : RepT w G e v A) : RepT w (G.frz1 e d) (e.freeze1 d) v A :=
  RepT.mono (Weaker.freeze1 e d) (fun _ _ h => Gh.frz1_ok G e d h) (fun _ _ _ => rfl) (fun d' _ _ _ _ _ => by rw [Gh.frz1_sv]) h

theorem Rel.freeze1 (h : Rel base w0 ok0 e a w G) (d : Nat) : Rel base w0 ok0 (e.freeze1 d) a w (G.frz1 e d) := by
  by_cases hrow : ∃ E c f l, e.kind d = .row E c f l
  case neg =>
    have hG : G.frz1 e d = G := by
      unfold Gh.frz1
      split
      · rename_i E c f l hk; exact absurd ⟨E, c, f, l, hk⟩ hrow
      · rfl
    have he : e.freeze1 d = e := by
      unfold Env.freeze1
      have : e.objs.modify d AObj.freeze = e.objs := by
        apply List.ext_getElem?
        intro i
        rw [List.getElem?_modify]
        cases ho : e.objs[i]? with
        | none => rfl
        | some o =>
          by_cases hi : d = i
          · subst hi
            have hk : e.kind d = o.k := by simp [Env.kind, ho]
            obtain ⟨g, k⟩ := o
            cases k with
            | row E c f l => exact absurd ⟨E, c, f, l, hk⟩ hrow
            | _ => simp [AObj.freeze]
          · simp [hi]
      rw [this]
    rw [hG, he]; exact h
  obtain ⟨E, c, f, l, hk⟩ := hrow
  have hd : d < e.objs.length := kind_lt (by rw [hk]; rfl)
  have hobj := h.objs d hd
  rw [hk] at hobj
  obtain ⟨hf, hc, xs, hown, hx, hfr⟩ := hobj
  have hok : ∀ b o, (G.frz1 e d).ok b o ↔ (G.ok b o ∨ (blkOf (G.sv d) = some b ∧ o < l.length * c)) := fun b o => by simp [Gh.frz1, hk]
  have hsv : (G.frz1 e d).sv = G.sv := Gh.frz1_sv G e d
  refine ⟨h.below, h.base_le, h.size, fun t ht => (h.tmps t ht).frz1, h.defers, fun b o hb => ?_, fun b o hb => ?_, fun d' hd' => ?_, fun d1 d2 h1 h2 l1 l2 b hb1 hb2 => ?_⟩
  · rcases (hok b o).1 hb with hb | ⟨hb, _⟩
    · exact h.okb b o hb
    · exact (ownBlock_blkOf hown hb).2.2
  · rw [hok]
    constructor
    · rintro (hh | ⟨hh, _⟩)
      · exact (h.ok0 b o hb).1 hh
      · have := (ownBlock_blkOf hown hh).2.1; omega
    · exact fun hh => .inl ((h.ok0 b o hb).2 hh)
  · have hd'' : d' < e.objs.length := by simpa [Env.freeze1] using hd'
    have hob := h.objs d' hd''
    rw [Env.freeze1_kind]
    by_cases hdd : d = d'
    · subst hdd
      rw [if_pos rfl, hk]
      refine ⟨Nat.le_refl _, hc, xs, by rw [hsv]; exact hown, fun i j hi hj => ⟨RepR.mono (fun b o hb => (hok b o).2 (.inl hb)) (fun _ _ _ => rfl) (hx i j hi hj).1, (hx i j hi hj).2⟩, fun b hb o ho => ?_⟩
      rw [hsv] at hb
      rcases (hok b o).1 ho with ho | ⟨_, ho⟩
      · have h1 := hfr b hb o ho
        exact Nat.lt_of_lt_of_le h1 (Nat.mul_le_mul_right c hf)
      · exact ho
    · rw [if_neg hdd]
      cases hk' : e.kind d' with
      | dead => trivial
      | box m =>
        rw [hk'] at hob
        obtain ⟨b, vs, T, h1, h2, h3, h4, h5, h6⟩ := hob
        refine ⟨b, vs, T, by rw [hsv]; exact h1, h2, h3, h4, fun j hj => ⟨(h5 j hj).1.frz1, (h5 j hj).2⟩, fun o ho => ?_⟩
        rcases (hok b o).1 ho with ho | ⟨ho, _⟩
        · exact h6 o ho
        · exact hdd (h.inj d d' hd hd'' (by rw [hk]; rfl) (by rw [hk']; rfl) b ho (by rw [h1]; rfl))
      | row E' c' f' l' =>
        rw [hk'] at hob
        obtain ⟨h1, h2, xs', h3, h4, h5⟩ := hob
        refine ⟨h1, h2, xs', by rw [hsv]; exact h3, fun i j hi hj => ⟨RepR.mono (fun b o hb => (hok b o).2 (.inl hb)) (fun _ _ _ => rfl) (h4 i j hi hj).1, (h4 i j hi hj).2⟩, fun b hb o ho => ?_⟩
        rw [hsv] at hb
        rcases (hok b o).1 ho with ho | ⟨ho, _⟩
        · exact h5 b hb o ho
        · exact absurd (h.inj d d' hd hd'' (by rw [hk]; rfl) (by rw [hk']; rfl) b ho hb) hdd
  · rw [hsv] at hb1 hb2
    have e1 : ((e.freeze1 d).kind d1).live = (e.kind d1).live := by rw [Env.freeze1_kind]; split <;> (cases e.kind d1 <;> rfl)
    have e2 : ((e.freeze1 d).kind d2).live = (e.kind d2).live := by rw [Env.freeze1_kind]; split <;> (cases e.kind d2 <;> rfl)
    rw [Env.freeze1_len] at h1 h2
    exact h.inj d1 d2 h1 h2 (by rw [← e1]; exact l1) (by rw [← e2]; exact l2) b hb1 hb2

theorem Rel.freeze (h : Rel base w0 ok0 e a w G) : ∀ ks, Rel base w0 ok0 (e.freeze ks) a w (G.frz e ks) := by
  intro ks
  induction ks generalizing e G with
  | nil => exact h
  | cons d ks ih => exact ih (h.freeze1 d)

theorem RepT.frz {v : Value} {A : AV} (ks : List Nat) (h : RepT w G e v A) : RepT w (G.frz e ks) (e.freeze ks) v A := by
  induction ks generalizing e G with
  | nil => exact h
  | cons d ks ih => exact ih h.frz1

theorem Gh.frz_sv (ks : List Nat) : (G.frz e ks).sv = G.sv := by
  induction ks generalizing e G with
  | nil => rfl
  | cons d ks ih => exact (ih (G := G.frz1 e d)).trans (Gh.frz1_sv G e d)
theorem Gh.frz_ok (ks : List Nat) {b o : Nat} (h : G.ok b o) : (G.frz e ks).ok b o := by
  induction ks generalizing e G with
  | nil => exact h
  | cons d ks ih => exact ih (Gh.frz1_ok G e d h)
theorem Gh.frz_append (ks ks' : List Nat) : G.frz e (ks ++ ks') = (G.frz e ks).frz (e.freeze ks) ks' := by
  induction ks generalizing e G with
  | nil => rfl
  | cons d ks ih => exact ih

theorem Gh.frz_iff (ks : List Nat) {b o : Nat} : (G.frz e ks).ok b o ↔ (G.ok b o ∨ ∃ d, d ∈ ks ∧ ∃ E c f l, e.kind d = .row E c f l ∧ blkOf (G.sv d) = some b ∧ o < l.length * c) := by
  induction ks generalizing e G with
  | nil => simp [Gh.frz]
  | cons d ks ih =>
    have h1 : (G.frz1 e d).ok b o ↔ (G.ok b o ∨ ∃ E c f l, e.kind d = .row E c f l ∧ blkOf (G.sv d) = some b ∧ o < l.length * c) := by
      unfold Gh.frz1
      cases hk : e.kind d with
      | row E c f l =>
        refine or_congr Iff.rfl ⟨fun h => ⟨E, c, f, l, rfl, h⟩, ?_⟩
        rintro ⟨_, _, _, _, he, h⟩
        cases he
        exact h
      | _ => simp
    have h2 : ∀ d' , (∃ E c f l, (e.freeze1 d).kind d' = .row E c f l ∧ blkOf ((G.frz1 e d).sv d') = some b ∧ o < l.length * c) ↔ (∃ E c f l, e.kind d' = .row E c f l ∧ blkOf (G.sv d') = some b ∧ o < l.length * c) := by
      intro d'
      rw [Gh.frz1_sv, Env.freeze1_kind]
      by_cases hd : d = d'
      · rw [if_pos hd]
        cases hk : e.kind d' with
        | row E c f l =>
          constructor
          · rintro ⟨_, _, _, _, he, h⟩
            cases he
            exact ⟨E, c, f, l, rfl, h⟩
          · rintro ⟨_, _, _, _, he, h⟩
            cases he
            exact ⟨E, c, l.length, l, rfl, h⟩
        | _ => simp [OK.frz]
      · rw [if_neg hd]
    show ((G.frz1 e d).frz (e.freeze1 d) ks).ok b o ↔ _
    rw [ih, h1]
    simp only [h2]
    constructor
    · rintro ((h | h) | ⟨d', hd', h⟩)
      · exact .inl h
      · exact .inr ⟨d, by simp, h⟩
      · exact .inr ⟨d', by simp [hd'], h⟩
    · rintro (h | ⟨d', hd', h⟩)
      · exact .inl (.inl h)
      · rcases List.mem_cons.1 hd' with rfl | hd'
        · exact .inl (.inr h)
        · exact .inr ⟨d', hd', h⟩

theorem Gh.frz_sub {ks ks' : List Nat} (h : ∀ d, d ∈ ks → d ∈ ks') {b o : Nat} (hb : (G.frz e ks).ok b o) : (G.frz e ks').ok b o := by
  rw [Gh.frz_iff] at hb ⊢
  rcases hb with hb | ⟨d, hd, hb⟩
  · exact .inl hb
  · exact .inr ⟨d, h d hd, hb⟩

theorem Gh.frz_mem {ks : List Nat} {d E c f : Nat} {l : List (List AV)} (hd : d ∈ ks) (hk : e.kind d = .row E c f l) {b o : Nat} (hb : blkOf (G.sv d) = some b) (ho : o < l.length * c) : (G.frz e ks).ok b o :=
  (Gh.frz_iff ks).2 (.inr ⟨d, hd, E, c, f, l, hk, hb, ho⟩)

theorem RepR.frz {v : Value} {A : AV} (ks : List Nat) (h : RepR w G.ok v A) : RepR w (G.frz e ks).ok v A :=
  h.mono (fun _ _ hb => Gh.frz_ok ks hb) (fun _ _ _ => rfl)

/-! ### Seen from outside -/
theorem row_seen (h : Rel base w0 ok0 e a w G) {d E c f : Nat} {l : List (List AV)} (hk : e.kind d = .row E c f l) {ks : List Nat} (hd : d ∈ ks) : RepR w (G.frz e ks).ok (G.sv d) (.sl l) := by
  have hlt : d < e.objs.length := kind_lt (by rw [hk]; rfl)
  have ho := h.objs d hlt
  rw [hk] at ho
  obtain ⟨hf, hc, xs, hown, hx, _⟩ := ho
  rcases hown.2 with ⟨hv, hn⟩ | ⟨g, cap, cur, hv, hb, hg, hnc, hm, hs, ht⟩
  · have : l = [] := List.eq_nil_of_length_eq_zero hn
    subst this
    rw [hv]; exact .sl0 none 0
  · rw [hv]
    have hxl : xs.length = l.length * c := hown.1
    refine .sl g 0 cap c l (fun i j => xs.getD (i * c + j) undef) hnc hc (fun i j hi hj => ⟨?_, ?_⟩) (fun i j hi hj => (hx i j hi hj).2) (fun i j hi hj => ((hx i j hi hj).1).frz ks)
    · have hlt' : i * c + j < l.length * c := by
        have : (i + 1) * c ≤ l.length * c := Nat.mul_le_mul_right c hi
        rw [Nat.add_mul] at this; omega
      rw [Nat.zero_add]
      exact Gh.frz_mem hd hk (by rw [hv]; rfl) hlt'
    · have hlt' : i * c + j < xs.length := by
        have : (i + 1) * c ≤ l.length * c := Nat.mul_le_mul_right c hi
        rw [Nat.add_mul] at this; omega
      have hcell := hown.cells (g := g) (by rw [hv]; rfl) (i * c + j) (xs.getD (i * c + j) undef) (by simp [List.getD_eq_getElem?_getD, List.getElem?_eq_getElem hlt'])
      have hadd : (⟨g, 0, none⟩ : Addr).add (i * c + j) = ⟨g, 0 + i * c + j, none⟩ := by unfold Addr.add; split <;> simp_all
      rw [hadd] at hcell
      exact hcell

theorem ok?_kind {d g : Nat} {k : OK} (h : e.ok? d g = some k) : e.kind d = k := (Env.ok?_eq h).2.2

theorem view1_rep (h : Rel base w0 ok0 e a w G) {v : Value} {A B : AV} {ks : List Nat} (hA : RepT w G e v A) (hv : e.view1 A = some (B, ks)) :
    RepR w (G.frz e ks).ok v B ∧ B.pure = true := by
  cases A <;> simp only [Env.view1] at hv
  case own d g =>
    cases hk : e.ok? d g with
    | none => simp [hk] at hv
    | some k =>
      cases k <;> simp [hk] at hv
      obtain ⟨rfl, rfl⟩ := hv
      rw [hA.2.2 _ _ _ _ hk]
      exact ⟨row_seen h (ok?_kind hk) (List.mem_singleton.2 rfl), rfl⟩
  all_goals first
    | (simp only [Option.some.injEq, Prod.mk.injEq] at hv; obtain ⟨rfl, rfl⟩ := hv; exact ⟨hA, rfl⟩)
    | (cases hv)

theorem view1_freeze {A : AV} (ks : List Nat) : (e.freeze ks).view1 A = e.view1 A := by
  induction ks generalizing e with
  | nil => rfl
  | cons d ks ih =>
    rw [Env.freeze_cons, ih]
    cases A <;> simp only [Env.view1]
    case own d' g =>
      rw [Env.freeze1_ok?]
      by_cases hd : d = d'
      · rw [if_pos hd]
        cases e.ok? d' g with
        | none => rfl
        | some k => cases k <;> rfl
      · rw [if_neg hd]

theorem views_rep (h : Rel base w0 ok0 e a w G) {l m : List AV} {ks : List Nat} {vs : Nat → Value} (hl : ∀ j, j < l.length → RepT w G e (vs j) (l.getD j .unk)) (hv : e.views l = some (m, ks)) :
    m.length = l.length ∧ ∀ j, j < m.length → RepR w (G.frz e ks).ok (vs j) (m.getD j .unk) ∧ (m.getD j .unk).pure = true := by
  induction l generalizing m ks vs with
  | nil => simp [Env.views] at hv; obtain ⟨rfl, rfl⟩ := hv; exact ⟨rfl, fun j hj => absurd hj (by simp)⟩
  | cons A l ih =>
    simp only [Env.views] at hv
    cases h1 : e.view1 A with
    | none => simp [h1] at hv
    | some r =>
      obtain ⟨B, k1⟩ := r
      simp only [h1] at hv
      cases h2 : e.views l with
      | none => simp [h2] at hv
      | some r =>
        obtain ⟨l', k2⟩ := r
        simp only [h2, Option.some.injEq, Prod.mk.injEq] at hv
        obtain ⟨rfl, rfl⟩ := hv
        obtain ⟨i1, i2⟩ := ih (vs := fun j => vs (j + 1)) (fun j hj => by have := hl (j + 1) (by simpa using hj); simpa using this) h2
        obtain ⟨b1, b2⟩ := view1_rep h (hl 0 (by simp)) h1
        refine ⟨by simp [i1], fun j hj => ?_⟩
        rw [Gh.frz_append]
        cases j with
        | zero => exact ⟨b1.frz k2, b2⟩
        | succ j =>
          obtain ⟨c1, c2⟩ := i2 j (by simpa using hj)
          refine ⟨?_, by simpa using c2⟩
          have : RepR w (G.frz e k2).ok (vs (j + 1)) (l'.getD j .unk) := c1
          refine RepR.mono (fun b o hb => ?_) (fun _ _ _ => rfl) (by simpa using this)
          rw [← Gh.frz_append]
          exact Gh.frz_sub (fun x hx => List.mem_append_right k1 hx) hb

end
end Go.Bv
