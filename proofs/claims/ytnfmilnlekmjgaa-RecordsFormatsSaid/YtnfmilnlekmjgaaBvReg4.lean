/- BY VALUE, part 10: two operations that stand apart give the same in either order. -/
import Derived.Test.YtnfmilnlekmjgaaBvReg3
set_option linter.unusedVariables false
set_option linter.unusedSimpArgs false
namespace Go.Bv

section
variable {R : Nat → List AV → Option AV} {e e1 e2 e' : Env}

theorem AObj.freeze_freeze (o : AObj) : o.freeze.freeze = o.freeze := by
  cases o with
  | mk g k => cases k <;> rfl

theorem freeze_at : ∀ (ks : List Nat) (e : Env) (i : Nat), (e.freeze ks).objs[i]? = if i ∈ ks then (e.objs[i]?).map AObj.freeze else e.objs[i]?
  | [], e, i => by simp [Env.freeze_nil]
  | d :: ks, e, i => by
    rw [Env.freeze_cons, freeze_at ks (e.freeze1 d) i]
    simp only [Env.freeze1, List.getElem?_modify, List.mem_cons]
    by_cases h1 : d = i
    · subst h1
      simp only [if_true, true_or]
      cases e.objs[d]? with
      | none => simp
      | some o => by_cases h2 : d ∈ ks <;> simp [h2, AObj.freeze_freeze]
    · have h1' : ¬ i = d := fun h => h1 h.symm
      simp only [h1, if_false, h1', false_or]
      cases e.objs[i]? <;> simp

theorem freeze_tmps (ks : List Nat) (e : Env) : (e.freeze ks).tmps = e.tmps := rfl
theorem freeze_len (ks : List Nat) (e : Env) : (e.freeze ks).objs.length = e.objs.length := by
  induction ks generalizing e with
  | nil => rfl
  | cons d ks ih => rw [Env.freeze_cons, ih]; simp [Env.freeze1]
theorem freeze_gen (ks : List Nat) (e : Env) (d : Nat) : (e.freeze ks).gen d = e.gen d := by
  unfold Env.gen
  rw [freeze_at]
  by_cases h : d ∈ ks
  · simp only [h, if_true]
    cases e.objs[d]? with
    | none => rfl
    | some o => simp [AObj.freeze_eq]
  · simp [h]

theorem Env.ext2 {e e' : Env} (h1 : e.tmps = e'.tmps) (h2 : ∀ i : Nat, e.objs[i]? = e'.objs[i]?) : e = e' := by
  cases e; cases e'
  simp only at h1 h2
  subst h1
  congr 1
  exact List.ext_getElem? h2

def frzAt (e : Env) (ks : List Nat) (i : Nat) : Option AObj := if i ∈ ks then (e.objs[i]?).map AObj.freeze else e.objs[i]?

/-- What an operation that doesn't write turns. -/
inductive Spec (e : Env) (ks : List Nat) : Option Nat → Res → Env → Prop where
  | val (dst : Option Nat) (A : AV) (e1 : Env) (ht : e1.tmps = (e.put dst A).tmps) (ho : ∀ i : Nat, e1.objs[i]? = frzAt e ks i) : Spec e ks dst (.val A) e1
  | mk (d : Nat) (k : OK) (e1 : Env) (hd : d < e.objs.length) (ht : e1.tmps = e.tmps.set d (k.ref d (e.gen d + 1)))
      (ho : ∀ i : Nat, e1.objs[i]? = if d = i then some ⟨e.gen d + 1, k⟩ else frzAt e ks i) : Spec e ks (some d) (.mk k) e1

theorem spec_of {ks : List Nat} {dst : Option Nat} {r : Res} (h : applyRes (e.freeze ks) dst r = some e1) : Spec e ks dst r e1 := by
  cases r with
  | val A =>
    simp only [applyRes, Option.some.injEq] at h
    subst h
    refine .val dst A _ ?_ (fun i => ?_)
    · cases dst <;> rfl
    · rw [Env.put_objs]; exact freeze_at ks e i
  | mk k =>
    cases dst with
    | none => simp [applyRes] at h
    | some d =>
      simp only [applyRes] at h
      by_cases hd : d < (e.freeze ks).objs.length
      case neg => rw [if_neg hd] at h; cases h
      rw [if_pos hd] at h
      simp only [Option.some.injEq] at h
      subst h
      rw [freeze_len] at hd
      refine .mk d k _ hd ?_ (fun i => ?_)
      · simp only [Env.put, Env.setObj, freeze_gen]; rfl
      · rw [Env.put_objs]
        simp only [Env.setObj, List.getElem?_set, freeze_len, hd, freeze_gen]
        by_cases hi : d = i
        · simp [hi]
        · simp only [hi, if_false]; exact freeze_at ks e i

theorem spec_put {ks : List Nat} {dst : Option Nat} {A : AV} : applyRes (e.freeze ks) dst (.val A) = some ((e.freeze ks).put dst A) := rfl

theorem spec_mk {ks : List Nat} {d : Nat} {k : OK} (hd : d < e.objs.length) : ∃ e1, applyRes (e.freeze ks) (some d) (.mk k) = some e1 := by
  simp only [applyRes, freeze_len, hd, if_true]
  exact ⟨_, rfl⟩

theorem spec_ex {ks ks' : List Nat} {dst : Option Nat} {r : Res} {e0 : Env} (h : Spec e0 ks' dst r e1) (hl : e0.objs.length = e.objs.length) : ∃ e', applyRes (e.freeze ks) dst r = some e' := by
  cases h with
  | val => exact ⟨_, rfl⟩
  | mk d k _ hd => exact spec_mk (by rw [← hl]; exact hd)

theorem spec_len {ks : List Nat} {dst : Option Nat} {r : Res} (h : Spec e ks dst r e1) : e1.objs.length = e.objs.length := by
  have key : ∀ i : Nat, (e1.objs[i]?).isSome = (e.objs[i]?).isSome := by
    intro i
    cases h with
    | val _ A _ ht ho => rw [ho]; unfold frzAt; split <;> simp
    | mk d k _ hd ht ho =>
      rw [ho]
      by_cases hi : d = i
      · subst hi; simp [List.getElem?_eq_getElem hd]
      · rw [if_neg hi]; unfold frzAt; split <;> simp
  rcases Nat.lt_trichotomy e1.objs.length e.objs.length with hh | hh | hh
  · have := key e1.objs.length; simp [hh] at this
  · exact hh
  · have := key e.objs.length; simp [hh] at this

theorem spec_eq {ks : List Nat} {dst : Option Nat} {r : Res} (h1 : Spec e ks dst r e1) (h2 : Spec e ks dst r e2) : e1 = e2 := by
  cases h1 with
  | val _ A _ ht ho => cases h2 with
    | val _ _ _ ht' ho' => exact Env.ext2 (by rw [ht, ht']) (fun i => by rw [ho, ho'])
  | mk d k _ hd ht ho => cases h2 with
    | mk _ _ _ _ ht' ho' => exact Env.ext2 (by rw [ht, ht']) (fun i => by rw [ho, ho'])

def Res.made (r : Res) (e : Env) (dst : Option Nat) : Prop := ∀ k d, r = .mk k → dst = some d → e.kind d = .dead

theorem gen_at {i : Nat} (h : e1.objs[i]? = e.objs[i]?) : e1.gen i = e.gen i := by unfold Env.gen; rw [h]

theorem kind_none {i : Nat} (h : e.objs[i]? = none) : e.kind i = .dead := by unfold Env.kind; rw [h]
theorem live_key {ks : List Nat} (h : KeysLive e ks) {d : Nat} (hd : e.kind d = .dead) : d ∉ ks := fun hk => by
  obtain ⟨E, c, f, l, h⟩ := h d hk
  rw [hd] at h; cases h

theorem frzAt_gen {ks : List Nat} {i : Nat} (h : e1.objs[i]? = frzAt e ks i) : e1.gen i = e.gen i := by
  unfold Env.gen
  rw [h]
  unfold frzAt
  by_cases hi : i ∈ ks
  · rw [if_pos hi]
    cases e.objs[i]? with
    | none => rfl
    | some o => simp [AObj.freeze_eq]
  · rw [if_neg hi]

/-- The two effects, one behind the other. -/
theorem eff_swap {ka kb : List Nat} {da db : Option Nat} {ra rb : Res} (h1 : applyRes (e.freeze ka) da ra = some e1) (h2 : applyRes (e1.freeze kb) db rb = some e2)
    (hne : ∀ d, da = some d → db ≠ some d) (hda : ra.made e da) (hdb : rb.made e db) (hka : KeysLive e ka) (hkb : KeysLive e kb) :
    ∃ e1', applyRes (e.freeze kb) db rb = some e1' ∧ applyRes (e1'.freeze ka) da ra = some e2 := by
  have s1 := spec_of h1
  have s2 := spec_of h2
  have l1 := spec_len s1
  obtain ⟨e1', h3⟩ := spec_ex (ks := kb) s2 l1
  have s3 := spec_of h3
  have l3 := spec_len s3
  obtain ⟨e2', h4⟩ := spec_ex (ks := ka) s1 l3.symm
  have s4 := spec_of h4
  refine ⟨e1', h3, ?_⟩
  rw [h4]
  congr 1
  have frz2 : ∀ i : Nat, (if i ∈ kb then ((if i ∈ ka then (e.objs[i]?).map AObj.freeze else e.objs[i]?)).map AObj.freeze else (if i ∈ ka then (e.objs[i]?).map AObj.freeze else e.objs[i]?)) =
      (if i ∈ ka then ((if i ∈ kb then (e.objs[i]?).map AObj.freeze else e.objs[i]?)).map AObj.freeze else (if i ∈ kb then (e.objs[i]?).map AObj.freeze else e.objs[i]?)) := by
    intro i
    by_cases p : i ∈ ka <;> by_cases q : i ∈ kb <;> simp [p, q]
  cases s1 with
  | val _ A _ ht1 ho1 =>
    cases s2 with
    | val _ B _ ht2 ho2 =>
      cases s3 with
      | val _ _ _ ht3 ho3 =>
      cases s4 with
      | val _ _ _ ht4 ho4 =>
      refine Env.ext2 ?_ (fun i => ?_)
      · rw [ht4, ht2]
        cases da with
        | none => cases db <;> simp [Env.put, ht1, ht3]
        | some d => cases db with
          | none => simp [Env.put, ht1, ht3]
          | some d' =>
            simp only [Env.put, ht1, ht3]
            rw [List.set_comm]
            exact fun h => hne d rfl (by rw [h])
      · rw [ho4, ho2]
        simp only [frzAt, ho1, ho3]
        exact (frz2 i).symm
    | mk d' k' _ hd2 ht2 ho2 =>
      cases s3 with
      | mk _ _ _ hd3 ht3 ho3 =>
      cases s4 with
      | val _ _ _ ht4 ho4 =>
      have dead := hdb k' d' rfl rfl
      have hg : e1.gen d' = e.gen d' := frzAt_gen (ho1 d')
      refine Env.ext2 ?_ (fun i => ?_)
      · rw [ht4, ht2, hg]
        cases da with
        | none => simp [Env.put, ht1, ht3]
        | some d =>
          simp only [Env.put, ht1, ht3]
          rw [List.set_comm]
          exact fun h => hne d rfl (by rw [h])
      · rw [ho4, ho2]
        by_cases hi : d' = i
        · subst hi
          simp only [frzAt, if_neg (live_key hka dead), ho3, if_true, hg]
        · simp only [frzAt, if_neg hi, ho1, ho3]
          exact (frz2 i).symm
  | mk d k _ hd1 ht1 ho1 =>
    have deada := hda k d rfl rfl
    cases s2 with
    | val _ B _ ht2 ho2 =>
      cases s3 with
      | val _ _ _ ht3 ho3 =>
      cases s4 with
      | mk _ _ _ hd4 ht4 ho4 =>
      have hg : e1'.gen d = e.gen d := frzAt_gen (ho3 d)
      refine Env.ext2 ?_ (fun i => ?_)
      · rw [ht4, ht2, hg]
        cases db with
        | none => simp [Env.put, ht1, ht3]
        | some d' =>
          simp only [Env.put, ht1, ht3]
          rw [List.set_comm]
          exact fun h => hne d rfl (by rw [h])
      · rw [ho4, ho2]
        by_cases hi : d = i
        · subst hi
          simp only [frzAt, if_neg (live_key hkb deada), ho1, if_true, hg]
        · simp only [frzAt, if_neg hi, ho1, ho3]
          exact (frz2 i).symm
    | mk d' k' _ hd2 ht2 ho2 =>
      cases s3 with
      | mk _ _ _ hd3 ht3 ho3 =>
      cases s4 with
      | mk _ _ _ hd4 ht4 ho4 =>
      have deadb := hdb k' d' rfl rfl
      have hdd : ¬ d = d' := fun h => hne d rfl (by rw [h])
      have hdd' : ¬ d' = d := fun h => hdd h.symm
      have hg : e1'.gen d = e.gen d := frzAt_gen (ks := kb) (by rw [ho3 d, if_neg hdd'])
      have hg' : e1.gen d' = e.gen d' := frzAt_gen (ks := ka) (by rw [ho1 d', if_neg hdd])
      refine Env.ext2 ?_ (fun i => ?_)
      · rw [ht4, ht2, hg, hg', ht1, ht3, List.set_comm _ _ hdd]
      · rw [ho4, ho2]
        by_cases hi : d = i
        · subst hi
          simp only [frzAt, if_neg (live_key hkb deada), ho1, if_true, hg, if_neg hdd']
        · by_cases hi' : d' = i
          · subst hi'
            simp only [frzAt, if_neg (live_key hka deadb), ho3, if_true, hg', if_neg hdd]
          · simp only [frzAt, if_neg hi, if_neg hi', ho1, ho3]
            exact (frz2 i).symm

/-! ### What is seen behind an effect -/
theorem cont_kind (e : Env) (d g : Nat) : e.cont d g = if d < e.objs.length ∧ e.gen d = g then (e.kind d).cont else none := by
  unfold Env.cont
  by_cases hd : d < e.objs.length
  · by_cases hg : e.gen d = g
    · rw [Env.ok?_of hd hg, if_pos ⟨hd, hg⟩]; rfl
    · rw [if_neg (fun h => hg h.2)]
      unfold Env.ok?
      unfold Env.gen at hg
      rw [List.getElem?_eq_getElem hd] at hg ⊢
      simp only at hg ⊢
      rw [if_neg hg]; rfl
  · rw [if_neg (fun h => hd h.1)]
    unfold Env.ok?
    rw [List.getElem?_eq_none (Nat.le_of_not_lt hd)]; rfl

theorem frzAt_cont {ks : List Nat} {i : Nat} (h : e1.objs[i]? = frzAt e ks i) : (e1.kind i).cont = (e.kind i).cont := by
  unfold Env.kind
  rw [h]
  unfold frzAt
  by_cases hi : i ∈ ks
  · rw [if_pos hi]
    cases e.objs[i]? with
    | none => rfl
    | some o =>
      simp only [Option.map_some, AObj.freeze_eq]
      cases o.k <;> rfl
  · rw [if_neg hi]

theorem spec_sees {ks : List Nat} {dst : Option Nat} {r : Res} (h : Spec e ks dst r e1) (hd : r.made e dst) : Sees e.q e e1 := by
  have hl := spec_len h
  refine ⟨fun d g hg => ?_⟩
  rw [cont_kind, cont_kind, hl]
  cases h with
  | val _ A _ ht ho => rw [frzAt_gen (ho d), frzAt_cont (ho d)]
  | mk d' k _ hd' ht ho =>
    by_cases hi : d' = d
    · subst hi
      have h1 : e1.gen d' = e.gen d' + 1 := by unfold Env.gen; rw [ho, if_pos rfl]; rfl
      have h2 : ¬ (d' < e.objs.length ∧ e1.gen d' = g) := fun hh => by
        have : g ≤ e.gen d' := hg
        omega
      rw [if_neg h2, hd k d' rfl rfl]
      simp [OK.cont]
    · have ho' := ho d
      rw [if_neg hi] at ho'
      rw [frzAt_gen ho', frzAt_cont ho']

theorem spec_gen {ks : List Nat} {dst : Option Nat} {r : Res} (h : Spec e ks dst r e1) (d : Nat) : e.gen d ≤ e1.gen d := by
  cases h with
  | val _ A _ ht ho => rw [frzAt_gen (ho d)]; exact Nat.le_refl _
  | mk d' k _ hd' ht ho =>
    by_cases hi : d' = d
    · subst hi
      have h1 : e1.gen d' = e.gen d' + 1 := by unfold Env.gen; rw [ho, if_pos rfl]; rfl
      omega
    · have ho' := ho d
      rw [if_neg hi] at ho'
      rw [frzAt_gen ho']; exact Nat.le_refl _

theorem frzAt_dead {ks : List Nat} {i : Nat} (h : e1.objs[i]? = frzAt e ks i) (hd : e.kind i = .dead) : e1.kind i = .dead := by
  have := frzAt_cont h
  rw [hd] at this
  cases hk : e1.kind i with
  | dead => rfl
  | box l => rw [hk] at this; cases this
  | row E c f l => rw [hk] at this; cases this

theorem spec_dead {ks : List Nat} {dst : Option Nat} {r : Res} (h : Spec e ks dst r e1) {d : Nat} (hne : dst ≠ some d) (hd : e.kind d = .dead) : e1.kind d = .dead := by
  cases h with
  | val _ A _ ht ho => exact frzAt_dead (ho d) hd
  | mk d' k _ hd' ht ho =>
    have hi : ¬ d' = d := fun h => hne (by rw [h])
    have ho' := ho d
    rw [if_neg hi] at ho'
    exact frzAt_dead ho' hd

theorem bdd1_mono {q q' : Nat → Nat → Prop} (h : ∀ d g, q d g → q' d g) {A : AV} (hA : bdd1 q A) : bdd1 q' A := by
  cases A <;> first | trivial | exact h _ _ hA
theorem bddA_mono {q q' : Nat → Nat → Prop} (h : ∀ d g, q d g → q' d g) {A : AV} (hA : bddA q A) : bddA q' A := by
  cases A <;> first | trivial | exact h _ _ hA | exact fun B hB => bdd1_mono h (hA B hB)

theorem cont_box {d g : Nat} {l : List AV} : e.ok? d g = some (.box l) ↔ e.cont d g = some (.box l) := by
  unfold Env.cont
  cases e.ok? d g with
  | none => simp
  | some k => cases k <;> simp [OK.cont]

/-- What such an operation leaves is bounded again. -/
theorem spec_bdd {ks : List Nat} {dst : Option Nat} {r : Res} (h : Spec e ks dst r e1) (hb : Bdd e.q e) (hb1 : e.box1) (hr : ResOk e r) : Bdd e1.q e1 ∧ e1.box1 := by
  have hq : ∀ d g, e.q d g → e1.q d g := fun d g hh => Nat.le_trans hh (spec_gen h d)
  have hl := spec_len h
  have ht : ∀ t, bddA e1.q (e1.tmps.getD t .unk) := by
    intro t
    cases h with
    | val _ A _ ht ho =>
      rw [ht]
      cases dst with
      | none => exact bddA_mono hq (hb.tmps t)
      | some d =>
        simp only [Env.put]
        by_cases hdt : d = t
        · subst hdt
          rcases Nat.lt_or_ge d e.tmps.length with hlt | hge
          · rw [getD_set_eq _ _ _ _ hlt]; exact bddA_mono hq hr
          · rw [List.getD_eq_getElem?_getD, List.getElem?_eq_none (by simpa using hge)]; exact trivial
        · rw [getD_set_ne' _ _ _ _ _ hdt]; exact bddA_mono hq (hb.tmps t)
    | mk d k _ hd ht ho =>
      rw [ht]
      by_cases hdt : d = t
      · subst hdt
        have h1 : e1.gen d = e.gen d + 1 := by unfold Env.gen; rw [ho, if_pos rfl]; rfl
        rcases Nat.lt_or_ge d e.tmps.length with hlt | hge
        · rw [getD_set_eq _ _ _ _ hlt]
          cases k <;> exact (show e.gen d + 1 ≤ e1.gen d by omega)
        · rw [List.getD_eq_getElem?_getD, List.getElem?_eq_none (by simpa using hge)]; exact trivial
      · rw [getD_set_ne' _ _ _ _ _ hdt]; exact bddA_mono hq (hb.tmps t)
  have hbox : ∀ d g l, e1.ok? d g = some (.box l) → ∀ A ∈ l, bdd1 e1.q A ∧ A.cell1 = true := by
    intro d g l hk A hA
    have old : e.ok? d g = some (.box l) → bdd1 e1.q A ∧ A.cell1 = true := fun hh => ⟨bdd1_mono hq (hb.box d g l hh A hA), hb1 d g l hh A hA⟩
    rw [cont_box, cont_kind, hl] at hk
    cases h with
    | val _ B _ ht ho =>
      rw [frzAt_gen (ho d), frzAt_cont (ho d)] at hk
      exact old (by rw [cont_box, cont_kind]; exact hk)
    | mk d' k _ hd ht ho =>
      by_cases hi : d' = d
      · subst hi
        have hkk : e1.kind d' = k := by unfold Env.kind; rw [ho, if_pos rfl]
        rw [hkk] at hk
        split at hk
        · cases k with
          | dead => cases hk
          | box l' =>
            simp only [OK.cont, Option.some.injEq, Cont.box.injEq] at hk
            subst hk
            have := hr A hA
            exact ⟨pure_bdd1 this, AV.pure_cell1 this⟩
          | row => simp [OK.cont] at hk
        · cases hk
      · have ho' := ho d
        rw [if_neg hi] at ho'
        rw [frzAt_gen ho', frzAt_cont ho'] at hk
        exact old (by rw [cont_box, cont_kind]; exact hk)
  exact ⟨⟨ht, fun d g l hk A hA => (hbox d g l hk A hA).1⟩, fun d g l hk A hA => (hbox d g l hk A hA).2⟩

end
end Go.Bv
