/- BY VALUE, part 12: regions whose order is drawn. -/
import Derived.Test.YtnfmilnlekmjgaaBvReg1
import Derived.Test.YtnfmilnlekmjgaaBvReg5
set_option linter.unusedVariables false
set_option linter.unusedSimpArgs false
namespace Go.Bv
open Go.RowKit

/-- Which must come before which: told number by number. -/
def edgesOf (o : Oper) : List Nat := (o.after.toList.filter fun e => Region.binds .any e).map (·.on)
def ancs (ops : List Oper) : List (List Nat) :=
  ops.foldl (fun acc o => acc ++ [(edgesOf o).foldl (fun s k => (k :: acc.getD k []).foldl (fun s x => if s.contains x then s else x :: s) s) []]) []

def okDstC (a b : OP) : Bool := !(a.op.makes || b.op.makes) || (match a.dst with | some d => b.dst != some d | none => true)

def regOk (ops : List Oper) (cs : List OP) (ks : List Nat) : Bool :=
  let A := ancs ops
  (List.range cs.length).all (fun j => match ops[j]?, cs[j]? with
    | some o, some c =>
      (edgesOf o).all (fun k => Nat.blt k j) &&
      (A.getD j []).all (fun i => (edgesOf o).any (fun k => k == i || (A.getD k []).contains i)) &&
      c.op.okc && (!c.op.makes || (match c.dst with | some d => ks.contains d | none => true)) &&
      (List.range j).all (fun i => match cs[i]? with
        | some b => ((A.getD j []).contains i || apartC b c) && okDstC b c
        | none => false)
    | _, _ => false)

structure RegOk (ops : List Oper) (cs : List OP) (ks : List Nat) (A : Nat → List Nat) : Prop where
  len : cs.length ≤ ops.length
  edge : ∀ (j : Nat) (o : Oper), j < cs.length → ops[j]? = some o → ∀ k ∈ edgesOf o, k < j
  anc : ∀ (j : Nat) (o : Oper), j < cs.length → ops[j]? = some o → ∀ i ∈ A j, ∃ k ∈ edgesOf o, k = i ∨ i ∈ A k
  okc : ∀ c ∈ cs, c.op.okc = true
  kill : ∀ c ∈ cs, c.op.makes = true → ∀ d, c.dst = some d → d ∈ ks
  apart : ∀ (i j : Nat) (a b : OP), i < j → cs[i]? = some a → cs[j]? = some b → i ∈ A j ∨ Apart a b
  dst : ∀ (i j : Nat) (a b : OP), i < j → cs[i]? = some a → cs[j]? = some b → okDst a b

theorem regOk_spec {ops : List Oper} {cs : List OP} {ks : List Nat} (h : regOk ops cs ks = true) : RegOk ops cs ks (fun j => (ancs ops).getD j []) := by
  unfold regOk at h
  simp only [List.all_eq_true, List.mem_range] at h
  have hj : ∀ j, j < cs.length → ∃ o c, ops[j]? = some o ∧ cs[j]? = some c ∧ (∀ k ∈ edgesOf o, k < j) ∧ (∀ i ∈ (ancs ops).getD j [], ∃ k ∈ edgesOf o, k = i ∨ i ∈ (ancs ops).getD k []) ∧ c.op.okc = true ∧
      (c.op.makes = true → ∀ d, c.dst = some d → d ∈ ks) ∧ ∀ i, i < j → ∃ b, cs[i]? = some b ∧ (i ∈ (ancs ops).getD j [] ∨ Apart b c) ∧ okDst b c := by
    intro j hj
    have := h j hj
    cases ho : ops[j]? with
    | none => simp [ho] at this
    | some o =>
      cases hc : cs[j]? with
      | none => simp [ho, hc] at this
      | some c =>
        simp only [ho, hc, Bool.and_eq_true, List.all_eq_true, List.mem_range] at this
        obtain ⟨⟨⟨⟨h1, h2⟩, h3⟩, h4⟩, h5⟩ := this
        refine ⟨o, c, rfl, rfl, fun k hk => ?_, fun i hi => ?_, h3, fun hm d hd => ?_, fun i hi => ?_⟩
        · have := h1 k hk; simpa [Nat.blt_eq] using this
        · have := h2 i hi
          obtain ⟨k, hk, hki⟩ := List.any_eq_true.1 this
          simp only [Bool.or_eq_true, beq_iff_eq, List.contains_iff_mem] at hki
          exact ⟨k, hk, hki⟩
        · simp only [hm, hd, Bool.not_true, Bool.false_or, List.contains_iff_mem] at h4
          exact h4
        · have := h5 i hi
          cases hb : cs[i]? with
          | none => simp [hb] at this
          | some b =>
            simp only [hb, Bool.and_eq_true, Bool.or_eq_true, List.contains_iff_mem] at this
            refine ⟨b, rfl, this.1.imp id apartC_spec, fun hm d hd => ?_⟩
            have h6 := this.2
            unfold okDstC at h6
            rw [hd] at h6
            have : (b.op.makes || c.op.makes) = true := by simpa using hm
            simp only [this, Bool.not_true, Bool.false_or, bne_iff_ne, ne_eq] at h6
            exact h6
  have hmem : ∀ c ∈ cs, ∃ j, j < cs.length ∧ cs[j]? = some c := fun c hc => by
    obtain ⟨j, hlt, hh⟩ := List.getElem_of_mem hc
    exact ⟨j, hlt, by rw [List.getElem?_eq_getElem hlt, hh]⟩
  refine ⟨?_, ?_, ?_, ?_, ?_, ?_, ?_⟩
  · rcases Nat.lt_or_ge ops.length cs.length with hlt | hge
    · obtain ⟨o, c, h1, _⟩ := hj ops.length hlt
      simp at h1
    · exact hge
  · intro j o hlt ho k hk
    obtain ⟨o', c, h1, h2, h3, _⟩ := hj j hlt
    rw [ho] at h1; cases h1
    exact h3 k hk
  · intro j o hlt ho i hi
    obtain ⟨o', c, h1, h2, h3, h4, _⟩ := hj j hlt
    rw [ho] at h1; cases h1
    exact h4 i hi
  · intro c hc
    obtain ⟨j, hlt, hcj⟩ := hmem c hc
    obtain ⟨o', c', h1, h2, h3, h4, h5, _⟩ := hj j hlt
    rw [hcj] at h2; cases h2
    exact h5
  · intro c hc
    obtain ⟨j, hlt, hcj⟩ := hmem c hc
    obtain ⟨o', c', h1, h2, h3, h4, h5, h6, _⟩ := hj j hlt
    rw [hcj] at h2; cases h2
    exact h6
  · intro i j a b hij ha hb
    obtain ⟨o', c', h1, h2, h3, h4, h5, h6, h7⟩ := hj j (List.getElem?_eq_some_iff.1 hb).1
    rw [hb] at h2; cases h2
    obtain ⟨b', h8, h9, h10⟩ := h7 i hij
    rw [ha] at h8; cases h8
    exact h9
  · intro i j a b hij ha hb
    obtain ⟨o', c', h1, h2, h3, h4, h5, h6, h7⟩ := hj j (List.getElem?_eq_some_iff.1 hb).1
    rw [hb] at h2; cases h2
    obtain ⟨b', h8, h9, h10⟩ := h7 i hij
    rw [ha] at h8; cases h8
    exact h10

section
variable {P : Program} {base : Nat} {w0 : World} {ok0 : Nat → Nat → Prop} {e : Env} {a : Act} {w : World} {G : Gh}
variable {R : Nat → List AV → Option AV} {Q : Exit → Act → World → Prop} {e' : Env} {ops : Array Oper}

theorem RepR.bdd {q : Nat → Nat → Prop} {ok : Nat → Nat → Prop} {v : Value} {A : AV} (h : RepR w ok v A) : bddA q A := by
  cases h <;> try trivial
  rename_i vs l hs hp hr
  intro B hB
  obtain ⟨j, hj, rfl⟩ := List.getElem_of_mem hB
  have := hp j hj
  rw [List.getD_eq_getElem?_getD, List.getElem?_eq_getElem hj] at this
  exact pure_bdd1 this

theorem RepT.bdd {v : Value} {A : AV} (h : RepT w G e v A) : bddA e.q A := by
  cases A <;> first | exact h.2.1 | exact RepR.bdd h

theorem bddA_cell {q : Nat → Nat → Prop} {A : AV} (h : bddA q A) (hc : A.cell1 = true) : bdd1 q A := by
  cases A <;> first | trivial | exact h | (simp [AV.cell1] at hc)

theorem Rel.fit (h : Rel base w0 ok0 e a w G) {cs : List OP} (hd : ∀ c ∈ cs, Dead e c) : Fit e cs := by
  have hbox : ∀ d g l, e.ok? d g = some (.box l) → ∀ A ∈ l, bdd1 e.q A ∧ A.cell1 = true := by
    intro d g l hk A hA
    obtain ⟨hlt, hg, hkd⟩ := Env.ok?_eq hk
    have := h.objs d hlt
    rw [hkd] at this
    obtain ⟨b, vs, T, h1, h2, h3, h4, h5, h6⟩ := this
    obtain ⟨j, hj, rfl⟩ := List.getElem_of_mem hA
    have hh := h5 j hj
    rw [List.getD_eq_getElem?_getD, List.getElem?_eq_getElem hj] at hh
    simp only [Option.getD_some] at hh
    exact ⟨bddA_cell hh.1.bdd hh.2, hh.2⟩
  refine ⟨⟨fun t => ?_, fun d g l hk A hA => (hbox d g l hk A hA).1⟩, fun d g l hk A hA => (hbox d g l hk A hA).2, hd⟩
  rcases Nat.lt_or_ge t e.tmps.length with ht | ht
  · exact (h.tmps t ht).bdd
  · rw [List.getD_eq_getElem?_getD, List.getElem?_eq_none ht]; trivial

theorem kill1_kind (e : Env) (d d' : Nat) : (e.kill1 d).kind d' = if d = d' then .dead else e.kind d' := by
  unfold Env.kill1 Env.kind
  rw [List.getElem?_modify]
  by_cases h : d = d'
  · subst h
    simp only [if_true]
    cases e.objs[d]? with
    | none => rfl
    | some o => rfl
  · simp only [if_neg h]
    cases e.objs[d']? <;> rfl

theorem kill_dead' : ∀ (ks : List Nat) (e : Env) (d : Nat), e.kind d = .dead → (e.kill ks).kind d = .dead
  | [], e, d, h => h
  | k :: ks, e, d, h => by
    rw [Env.kill_cons]
    refine kill_dead' ks _ d ?_
    rw [kill1_kind]; split
    · rfl
    · exact h
theorem kill_dead : ∀ (ks : List Nat) (e : Env) (d : Nat), d ∈ ks → (e.kill ks).kind d = .dead
  | k :: ks, e, d, h => by
    rw [Env.kill_cons]
    rcases List.mem_cons.1 h with rfl | h
    · exact kill_dead' ks _ d (by rw [kill1_kind, if_pos rfl])
    · exact kill_dead ks _ d h

/-- Every order of a region that is well. -/
theorem simAny (hR : VSound P R) {cs : List OP} {ks : List Nat} {A : Nat → List Nat} (hcs : compOPs P ops ops.toList = some cs) (hok : RegOk ops.toList cs ks A) (hQ : ∀ a' w' G', Rel base w0 ok0 e' a' w' G' → Q .normal a' w') :
    ∀ (n : Nat) (rem : List Nat) (listed : Array Bool) (e : Env) (a : Act) (w : World) (G : Gh), rem.length = n → rem.Pairwise (· < ·) → (∀ i ∈ rem, i < ops.size) → listed.size = ops.size →
      (∀ i, i < ops.size → (listed.getD i true = false ↔ i ∈ rem)) → (∀ j, j < ops.size → listed.getD j true = true → ∀ i ∈ A j, listed.getD i true = true) →
      (∀ i ∈ rem, ∀ c, cs[i]? = some c → Dead e c) → Rel base w0 ok0 e a w G → evalOps R (rem.map (fun i => cs.getD i default)) e = some e' →
      wpAny P .any ops Q n listed a w := by
  obtain ⟨hl, hsp⟩ := compOPs_spec hcs
  have hl' : cs.length = ops.size := by rw [hl]; simp
  have hget : ∀ i, i < ops.size → ∃ o c, ops[i]? = some o ∧ cs[i]? = some c ∧ cs.getD i default = c ∧ compOP P ops o = some c := fun i hi => by
    obtain ⟨o, c, h1, h2, h3⟩ := hsp i (by simpa using hi)
    exact ⟨o, c, by rw [← Array.getElem?_toList]; exact h1, h2, by rw [List.getD_eq_getElem?_getD, h2]; rfl, h3⟩
  intro n
  induction n with
  | zero =>
    intro rem listed e a w G hn hpw hlt hls hinv hanc hdead h he
    have hnil : rem = [] := List.length_eq_zero_iff.1 hn
    subst hnil
    simp only [List.map_nil, evalOps, Option.some.injEq] at he
    subst he
    refine ⟨?_, hQ _ _ _ h⟩
    unfold Region.ready
    rw [List.filter_eq_nil_iff]
    intro i hi
    have : listed.getD i true = true := by
      cases hh : listed.getD i true with
      | true => rfl
      | false => exact absurd ((hinv i (List.mem_range.1 hi)).1 hh) (by simp)
    simp [this]
  | succ n ih =>
    intro rem listed e a w G hn hpw hlt hls hinv hanc hdead h he
    have ready_iff : ∀ i, i ∈ Region.ready .any ops listed ↔ i < ops.size ∧ listed.getD i true = false ∧ ∃ o, ops[i]? = some o ∧ ∀ k ∈ edgesOf o, listed.getD k false = true := by
      intro i
      unfold Region.ready
      rw [List.mem_filter, List.mem_range]
      refine and_congr_right fun hi => ?_
      obtain ⟨o, c, h1, _⟩ := hget i hi
      rw [h1]
      simp only [Option.map_some, Option.getD_some, Bool.and_eq_true, Bool.not_eq_true', Option.some.injEq, exists_eq_left']
      refine and_congr_right fun _ => ?_
      rw [← Array.all_toList, List.all_eq_true]
      unfold edgesOf
      simp only [List.mem_map, List.mem_filter, Bool.or_eq_true, Bool.not_eq_true', forall_exists_index, and_imp]
      constructor
      · intro hh k x hx hb hk
        subst hk
        rcases hh x hx with h2 | h2
        · rw [hb] at h2; cases h2
        · exact h2
      · intro hh x hx
        cases hb : Region.binds .any x with
        | false => exact .inl rfl
        | true => exact .inr (hh x.on x hx hb rfl)
    have getTF : ∀ k, k < ops.size → listed.getD k false = listed.getD k true := fun k hk => by
      rw [Array.getD_eq_getD_getElem?, Array.getD_eq_getD_getElem?, Array.getElem?_eq_getElem (by rw [hls]; exact hk)]; rfl
    refine ⟨fun hnil => ?_, fun i hi => ?_⟩
    · exfalso
      cases rem with
      | nil => simp at hn
      | cons j rem =>
        have hj := hlt j (by simp)
        obtain ⟨o, c, h1, h2, _⟩ := hget j hj
        have : j ∈ Region.ready .any ops listed := by
          rw [ready_iff]
          refine ⟨hj, (hinv j hj).2 (by simp), o, h1, fun k hk => ?_⟩
          have hkj := hok.edge j o (by rw [hl']; exact hj) (by rw [Array.getElem?_toList]; exact h1) k hk
          have hko : k < ops.size := by omega
          rw [getTF k hko]
          cases hh : listed.getD k true with
          | true => rfl
          | false =>
            have := (hinv k hko).1 hh
            rcases List.mem_cons.1 this with rfl | hm
            · omega
            · have := (List.pairwise_cons.1 hpw).1 k hm; omega
        rw [hnil] at this; cases this
    · obtain ⟨hio, hil, o, ho, hed⟩ := (ready_iff i).1 hi
      have hirem := (hinv i hio).1 hil
      obtain ⟨o', c, h1, h2, h2', h3⟩ := hget i hio
      rw [ho] at h1; cases h1
      -- the ancestors of what is ready are listed
      have hancl : ∀ k ∈ A i, listed.getD k true = true := by
        intro k hk
        obtain ⟨m, hm, hmk⟩ := hok.anc i o (by rw [hl']; exact hio) (by rw [Array.getElem?_toList]; exact ho) k hk
        have hmi := hok.edge i o (by rw [hl']; exact hio) (by rw [Array.getElem?_toList]; exact ho) m hm
        have hml : listed.getD m true = true := by rw [← getTF m (by omega)]; exact hed m hm
        rcases hmk with rfl | hmk
        · exact hml
        · exact hanc m (by omega) hml k hmk
      obtain ⟨r1, r2, hrem⟩ := List.append_of_mem hirem
      have hpw' := hpw
      rw [hrem, List.pairwise_append] at hpw'
      obtain ⟨p1, p2, p3⟩ := hpw'
      have hr1 : ∀ p ∈ r1, p < i := fun p hp => p3 p hp i (by simp)
      have memr : ∀ p ∈ r1, p ∈ rem := fun p hp => by rw [hrem]; simp [hp]
      have memr2 : ∀ p ∈ r2, p ∈ rem := fun p hp => by rw [hrem]; simp [hp]
      have memcs : ∀ j, j < ops.size → cs.getD j default ∈ cs := fun j hj => by
        obtain ⟨_, c', _, q2, q3, _⟩ := hget j hj
        rw [q3]; exact List.mem_of_getElem? q2
      rw [hrem, List.map_append, List.map_cons, h2'] at he
      obtain ⟨e1, he1, he2⟩ := bubble (r1.map (fun i => cs.getD i default)) c (r2.map (fun i => cs.getD i default)) e
        (fun p hp => by
          obtain ⟨j, hj, rfl⟩ := List.mem_map.1 hp
          have hjo := hlt j (memr j hj)
          obtain ⟨_, c', _, q2, q3, _⟩ := hget j hjo
          rw [q3]
          rcases hok.apart j i c' c (hr1 j hj) q2 h2 with hh | hh
          · have := hancl j hh
            have h5 := (hinv j hjo).2 (memr j hj)
            rw [this] at h5; cases h5
          · exact hh)
        (fun p hp => by
          rcases List.mem_cons.1 hp with rfl | hp
          · exact hok.okc p (List.mem_of_getElem? h2)
          · obtain ⟨j, hj, rfl⟩ := List.mem_map.1 hp
            exact hok.okc _ (memcs j (hlt j (memr j hj))))
        (by
          rw [List.pairwise_map]
          refine p1.imp_of_mem (fun {j j'} hj hj' hjj => ?_)
          obtain ⟨_, c1, _, q2, q3, _⟩ := hget j (hlt j (memr j hj))
          obtain ⟨_, c2, _, q2', q3', _⟩ := hget j' (hlt j' (memr j' hj'))
          rw [q3, q3']
          exact hok.dst j j' c1 c2 hjj q2 q2')
        (fun p hp => by
          obtain ⟨j, hj, rfl⟩ := List.mem_map.1 hp
          obtain ⟨_, c1, _, q2, q3, _⟩ := hget j (hlt j (memr j hj))
          rw [q3]
          exact hok.dst j i c1 c (hr1 j hj) q2 h2)
        (fun _ => h.fit (fun p hp => by
          rcases List.mem_cons.1 hp with rfl | hp
          · exact hdead i hirem p h2
          · obtain ⟨j, hj, rfl⟩ := List.mem_map.1 hp
            obtain ⟨_, c1, _, q2, q3, _⟩ := hget j (hlt j (memr j hj))
            rw [q3]
            exact hdead j (memr j hj) c1 q2))
        he
      refine simOP hR h ho h3 he1 (fun a' w' G' h' => ?_)
      have hset : ∀ k, k < ops.size → (listed.setIfInBounds i true).getD k true = if i = k then true else listed.getD k true := by
        intro k hk
        rw [Array.getD_eq_getD_getElem?, Array.getElem?_setIfInBounds, Array.getD_eq_getD_getElem?]
        by_cases hik : i = k
        · subst hik; simp [hls, hio]
        · simp [hik]
      refine ih (r1 ++ r2) _ e1 a' w' G' ?_ ?_ ?_ ?_ ?_ ?_ ?_ h' ?_
      · rw [hrem] at hn; simp at hn ⊢; omega
      · rw [List.pairwise_append]
        exact ⟨p1, (List.pairwise_cons.1 p2).2, fun x hx y hy => p3 x hx y (by simp [hy])⟩
      · intro k hk
        rcases List.mem_append.1 hk with hk | hk
        · exact hlt k (memr k hk)
        · exact hlt k (memr2 k hk)
      · simp [hls]
      · intro k hk
        rw [hset k hk]
        by_cases hik : i = k
        · subst hik
          simp only [if_true]
          refine ⟨fun hh => (by cases hh), fun hh => ?_⟩
          rcases List.mem_append.1 hh with hh | hh
          · have := hr1 i hh; omega
          · have := (List.pairwise_cons.1 p2).1 i hh; omega
        · rw [if_neg hik, hinv k hk, hrem]
          simp only [List.mem_append, List.mem_cons]
          constructor
          · rintro (hh | hh | hh)
            · exact .inl hh
            · exact absurd hh.symm hik
            · exact .inr hh
          · rintro (hh | hh)
            · exact .inl hh
            · exact .inr (.inr hh)
      · intro j hj hjl k hk
        have key : listed.getD k true = true → (listed.setIfInBounds i true).getD k true = true := fun hh => by
          rcases Nat.lt_or_ge k ops.size with hks | hks
          · rw [hset k hks]; split
            · rfl
            · exact hh
          · rw [Array.getD_eq_getD_getElem?, Array.getElem?_eq_none (by simp [hls]; exact hks)]; rfl
        rw [hset j hj] at hjl
        by_cases hij : i = j
        · subst hij; exact key (hancl k hk)
        · rw [if_neg hij] at hjl; exact key (hanc j hj hjl k hk)
      · intro k hk c' hc' hm d hd
        have hkr : k ∈ rem := by
          rcases List.mem_append.1 hk with hk | hk
          · exact memr k hk
          · exact memr2 k hk
        have hki : k ≠ i := fun hh => by
          subst hh
          rcases List.mem_append.1 hk with hh | hh
          · have := hr1 k hh; omega
          · have := (List.pairwise_cons.1 p2).1 k hh; omega
        refine evalOP_dead he1 (fun hh => ?_) (hdead k hkr c' hc' hm d hd)
        rcases Nat.lt_or_gt_of_ne hki with hlt' | hgt
        · exact hok.dst k i c' c hlt' hc' h2 (.inl hm) d hd hh
        · exact hok.dst i k c c' hgt h2 hc' (.inr hm) d hh hd
      · rw [List.map_append]; exact he2

/-- A region whose order is drawn. -/
theorem sim_drawn (hm : P.follows .mixedOrders = true) (hR : VSound P R) (h : Rel base w0 ok0 e a w G) {id : Nat} {cs : List OP} {ks : List Nat} (hcs : compOPs P ops ops.toList = some cs) (hok : regOk ops.toList cs ks = true)
    (he : evalOps R cs (e.kill ks) = some e') (hQ : ∀ a' w' G', Rel base w0 ok0 e' a' w' G' → Q .normal a' w') : (Code.region id ops true).wp P Q a w := by
  have hok' := regOk_spec hok
  obtain ⟨hl, hsp⟩ := compOPs_spec hcs
  have hl' : cs.length = ops.size := by rw [hl]; simp
  refine wp_region_any hm ?_
  obtain ⟨G1, h1⟩ := h.drew.kill ks
  refine simAny hR hcs hok' hQ ops.size (List.range ops.size) _ (e.kill ks) a _ G1 (by simp) List.pairwise_lt_range (fun i hi => List.mem_range.1 hi) (by simp) (fun i hi => ?_) (fun j hj hh => ?_) (fun i hi c hc hm d hd => ?_) h1 ?_
  · simp [Array.getElem?_replicate, hi]
  · simp [Array.getElem?_replicate, hj] at hh
  · exact kill_dead ks e d (hok'.kill c (List.mem_of_getElem? hc) hm d hd)
  · have : (List.range ops.size).map (fun i => cs.getD i default) = cs := by
      apply List.ext_getElem?
      intro i
      rw [List.getElem?_map]
      by_cases hi : i < ops.size
      · rw [List.getElem?_range hi]
        have hi' : i < cs.length := by rw [hl']; exact hi
        simp [List.getD_eq_getElem?_getD, List.getElem?_eq_getElem hi']
      · have hi' : cs.length ≤ i := by rw [hl']; omega
        rw [List.getElem?_eq_none (by simpa using Nat.le_of_not_lt hi), List.getElem?_eq_none hi']; rfl
    rw [this]; exact he

end
end Go.Bv
