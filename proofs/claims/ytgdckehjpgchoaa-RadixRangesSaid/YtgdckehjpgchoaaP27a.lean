/- Chapter 27, plain facts: bits, and the order of keys. -/
import Derived.Test.YtgdckehjpgchoaaNFun
import Derived.ChangeShapes
import Derived.WideShapes
import Derived.ChangeOld
import Derived.Deep.Slices
set_option linter.unusedVariables false
set_option linter.unusedSimpArgs false
namespace Go.Nv
theorem bitN_lt (k : ByteArray) (n : Nat) : bitN k n < 2 := Nat.mod_lt _ (by omega)
theorem diffFrom_spec (a b : ByteArray) : ∀ f n, (∃ m, n ≤ m ∧ m < n + f ∧ bitN a m ≠ bitN b m) → n ≤ diffFrom a b f n ∧ diffFrom a b f n < n + f ∧ bitN a (diffFrom a b f n) ≠ bitN b (diffFrom a b f n) ∧ ∀ i, n ≤ i → i < diffFrom a b f n → bitN a i = bitN b i
  | 0, n, ⟨m, h1, h2, _⟩ => by omega
  | f + 1, n, ⟨m, h1, h2, h3⟩ => by
    simp only [diffFrom]
    by_cases he : bitN a n = bitN b n
    · rw [if_pos he]
      have hne : m ≠ n := fun hh => h3 (hh ▸ he)
      obtain ⟨k1, k2, k3, k4⟩ := diffFrom_spec a b f (n + 1) ⟨m, by omega, by omega, h3⟩
      refine ⟨by omega, by omega, k3, fun i hi hlt => ?_⟩
      by_cases hin : i = n
      · rw [hin]; exact he
      · exact k4 i (by omega) hlt
    · rw [if_neg he]
      exact ⟨by omega, by omega, he, fun i hi hlt => by omega⟩
theorem diffN_spec {a b : ByteArray} (h : bitsDiffer a b) : diffN a b < 8 * a.size ∧ bitN a (diffN a b) ≠ bitN b (diffN a b) ∧ ∀ i, i < diffN a b → bitN a i = bitN b i := by
  obtain ⟨m, h1, h2⟩ := h
  obtain ⟨k1, k2, k3, k4⟩ := diffFrom_spec a b (8 * a.size) 0 ⟨m, by omega, by omega, h2⟩
  exact ⟨by simpa [diffN] using k2, k3, fun i hi => k4 i (by omega) hi⟩
/-- Bytes by their bits. -/
theorem byte_bits {x y : Nat} (hx : x < 256) (hy : y < 256) (h : ∀ m, m < 8 → x / 2 ^ (7 - m) % 2 = y / 2 ^ (7 - m) % 2) : x = y := by
  have h0 := h 0 (by omega); have h1 := h 1 (by omega); have h2 := h 2 (by omega); have h3 := h 3 (by omega)
  have h4 := h 4 (by omega); have h5 := h 5 (by omega); have h6 := h 6 (by omega); have h7 := h 7 (by omega)
  simp only [Nat.reducePow, Nat.reduceSub] at h0 h1 h2 h3 h4 h5 h6 h7
  omega
theorem byte_lt {x y : Nat} (hx : x < 256) (hy : y < 256) (m : Nat) (hm : m < 8) (h : ∀ k, k < m → x / 2 ^ (7 - k) % 2 = y / 2 ^ (7 - k) % 2) (hne : x / 2 ^ (7 - m) % 2 < y / 2 ^ (7 - m) % 2) : x < y := by
  have e : ∀ k, k < m → x / 2 ^ (7 - k) % 2 = y / 2 ^ (7 - k) % 2 := h
  have cs : m = 0 ∨ m = 1 ∨ m = 2 ∨ m = 3 ∨ m = 4 ∨ m = 5 ∨ m = 6 ∨ m = 7 := by omega
  have hh : x / 2 ^ (8 - m) = y / 2 ^ (8 - m) := by
    rcases cs with rfl | rfl | rfl | rfl | rfl | rfl | rfl | rfl
    · simp only [Nat.reducePow, Nat.reduceSub]; omega
    all_goals
      have h0 := h 0 (by omega)
      try have h1 := h 1 (by omega)
      try have h2 := h 2 (by omega)
      try have h3 := h 3 (by omega)
      try have h4 := h 4 (by omega)
      try have h5 := h 5 (by omega)
      try have h6 := h 6 (by omega)
      simp only [Nat.reducePow, Nat.reduceSub] at *
      omega
  rcases cs with rfl | rfl | rfl | rfl | rfl | rfl | rfl | rfl <;> simp only [Nat.reducePow, Nat.reduceSub] at hne hh <;> omega
theorem lex_at : ∀ (i : Nat) (l m : List UInt8), (∀ j, j < i → l.getD j 0 = m.getD j 0) → i < l.length → i < m.length → l.getD i 0 < m.getD i 0 → l < m
  | 0, [], _, _, h, _, _ => by simp at h
  | 0, _ :: _, [], _, _, h, _ => by simp at h
  | 0, a :: l, b :: m, _, _, _, h => List.Lex.rel (by simpa using h)
  | i + 1, [], _, _, h, _, _ => by simp at h
  | i + 1, _ :: _, [], _, _, h, _ => by simp at h
  | i + 1, a :: l, b :: m, h, h1, h2, h3 => by
    have hab : a = b := by simpa using h 0 (by omega)
    subst hab
    exact List.Lex.cons (lex_at i l m (fun j hj => by simpa using h (j + 1) (by omega)) (by simpa using h1) (by simpa using h2) (by simpa using h3))
theorem bytes_before {a b : ByteArray} {d : Nat} (h : ∀ i, i < d → bitN a i = bitN b i) : ∀ j, j < d / 8 → a.data.toList.getD j 0 = b.data.toList.getD j 0 := fun j hj => by
  have := byte_bits (UInt8.toNat_lt (a.data.toList.getD j 0)) (UInt8.toNat_lt (b.data.toList.getD j 0)) (fun m hm => by
    have := h (8 * j + m) (by omega)
    unfold bitN at this
    rw [show (8 * j + m) / 8 = j by omega, show (8 * j + m) % 8 = m by omega] at this
    exact this)
  exact UInt8.toNat_inj.1 this
/-- Where keys of one length differ first, the bit tells their order. -/
theorem lt_of_bit {a b : ByteArray} {d : Nat} (hd : d < 8 * a.size) (hs : a.size = b.size) (h : ∀ i, i < d → bitN a i = bitN b i) (hlt : bitN a d < bitN b d) : a.data.toList < b.data.toList := by
  refine lex_at (d / 8) _ _ (bytes_before h) (by rw [Array.length_toList]; show _ < a.size; omega) (by rw [Array.length_toList]; show _ < b.size; omega) ?_
  rw [UInt8.lt_iff_toNat_lt]
  refine byte_lt (UInt8.toNat_lt _) (UInt8.toNat_lt _) (d % 8) (Nat.mod_lt _ (by omega)) (fun k hk => ?_) hlt
  have := h (8 * (d / 8) + k) (by omega)
  unfold bitN at this
  rw [show (8 * (d / 8) + k) / 8 = d / 8 by omega, show (8 * (d / 8) + k) % 8 = k by omega] at this
  exact this
theorem ba_ext {a b : ByteArray} (h : a.data.toList = b.data.toList) : a = b := by
  cases a; cases b; simp only [ByteArray.mk.injEq]; exact Array.toList_inj.1 h
theorem eq_of_bits {a b : ByteArray} (hs : a.size = b.size) (h : ¬ bitsDiffer a b) : a = b := by
  refine ba_ext (List.ext_getElem (by simpa using hs) fun j h1 h2 => ?_)
  have := bytes_before (a := a) (b := b) (d := 8 * a.size) (fun i hi => Classical.byContradiction fun hh => h ⟨i, hi, hh⟩) j (by simp at h1; show j < 8 * a.size / 8; rw [Nat.mul_div_cancel_left _ (by omega)]; exact h1)
  simpa [List.getD_eq_getElem?_getD, List.getElem?_eq_getElem h1, List.getElem?_eq_getElem h2] using this
theorem differ_of {a b : ByteArray} (hs : a.size = b.size) (h : (a.toList == b.toList) = false) : bitsDiffer a b := Classical.byContradiction fun hh => by
  rw [eq_of_bits hs hh] at h
  simp at h
theorem eq_of_keys {a b : ByteArray} (h : (a.toList == b.toList) = true) : a = b := by
  rw [ByteArray.toList_eq, ByteArray.toList_eq] at h
  exact ba_ext (by simpa using h)
theorem bytes_irrefl (l : List UInt8) : ¬ l < l := List.lt_irrefl l
theorem bytes_asymm {l m : List UInt8} (h : l < m) : ¬ m < l := fun hh => List.lt_irrefl l (List.lt_trans h hh)
theorem leE_bit {a b : En} {n d : Nat} (ha : a.k.size = n) (hb : b.k.size = n) (h : leE a b) (hd : d < 8 * n) (he : ∀ i, i < d → bitN a.k i = bitN b.k i) : bitN a.k d ≤ bitN b.k d := by
  rcases h with h | ⟨h, _⟩
  · apply Nat.le_of_not_lt
    intro hh
    exact bytes_asymm h (lt_of_bit (by rw [hb]; exact hd) (by omega) (fun i hi => (he i hi).symm) hh)
  · rw [h]; exact Nat.le_refl _
theorem findI_spec {α : Type} (p : α → Bool) (d : α) : ∀ (l : List α) (n : Nat), (∃ i, i < l.length ∧ p (l.getD i d) = true) → ∃ c, c < l.length ∧ findI p l n = ((n + c : Nat) : Int) ∧ p (l.getD c d) = true ∧ ∀ i, i < c → p (l.getD i d) = false
  | [], n, ⟨i, h, _⟩ => by simp at h
  | a :: l, n, ⟨i, h1, h2⟩ => by
    simp only [findI]
    by_cases hp : p a = true
    · rw [if_pos hp]; exact ⟨0, by simp, rfl, hp, fun i hi => by omega⟩
    · rw [if_neg hp]
      cases i with
      | zero => exact absurd h2 hp
      | succ i =>
        obtain ⟨c, k1, k2, k3, k4⟩ := findI_spec p d l (n + 1) ⟨i, by simpa using h1, by simpa using h2⟩
        refine ⟨c + 1, by simp; omega, by rw [k2]; congr 1; omega, by simpa using k3, fun j hj => ?_⟩
        cases j with
        | zero => simpa using hp
        | succ j => simpa using k4 j (by omega)
theorem findI_none {α : Type} (p : α → Bool) : ∀ (l : List α) (n : Nat), (∀ x ∈ l, p x = false) → findI p l n = -1
  | [], _, _ => rfl
  | a :: l, n, h => by simp only [findI]; rw [if_neg (by simp [h a List.mem_cons_self])]; exact findI_none p l (n + 1) fun x hx => h x (List.mem_cons_of_mem _ hx)
theorem srt_le {l : List En} (h : Srt l) {i j : Nat} (hij : i < j) (hj : j < l.length) : leE (l.getD i en0) (l.getD j en0) := by
  have := (List.pairwise_iff_getElem.1 h) i j (by omega) hj hij
  simpa [List.getD_eq_getElem?_getD, List.getElem?_eq_getElem hj, List.getElem?_eq_getElem (show i < l.length by omega)] using this
theorem len_at {n : Nat} {l : List En} (h : Len n l) {i : Nat} (hi : i < l.length) : (l.getD i en0).k.size = n := by
  rw [List.getD_eq_getElem?_getD, List.getElem?_eq_getElem hi]; exact h _ (List.getElem_mem hi)
/-- Where entries in order are cut. -/
theorem cut_spec {l : List En} {n : Nat} (hs : Srt l) (hn : Len n l) (hl : 0 < l.length) (hne : ((l.getD 0 en0).k.toList == (l.getD (l.length - 1) en0).k.toList) = false) :
    ∃ c, 0 < c ∧ c < l.length ∧ findI (isBit (diffN (l.getD 0 en0).k (l.getD (l.length - 1) en0).k)) l 0 = (c : Int) ∧ diffN (l.getD 0 en0).k (l.getD (l.length - 1) en0).k < 8 * n ∧
      (∀ i, i < c → bitN (l.getD i en0).k (diffN (l.getD 0 en0).k (l.getD (l.length - 1) en0).k) = 0) ∧ bitN (l.getD c en0).k (diffN (l.getD 0 en0).k (l.getD (l.length - 1) en0).k) = 1 ∧ bitsDiffer (l.getD 0 en0).k (l.getD (l.length - 1) en0).k := by
  have z0 := len_at hn (i := 0) hl
  have z1 := len_at hn (i := l.length - 1) (by omega)
  have hbd := differ_of (by rw [z0, z1]) hne
  obtain ⟨d1, d2, d3⟩ := diffN_spec hbd
  rw [z0] at d1
  generalize hd : diffN (l.getD 0 en0).k (l.getD (l.length - 1) en0).k = d at d1 d2 d3
  have h1 : 0 < l.length - 1 := Nat.pos_of_ne_zero fun hh => by rw [hh] at d2; exact d2 rfl
  have hle := leE_bit z0 z1 (srt_le hs h1 (by omega)) d1 d3
  have b0 := bitN_lt (l.getD 0 en0).k d
  have b1 := bitN_lt (l.getD (l.length - 1) en0).k d
  obtain ⟨c, k1, k2, k3, k4⟩ := findI_spec (isBit d) en0 l 0 ⟨l.length - 1, by omega, by simp only [isBit, beq_iff_eq]; omega⟩
  have hc0 : c ≠ 0 := fun hh => by
    rw [hh] at k3
    simp only [isBit, beq_iff_eq] at k3
    omega
  refine ⟨c, by omega, k1, by rw [k2]; simp, d1, fun i hi => ?_, ?_, hbd⟩
  · have := k4 i hi
    have := bitN_lt (l.getD i en0).k d
    have h9 : ¬ ((bitN (l.getD i en0).k d : Int) = 1) := by simpa [isBit] using k4 i hi
    omega
  · have : (bitN (l.getD c en0).k d : Int) = 1 := by simpa [isBit] using k3
    omega
theorem srt_take {l : List En} (h : Srt l) (c : Nat) : Srt (l.take c) := List.Pairwise.sublist (List.take_sublist c l) h
theorem srt_drop {l : List En} (h : Srt l) (c : Nat) : Srt (l.drop c) := List.Pairwise.sublist (List.drop_sublist c l) h
theorem len_take {n : Nat} {l : List En} (h : Len n l) (c : Nat) : Len n (l.take c) := fun x hx => h x (List.mem_of_mem_take hx)
theorem len_drop {n : Nat} {l : List En} (h : Len n l) (c : Nat) : Len n (l.drop c) := fun x hx => h x (List.mem_of_mem_drop hx)
end Go.Nv
/- Chapter 27, plain facts: the tree. -/
namespace Go.Nv
theorem buildF_len : ∀ (f : Nat) (t : List Nd) (l : List En) (n : Nat), l.length ≤ f → 0 < l.length → Srt l → Len n l → t.length < (buildF f t l).length ∧ (buildF f t l).length + 1 ≤ t.length + 2 * l.length
  | 0, t, l, n, h1, h2, _, _ => by omega
  | f + 1, t, l, n, h1, h2, h3, h4 => by
    simp only [buildF]
    by_cases hk : ((l.getD 0 en0).k.toList == (l.getD (l.length - 1) en0).k.toList) = true
    · rw [if_pos hk]; simp; omega
    · rw [if_neg hk]
      obtain ⟨c, c1, c2, c3, _⟩ := cut_spec h3 h4 h2 (by simpa using hk)
      rw [c3, Int.toNat_natCast]
      have l1 : (l.take c).length = c := by rw [List.length_take]; omega
      have l2 : (l.drop c).length = l.length - c := List.length_drop
      obtain ⟨a1, a2⟩ := buildF_len f (t ++ [⟨diffN (l.getD 0 en0).k (l.getD (l.length - 1) en0).k, t.length + 1, 0, bs [], [], false⟩]) (l.take c) n (by omega) (by omega) (srt_take h3 c) (len_take h4 c)
      generalize buildF f (t ++ [⟨diffN (l.getD 0 en0).k (l.getD (l.length - 1) en0).k, t.length + 1, 0, bs [], [], false⟩]) (l.take c) = t1 at a1 a2 ⊢
      obtain ⟨b1, b2⟩ := buildF_len f (t1.set t.length { t1.getD t.length nd0 with rt := t1.length }) (l.drop c) n (by omega) (by omega) (srt_drop h3 c) (len_drop h4 c)
      simp only [List.length_set, List.length_append, List.length_cons, List.length_nil, l1, l2] at a1 a2 b1 b2
      exact ⟨by omega, by omega⟩
end Go.Nv
/- Chapter 27, plain facts: groups of entries and the reference's tree. -/
namespace Go.Nv
structure Gk where
  k : ByteArray
  rs : List Int
def gk0 : Gk := ⟨bs [], []⟩
def encG (x : Gk) : List AV := [.str x.k, .row 3 1 (ints x.rs)]
def encGV (x : Gk) : List AV := [.str x.k, .sl (ints x.rs)]
def grpS (out : List Gk) (x : En) : List Gk :=
  if 0 < out.length ∧ ((out.getD (out.length - 1) gk0).k.toList == x.k.toList) = true then out.set (out.length - 1) ⟨(out.getD (out.length - 1) gk0).k, (out.getD (out.length - 1) gk0).rs ++ [x.r]⟩
  else out ++ [⟨x.k, [x.r]⟩]
def grpF (l : List En) : List Gk := l.foldl grpS []
theorem grpS_len (out : List Gk) (x : En) : (grpS out x).length ≤ out.length + 1 := by
  unfold grpS; split <;> simp
theorem grpS_rs (n : Nat) (out : List Gk) (x : En) (h : ∀ g ∈ out, g.rs.length ≤ n) : ∀ g ∈ grpS out x, g.rs.length ≤ n + 1 := by
  unfold grpS
  split
  · rename_i hc
    intro g hg
    rcases List.mem_or_eq_of_mem_set hg with h1 | rfl
    · exact Nat.le_succ_of_le (h g h1)
    · have : out.getD (out.length - 1) gk0 ∈ out := by
        rw [List.getD_eq_getElem?_getD, List.getElem?_eq_getElem (by omega)]; exact List.getElem_mem _
      have := h _ this
      show ((out.getD (out.length - 1) gk0).rs ++ [x.r]).length ≤ n + 1
      rw [List.length_append, List.length_cons, List.length_nil]; omega
  · intro g hg
    rcases List.mem_append.1 hg with h1 | h1
    · exact Nat.le_succ_of_le (h g h1)
    · simp at h1; subst h1; simp
theorem grpF_bound (l : List En) : ∀ (n : Nat) (out : List Gk), out.length ≤ n → (∀ g ∈ out, g.rs.length ≤ n) → (l.foldl grpS out).length ≤ n + l.length ∧ ∀ g ∈ l.foldl grpS out, g.rs.length ≤ n + l.length := by
  induction l with
  | nil => intro n out h1 h2; exact ⟨h1, h2⟩
  | cons x l ih =>
    intro n out h1 h2
    have := ih (n + 1) (grpS out x) (by have := grpS_len out x; omega) (grpS_rs n out x h2)
    rw [List.foldl_cons, List.length_cons]
    exact ⟨by omega, fun g hg => by have := this.2 g hg; omega⟩
/-- The keys of groups, as entries. -/
def keysG (l : List Gk) : List En := l.map fun g => ⟨g.k, 0⟩
def SrtG (l : List Gk) : Prop := l.Pairwise fun a b => a.k.data.toList < b.k.data.toList
theorem keysG_len (l : List Gk) : (keysG l).length = l.length := by simp [keysG]
theorem keysG_at (l : List Gk) {i : Nat} (h : i < l.length) : (keysG l).getD i en0 = ⟨(l.getD i gk0).k, 0⟩ := by
  simp only [keysG, List.getD_eq_getElem?_getD, List.getElem?_map, List.getElem?_eq_getElem h, Option.map_some, Option.getD_some]
theorem srtG_keys {l : List Gk} (h : SrtG l) : Srt (keysG l) := List.pairwise_map.2 (h.imp fun hh => .inl hh)
theorem srtG_take {l : List Gk} (h : SrtG l) (c : Nat) : SrtG (l.take c) := List.Pairwise.sublist (List.take_sublist c l) h
theorem srtG_drop {l : List Gk} (h : SrtG l) (c : Nat) : SrtG (l.drop c) := List.Pairwise.sublist (List.drop_sublist c l) h
theorem keysG_take (l : List Gk) (c : Nat) : keysG (l.take c) = (keysG l).take c := by simp [keysG, List.map_take]
theorem keysG_drop (l : List Gk) (c : Nat) : keysG (l.drop c) = (keysG l).drop c := by simp [keysG, List.map_drop]
def growF : Nat → List Nd → List Gk → List Nd
  | 0, t, _ => t
  | f + 1, t, l =>
    if (l.length == 1) = true then t ++ [⟨-1, 0, 0, (l.getD 0 gk0).k, (l.getD 0 gk0).rs, true⟩]
    else
      let b := diffN (l.getD 0 gk0).k (l.getD (l.length - 1) gk0).k
      let c := (findI (isBit b) (keysG l) 0).toNat
      let t1 := growF f (t ++ [⟨b, t.length + 1, 0, bs [], [], false⟩]) (l.take c)
      growF f (t1.set t.length { t1.getD t.length nd0 with rt := t1.length }) (l.drop c)
theorem cutG_spec {l : List Gk} {n : Nat} (hs : SrtG l) (hn : Len n (keysG l)) (hl : 1 < l.length) :
    ∃ c, 0 < c ∧ c < l.length ∧ findI (isBit (diffN (l.getD 0 gk0).k (l.getD (l.length - 1) gk0).k)) (keysG l) 0 = (c : Int) ∧ diffN (l.getD 0 gk0).k (l.getD (l.length - 1) gk0).k < 8 * n ∧
      (∀ i, i < c → bitN (l.getD i gk0).k (diffN (l.getD 0 gk0).k (l.getD (l.length - 1) gk0).k) = 0) ∧ bitN (l.getD c gk0).k (diffN (l.getD 0 gk0).k (l.getD (l.length - 1) gk0).k) = 1 ∧ bitsDiffer (l.getD 0 gk0).k (l.getD (l.length - 1) gk0).k := by
  have hp := (List.pairwise_iff_getElem.1 hs) 0 (l.length - 1) (by omega) (by omega) (by omega)
  have hne : (((keysG l).getD 0 en0).k.toList == ((keysG l).getD ((keysG l).length - 1) en0).k.toList) = false := by
    rw [keysG_len, keysG_at l (by omega), keysG_at l (by omega)]
    apply beq_eq_false_iff_ne.2
    intro hh
    rw [ByteArray.toList_eq, ByteArray.toList_eq] at hh
    simp only [List.getD_eq_getElem?_getD, List.getElem?_eq_getElem (show 0 < l.length by omega), List.getElem?_eq_getElem (show l.length - 1 < l.length by omega), Option.getD_some] at hh
    rw [hh] at hp
    exact List.lt_irrefl _ hp
  obtain ⟨c, c1, c2, c3, c4, c5, c6, c7⟩ := cut_spec (srtG_keys hs) hn (by rw [keysG_len]; omega) hne
  rw [keysG_len] at c2 c3 c4 c5 c6 c7
  rw [keysG_at l (show 0 < l.length by omega), keysG_at l (show l.length - 1 < l.length by omega)] at c3 c4 c5 c6 c7
  rw [keysG_at l c2] at c6
  exact ⟨c, c1, c2, c3, c4, fun i hi => by have := c5 i hi; rwa [keysG_at l (by omega)] at this, c6, c7⟩
theorem growF_len : ∀ (f : Nat) (t : List Nd) (l : List Gk) (n : Nat), l.length ≤ f → 0 < l.length → SrtG l → Len n (keysG l) → t.length < (growF f t l).length ∧ (growF f t l).length + 1 ≤ t.length + 2 * l.length
  | 0, t, l, n, h1, h2, _, _ => by omega
  | f + 1, t, l, n, h1, h2, h3, h4 => by
    simp only [growF]
    by_cases hk : (l.length == 1) = true
    · rw [if_pos hk]; simp; omega
    · rw [if_neg hk]
      have hk' : l.length ≠ 1 := by simpa using hk
      obtain ⟨c, c1, c2, c3, _⟩ := cutG_spec h3 h4 (by omega)
      rw [c3, Int.toNat_natCast]
      have l1 : (l.take c).length = c := by rw [List.length_take]; omega
      have l2 : (l.drop c).length = l.length - c := List.length_drop
      obtain ⟨a1, a2⟩ := growF_len f (t ++ [⟨diffN (l.getD 0 gk0).k (l.getD (l.length - 1) gk0).k, t.length + 1, 0, bs [], [], false⟩]) (l.take c) n (by omega) (by omega) (srtG_take h3 c) (by rw [keysG_take]; exact len_take h4 c)
      generalize growF f (t ++ [⟨diffN (l.getD 0 gk0).k (l.getD (l.length - 1) gk0).k, t.length + 1, 0, bs [], [], false⟩]) (l.take c) = t1 at a1 a2 ⊢
      obtain ⟨b1, b2⟩ := growF_len f (t1.set t.length { t1.getD t.length nd0 with rt := t1.length }) (l.drop c) n (by omega) (by omega) (srtG_drop h3 c) (by rw [keysG_drop]; exact len_drop h4 c)
      simp only [List.length_set, List.length_append, List.length_cons, List.length_nil, l1, l2] at a1 a2 b1 b2
      exact ⟨by omega, by omega⟩
end Go.Nv
/- BY VALUE, with trees: what a claim's reading of an argument says of it. -/
namespace Go.Nv
open Go.RowKit
/-- The form of a cell. -/
inductive Sh where
  | int (k : IntKind)
  | bool
  | str
  | sl (l : List Sh)
  deriving Inhabited
def shapeFs (P : Program) (rec : TypeId → Option (List Sh)) : List Field → Nat → Option (List Sh)
  | [], _ => some []
  | f :: fs, n => if f.offset = n then
      match rec f.type with
      | some ks => if P.cellsOf f.type = ks.length then
          match shapeFs P rec fs (n + ks.length) with
          | some ks' => some (ks ++ ks')
          | none => none
        else none
      | none => none
    else none
def shapeOf (P : Program) : Nat → TypeId → Option (List Sh)
  | 0, _ => none
  | d + 1, t => match P.underlying t with
    | some (.int k) => some [.int k]
    | some .bool => some [.bool]
    | some .string => some [.str]
    | some (.slice e) => match shapeOf P d e with
      | some ks => if P.cellsOf e = ks.length ∧ 0 < ks.length then some [.sl ks] else none
      | none => none
    | some (.struct fs) => match shapeFs P (shapeOf P d) fs.toList 0 with
      | some ks => if P.cellsOf t = ks.length then some ks else none
      | none => none
    | _ => none
inductive Fits : Sh → AV → Prop where
  | int (k : IntKind) (n : Int) (h : (Lit.int k n).wf = true) : Fits (.int k) (.int k n)
  | bool (b : Bool) : Fits .bool (.bool b)
  | str (s : ByteArray) (h : s.size ≤ maxLen) : Fits .str (.str s)
  | sl (ks : List Sh) (l : List (List AV)) (hl : l.length ≤ maxLen) (h1 : ∀ i, i < l.length → (l.getD i []).length = ks.length)
      (h2 : ∀ i j, i < l.length → j < ks.length → Fits (ks.getD j .bool) ((l.getD i []).getD j .unk)) : Fits (.sl ks) (.sl l)
def okAll (w : World) (b o : Nat) : Prop := b < w.heap.size
theorem Fits.pure {k : Sh} {A : AV} (h : Fits k A) : A.pure = true := by cases h <;> rfl
section
variable {H : Type} {enc : TypeId × Value → H} {P : Program} {w : World} {spare : Nat → Bool} {held : Bool}
theorem optMapM {α β : Type} {f : α → Option β} : ∀ {l : List α} {r : List β}, l.mapM f = some r → r.length = l.length ∧ ∀ (i : Nat) (x : α), l[i]? = some x → ∃ y, r[i]? = some y ∧ f x = some y
  | [], r, h => by simp at h; subst h; exact ⟨rfl, fun i x hx => by simp at hx⟩
  | a :: l, r, h => by
    rw [List.mapM_cons] at h
    cases h1 : f a with
    | none => simp [h1] at h
    | some y =>
      cases h2 : l.mapM f with
      | none => simp [h1, h2] at h
      | some m =>
        simp [h1, h2] at h
        subst h
        obtain ⟨i1, i2⟩ := optMapM h2
        refine ⟨by simp [i1], fun i x hx => ?_⟩
        cases i with
        | zero => simp at hx; subst hx; exact ⟨y, rfl, h1⟩
        | succ i => simpa using i2 i x (by simpa using hx)
/-- Cells that are told. -/
def Told (w : World) (shs : List Sh) (cs : Nat → Value) (l : List AV) : Prop :=
  l.length = shs.length ∧ ∀ j, j < shs.length → Fits (shs.getD j .bool) (l.getD j .unk) ∧ RepR w (okAll w) (cs j) (l.getD j .unk)
theorem told_append {ks ks' : List Sh} {cs : Nat → Value} {l l' : List AV} (h : Told w ks cs l) (h' : Told w ks' (fun j => cs (ks.length + j)) l') : Told w (ks ++ ks') cs (l ++ l') := by
  refine ⟨by simp [h.1, h'.1], fun j hj => ?_⟩
  simp only [List.length_append] at hj
  rcases Nat.lt_or_ge j ks.length with hlt | hge
  · have e1 : (ks ++ ks').getD j .bool = ks.getD j .bool := by simp [List.getD_eq_getElem?_getD, List.getElem?_append, hlt]
    have e2 : (l ++ l').getD j .unk = l.getD j .unk := by simp [List.getD_eq_getElem?_getD, List.getElem?_append, h.1, hlt]
    rw [e1, e2]; exact h.2 j hlt
  · obtain ⟨i, rfl⟩ := Nat.exists_eq_add_of_le hge
    have e1 : (ks ++ ks').getD (ks.length + i) .bool = ks'.getD i .bool := by
      rw [List.getD_eq_getElem?_getD, List.getElem?_append_right (by omega), Nat.add_sub_cancel_left, List.getD_eq_getElem?_getD]
    have e2 : (l ++ l').getD (ks.length + i) .unk = l'.getD i .unk := by
      rw [List.getD_eq_getElem?_getD, List.getElem?_append_right (by rw [h.1]; omega), h.1, Nat.add_sub_cancel_left, List.getD_eq_getElem?_getD]
    rw [e1, e2]; exact h'.2 i (by omega)
theorem told_one {k : Sh} {cs : List Value} {v : Value} {A : AV} (hc : cs = [v]) (hf : Fits k A) (hr : RepR w (okAll w) v A) : cs.length = [k].length ∧ ∃ l, Told w [k] (fun j => cs.getD j undef) l := by
  subst hc
  refine ⟨rfl, [A], rfl, fun j hj => ?_⟩
  have : j = 0 := by simp at hj; exact hj
  subst this
  exact ⟨hf, hr⟩
theorem fields_open {d fuel : Nat} {cs : List Value}
    (ih : ∀ t cs (x : DataW H × List MemPlace) shs, DataW.trod enc P w 0 spare held fuel t cs = some x → shapeOf P d t = some shs → cs.length = shs.length ∧ ∃ l, Told w shs (fun j => cs.getD j undef) l) :
    ∀ (fs : List Field) (n : Nat) (xs : List (DataW H × List MemPlace)) (shs : List Sh), fs.mapM (fun f => DataW.trod enc P w 0 spare held fuel f.type ((cs.drop f.offset).take (P.cellsOf f.type))) = some xs → shapeFs P (shapeOf P d) fs n = some shs →
      ∃ l, Told w shs (fun j => cs.getD (n + j) undef) l := by
  intro fs
  induction fs with
  | nil =>
    intro n xs shs h hs
    simp [shapeFs] at hs; subst hs
    exact ⟨[], rfl, fun j hj => absurd hj (by simp)⟩
  | cons f fs ihf =>
    intro n xs shs h hs
    rw [List.mapM_cons] at h
    simp only [shapeFs] at hs
    by_cases hn : f.offset = n
    case neg => rw [if_neg hn] at hs; cases hs
    rw [if_pos hn] at hs
    cases h1 : shapeOf P d f.type with
    | none => simp [h1] at hs
    | some ks =>
      simp only [h1] at hs
      by_cases hc : P.cellsOf f.type = ks.length
      case neg => rw [if_neg hc] at hs; cases hs
      rw [if_pos hc] at hs
      cases h2 : shapeFs P (shapeOf P d) fs (n + ks.length) with
      | none => simp [h2] at hs
      | some ks' =>
        simp only [h2, Option.some.injEq] at hs
        subst hs
        cases h3 : DataW.trod enc P w 0 spare held fuel f.type ((cs.drop f.offset).take (P.cellsOf f.type)) with
        | none => simp [h3] at h
        | some x =>
          cases h4 : fs.mapM (fun f => DataW.trod enc P w 0 spare held fuel f.type ((cs.drop f.offset).take (P.cellsOf f.type))) with
          | none => simp [h3, h4] at h
          | some xs' =>
            obtain ⟨j1, l, j2⟩ := ih f.type _ x ks h3 h1
            obtain ⟨l', j3⟩ := ihf (n + ks.length) xs' ks' h4 h2
            refine ⟨l ++ l', told_append (ks := ks) ?_ ?_⟩
            · refine ⟨j2.1, fun j hj => ?_⟩
              have := j2.2 j hj
              have e1 : ((cs.drop f.offset).take (P.cellsOf f.type)).getD j undef = cs.getD (n + j) undef := by
                rw [hn, hc]
                simp [List.getD_eq_getElem?_getD, List.getElem?_take, hj]
              simp only [e1] at this
              exact this
            · refine ⟨j3.1, fun j hj => ?_⟩
              have := j3.2 j hj
              simp only [Nat.add_assoc] at this
              exact this
theorem cells_at {base : Nat} {a : Addr} {n : Nat} {cs : List Value} (h : w.cells? base a n = some cs) : cs.length = n ∧ ∀ j, j < n → w.cell? (a.add j) = some (cs.getD j undef) := by
  unfold World.cells? at h
  split at h
  · obtain ⟨i1, i2⟩ := optMapM h
    refine ⟨by simpa using i1, fun j hj => ?_⟩
    obtain ⟨y, h1, h2⟩ := i2 j j (by simp [hj])
    rw [h2, List.getD_eq_getElem?_getD, h1]; rfl
  · cases h
theorem cell_spot {a : Addr} {v : Value} (h : w.cell? a = some v) : a.spot = none ∧ a.block < w.heap.size := by
  refine ⟨?_, World.block_lt_of_cell? w a h⟩
  unfold World.cell? at h
  split at h
  · split at h
    · cases h
    · rename_i hh; simpa using hh
  · cases h
theorem trod_bool {fuel : Nat} {t : TypeId} {cs : List Value} {x : DataW H × List MemPlace} (hu : P.underlying t = some .bool) (h : DataW.trod enc P w 0 spare held (fuel + 1) t cs = some x) : ∃ b, cs = [.bool b] := by
  unfold DataW.trod at h
  split at h <;> simp_all
theorem trod_int {fuel : Nat} {t : TypeId} {k : IntKind} {cs : List Value} {x : DataW H × List MemPlace} (hu : P.underlying t = some (.int k)) (h : DataW.trod enc P w 0 spare held (fuel + 1) t cs = some x) : ∃ n, cs = [.int k n] ∧ (Lit.int k n).wf = true := by
  unfold DataW.trod at h
  split at h <;> simp_all
theorem trod_str {fuel : Nat} {t : TypeId} {cs : List Value} {x : DataW H × List MemPlace} (hu : P.underlying t = some .string) (h : DataW.trod enc P w 0 spare held (fuel + 1) t cs = some x) : ∃ s, cs = [.string s] ∧ s.size ≤ maxLen := by
  unfold DataW.trod at h
  split at h <;> simp_all
theorem trod_struct {fuel : Nat} {t : TypeId} {fs : Array Field} {cs : List Value} {x : DataW H × List MemPlace} (hu : P.underlying t = some (.struct fs)) (h : DataW.trod enc P w 0 spare held (fuel + 1) t cs = some x) :
    cs.length = P.cellsOf t ∧ ∃ xs, fs.toList.mapM (fun f => DataW.trod enc P w 0 spare held fuel f.type ((cs.drop f.offset).take (P.cellsOf f.type))) = some xs := by
  unfold DataW.trod at h
  split at h <;> simp_all
  obtain ⟨h1, a, h2, _⟩ := h
  exact ⟨_, h2⟩
theorem Addr.spot_none {a : Addr} (h : a.spot = none) : a = ⟨a.block, a.off, none⟩ := by cases a; simp_all
theorem open_cells (d : Nat) : ∀ (fuel : Nat) (t : TypeId) (cs : List Value) (x : DataW H × List MemPlace) (shs : List Sh), DataW.trod enc P w 0 spare held fuel t cs = some x → shapeOf P d t = some shs →
    cs.length = shs.length ∧ ∃ l, Told w shs (fun j => cs.getD j undef) l := by
  induction d with
  | zero => intro fuel t cs x shs h hs; simp [shapeOf] at hs
  | succ d ih =>
    intro fuel t cs x shs h hs
    cases fuel with
    | zero => simp [DataW.trod] at h
    | succ fuel =>
      simp only [shapeOf] at hs
      cases hu : P.underlying t with
      | none => simp [hu] at hs
      | some D =>
        rw [hu] at hs
        cases D <;> simp only at hs <;> try (cases hs; done)
        case bool =>
          cases hs
          obtain ⟨b, rfl⟩ := trod_bool hu h
          exact told_one rfl (.bool b) (.bool b)
        case int k =>
          cases hs
          obtain ⟨n, rfl, hw⟩ := trod_int hu h
          exact told_one rfl (.int _ n hw) (.int _ n)
        case string =>
          cases hs
          obtain ⟨s, rfl, hw⟩ := trod_str hu h
          exact told_one rfl (.str s hw) (.str s)
        case struct =>
          rename_i fs
          cases hf : shapeFs P (shapeOf P d) fs.toList 0 with
          | none => simp [hf] at hs
          | some ks =>
            simp only [hf] at hs
            by_cases hc : P.cellsOf t = ks.length
            case neg => rw [if_neg hc] at hs; cases hs
            rw [if_pos hc] at hs
            cases hs
            obtain ⟨h1, xs, h2⟩ := trod_struct hu h
            obtain ⟨l, hl⟩ := fields_open (fun t cs x shs => ih fuel t cs x shs) fs.toList 0 xs _ h2 hf
            refine ⟨by rw [h1, hc], l, ?_⟩
            simp only [Nat.zero_add] at hl
            exact hl
        case slice =>
          rename_i el
          cases hf : shapeOf P d el with
          | none => simp [hf] at hs
          | some ks =>
            simp only [hf] at hs
            by_cases hc : P.cellsOf el = ks.length ∧ 0 < ks.length
            case neg => rw [if_neg hc] at hs; cases hs
            rw [if_pos hc] at hs
            cases hs
            rcases Go.Deep.open_slice hu h with ⟨rfl, _⟩ | ⟨a, len, cap, m, n, D, Pl, rfl, _, h1, h2, h3, _, h4⟩
            · exact told_one rfl (.sl ks [] (Nat.zero_le _) (fun i hi => absurd hi (by simp)) (fun i j hi => absurd hi (by simp))) (.sl0 none 0)
            · have hm : len ≤ m := by rw [h3]; split <;> omega
              have h5 : ∀ i, i < len → ∃ cs' l, w.cells? 0 (a.add (i * P.cellsOf el)) (P.cellsOf el) = some cs' ∧ Told w ks (fun j => cs'.getD j undef) l := by
                intro i hi
                obtain ⟨cs', q1, q2⟩ := h4 i (by omega)
                obtain ⟨_, l, q3⟩ := ih n el cs' _ ks q2 hf
                exact ⟨cs', l, q1, q3⟩
              classical
              let L : Nat → List AV := fun i => if hi : i < len then (h5 i hi).choose_spec.choose else []
              let U : Nat → List Value := fun i => if hi : i < len then (h5 i hi).choose else []
              have hL : ∀ i, i < len → w.cells? 0 (a.add (i * P.cellsOf el)) (P.cellsOf el) = some (U i) ∧ Told w ks (fun j => (U i).getD j undef) (L i) := by
                intro i hi
                have := (h5 i hi).choose_spec.choose_spec
                simp only [L, U, dif_pos hi]
                exact this
              have hg : ∀ i, i < len → ((List.range len).map L).getD i [] = L i := fun i hi => by
                simp [List.getD_eq_getElem?_getD, hi]
              have hlen : ((List.range len).map L).length = len := by simp
              have hfit : Fits (.sl ks) (.sl ((List.range len).map L)) := by
                refine .sl ks _ (by rw [hlen]; omega) (fun i hi => ?_) (fun i j hi hj => ?_)
                · rw [hlen] at hi; rw [hg i hi]; exact (hL i hi).2.1
                · rw [hlen] at hi; rw [hg i hi]; exact ((hL i hi).2.2 j hj).1
              refine told_one rfl hfit ?_
              cases len with
              | zero => exact .sl0 (some a) cap
              | succ len =>
                have ha : a.spot = none := by
                  have q := (cells_at (hL 0 (by omega)).1).2 0 (by rw [hc.1]; exact hc.2)
                  have := (cell_spot q).1
                  simpa [Addr.add] using this
                have hcell : ∀ i j, i < len + 1 → j < ks.length → w.cell? ⟨a.block, a.off + i * ks.length + j, none⟩ = some ((U i).getD j undef) := by
                  intro i j hi hj
                  have q := (cells_at (hL i hi).1).2 j (by rw [hc.1]; exact hj)
                  rw [hc.1, Addr.spot_none ha] at q
                  rw [Go.Deep.add_add, Addr.add_lit] at q
                  simpa [Nat.add_assoc] using q
                rw [Addr.spot_none ha]
                have := RepR.sl (w := w) (ok := okAll w) a.block a.off cap ks.length ((List.range (len + 1)).map L) (fun i j => (U i).getD j undef) (by rw [hlen]; exact h1)
                  (fun i hi => by rw [hlen] at hi; rw [hg i hi]; exact (hL i hi).2.1)
                  (fun i j hi hj => by rw [hlen] at hi; exact ⟨(cell_spot (hcell i j hi hj)).2, hcell i j hi hj⟩)
                  (fun i j hi hj => by rw [hlen] at hi; rw [hg i hi]; exact ((hL i hi).2.2 j hj).1.pure)
                  (fun i j hi hj => by rw [hlen] at hi; rw [hg i hi]; exact ((hL i hi).2.2 j hj).2)
                rw [hlen] at this
                exact this
/-! ### Arguments -/
open WideShapes in
theorem open_struct {n : Nat} {t : TypeId} {fs : Array Field} {shs : List Sh} {v : Value} {r : Reach} {base : Nat} {d : DataW H} {ps : List MemPlace} (hu : P.underlying t = some (.struct fs)) (hs : shapeOf P n t = some shs)
    (hv : Value.okWide P w r base t v) (h : DataW.Trod enc P w 0 spare held t v d ps) :
    ∃ l, (l.length = shs.length ∧ ∀ j, j < shs.length → Fits (shs.getD j .bool) (l.getD j .unk)) ∧ RepR w (okAll w) v (.agg l) := by
  obtain ⟨cs, rfl, hsz⟩ := okWide_struct hu hv
  obtain ⟨fuel, hf⟩ := h
  obtain ⟨h1, l, h2, h3⟩ := open_cells n fuel t _ _ shs hf hs
  have hc : (Value.agg cs).cells = cs := rfl
  rw [hc] at h1 h3
  refine ⟨l, ⟨h2, fun j hj => (h3 j hj).1⟩, .agg cs l (by rw [h2, ← h1]; simp) (fun j hj => ((h3 j (by omega)).1).pure) (fun j hj => ?_)⟩
  have := (h3 j (by omega)).2
  simpa [List.getD_eq_getElem?_getD, Array.getD_eq_getD_getElem?] using this
theorem open_one {n : Nat} {t : TypeId} {k : Sh} {v : Value} {d : DataW H} {ps : List MemPlace} (hs : shapeOf P n t = some [k]) (hv : v.cells = #[v]) (h : DataW.Trod enc P w 0 spare held t v d ps) :
    ∃ A, Fits k A ∧ RepR w (okAll w) v A := by
  obtain ⟨fuel, hf⟩ := h
  obtain ⟨h1, l, h2, h3⟩ := open_cells n fuel t _ _ [k] hf hs
  rw [hv] at h3
  exact ⟨_, (h3 0 (by simp)).1, (h3 0 (by simp)).2⟩
open WideShapes in
theorem opn_slice {t el : TypeId} {v : Value} {r : Reach} {base : Nat} (hu : P.underlying t = some (.slice el)) (hv : Value.okWide P w r base t v) : v.cells = #[v] := by
  obtain ⟨_, _, _, rfl⟩ := okWide_slice hu hv; rfl
open WideShapes in
theorem opn_str {t : TypeId} {v : Value} {r : Reach} {base : Nat} (hu : P.underlying t = some .string) (hv : Value.okWide P w r base t v) : v.cells = #[v] := by
  obtain ⟨_, rfl⟩ := okWide_string hu hv; rfl
open WideShapes in
theorem opn_int {t : TypeId} {k : IntKind} {v : Value} {r : Reach} {base : Nat} (hu : P.underlying t = some (.int k)) (hv : Value.okWide P w r base t v) : v.cells = #[v] := by
  obtain ⟨_, rfl⟩ := okWide_int hu hv; rfl
open WideShapes in
theorem opn_bool {t : TypeId} {v : Value} {r : Reach} {base : Nat} (hu : P.underlying t = some .bool) (hv : Value.okWide P w r base t v) : v.cells = #[v] := by
  obtain ⟨_, rfl⟩ := okWide_bool hu hv; rfl
end
theorem fits_str {A : AV} (h : Fits .str A) : ∃ s, A = .str s ∧ s.size ≤ maxLen := by
  cases h with | str s hs => exact ⟨s, rfl, hs⟩
theorem fits_i64 {A : AV} (h : Fits (.int .i64) A) : ∃ n, A = .int .i64 n := by
  cases h with | int _ n hw => exact ⟨n, rfl⟩
theorem fits_bool {A : AV} (h : Fits .bool A) : ∃ b, A = .bool b := by
  cases h with | bool b => exact ⟨b, rfl⟩
/-- A list of elements that fit. -/
theorem fits_list {α : Type} {ks : List Sh} {f : α → List AV} {p : α → Prop} (d : α) (hf : ∀ l : List AV, l.length = ks.length → (∀ j, j < ks.length → Fits (ks.getD j .bool) (l.getD j .unk)) → ∃ x, l = f x ∧ p x) {A : AV} (h : Fits (.sl ks) A) :
    ∃ l : List α, A = .sl (l.map f) ∧ l.length ≤ maxLen ∧ ∀ x ∈ l, p x := by
  cases h with
  | sl _ L hl h1 h2 =>
    have : ∀ (M : List (List AV)), (∀ y ∈ M, ∃ x, y = f x ∧ p x) → ∃ l : List α, M = l.map f ∧ ∀ x ∈ l, p x := by
      intro M
      induction M with
      | nil => intro _; exact ⟨[], rfl, fun x hx => by cases hx⟩
      | cons y M ih =>
        intro hM
        obtain ⟨x, rfl, hx⟩ := hM y (List.mem_cons_self ..)
        obtain ⟨l, rfl, hp⟩ := ih (fun z hz => hM z (List.mem_cons_of_mem _ hz))
        exact ⟨x :: l, rfl, fun z hz => by
          rcases List.mem_cons.1 hz with rfl | hz
          · exact hx
          · exact hp z hz⟩
    obtain ⟨l, hL, hp⟩ := this L (fun y hy => by
      obtain ⟨i, hi, rfl⟩ := List.getElem_of_mem hy
      have e : L.getD i [] = L[i] := by rw [List.getD_eq_getElem?_getD, List.getElem?_eq_getElem hi]; rfl
      exact hf _ (by rw [← e]; exact h1 i hi) (fun j hj => by rw [← e]; exact h2 i j hi hj))
    exact ⟨l, by rw [hL], by rw [hL] at hl; simpa using hl, hp⟩
/-- What is left of a world that was read alone. -/
theorem VSpec.row [Dr] {P : Program} {f : Nat} {ys : List AV} (h : VSpec P f ys (.bool true)) (w : World) (vs : List Value) (hl : vs.length = ys.length) (hr : ∀ j, j < ys.length → RepA w ⟨okAll w, fun _ => none, fun _ => 0, fun _ _ => undef, fun _ _ _ => undef⟩ j (vs.getD j undef) (ys.getD j .unk)) :
    Calls P f vs.toArray w (fun e w' => e = .returned (.bool true) ∧ Below w.heap.size w w') := by
  refine Calls.mono (h w vs _ (fun b o hb => hb) (fun b p hb => by cases hb) hl hr) ?_
  rintro e w' ⟨v, G', rfl, hf, _, _, _, _, hv⟩
  have : RepR w' G'.ok v (.bool true) := hv.1
  cases this
  exact ⟨rfl, ⟨hf.os, hf.tape, hf.output, hf.size, fun k hk => hf.block k hk (fun hh => by obtain ⟨p, hp⟩ := hh; cases hp)⟩⟩
end Go.Nv
