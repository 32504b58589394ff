/- BY VALUE, chapter 26: what the loops share. -/
import Derived.Test.YtnfmilnlekmjgaaC26C
import Derived.Test.YtnfmilnlekmjgaaBvSim2
set_option linter.unusedVariables false
namespace Go.Bv
theorem idx {i n : Nat} (h : i < n) (hn : n ≤ 4611686018427387904) : ((0 ≤ (i : Int)) = True) ∧ (((i : Int) < (n : Int)) = True) ∧ ((i : Int).toNat = i) ∧ IntKind.wrap .i64 ((i : Int) + 1) = ((i + 1 : Nat) : Int) := by
  refine ⟨by simp, by simp; omega, by omega, ?_⟩
  rw [wrap_i64 (by omega) (by omega)]; omega
theorem idxEnd {i n : Nat} (h : n ≤ i) : (((i : Int) < (n : Int)) = False) := by simp; omega
theorem pow10_eq (n : Nat) : pow10 n = 10 ^ n := by
  induction n with
  | zero => rfl
  | succ n ih => simp only [pow10, ih]; omega
theorem pow10_le {n m : Nat} (h : n ≤ m) : pow10 n ≤ pow10 m := by
  induction h with
  | refl => exact Int.le_refl _
  | step _ ih =>
    rename_i k _
    have h0 : 0 < pow10 k := by rw [pow10_eq]; exact Int.pow_pos (by omega)
    simp only [pow10]; omega
theorem pow10_range {n : Nat} (h : n ≤ 18) : 1 ≤ pow10 n ∧ pow10 n ≤ 1000000000000000000 := by
  have h1 := pow10_le (Nat.zero_le n)
  have h2 := pow10_le h
  exact ⟨h1, h2⟩
/-- ten to the power of n, n cut at 18 -/
def powT (n : Int) : Int := pow10 (if 18 < n then 18 else n).toNat
theorem powT_range (n : Int) : 1 ≤ powT n ∧ powT n ≤ 1000000000000000000 := by
  unfold powT
  exact pow10_range (by split <;> omega)
structure Val where
  n : Int
  s : ByteArray
def encV (v : Val) : List AV := [.int .i64 v.n, .str v.s]
instance : Inhabited Val := ⟨⟨0, bs []⟩⟩
def checkValue (t : Ty) (v : Val) : Int :=
  if (first [checkType t, cond (t.k == 4) 17] != 0) = true then first [checkType t, cond (t.k == 4) 17]
  else if (t.k == 0) = true then first [cond (v.n != 0) 5, cond ((v.s.size : Int) != t.l) 18]
  else first [cond (!(v.s.toList == (bs []).toList)) 5, cond (!(decide (-(powT t.l - 1) ≤ v.n) && decide (v.n ≤ powT t.l - 1))) 19]
def fieldsShort : List Fd → Bool
  | [] => true
  | k :: l => if (decide ((k.name.size : Int) > 100)) = true then false else fieldsShort l
def fewFile (fn n : ByteArray) (l : List Fd) (ks : List (ByteArray × Bool)) : Bool :=
  if (decide ((fn.size : Int) > 100) || decide ((n.size : Int) > 100) || decide ((l.length : Int) > 40) || decide ((ks.length : Int) > 40)) = true then false else (fieldsShort l && keyShort ks)
def u8s (l : List Int) : List (List AV) := l.map fun x => [.int .u8 x]
theorem u8s_len (l : List Int) : (u8s l).length = l.length := by simp [u8s]
theorem u8s_app (l m : List Int) : u8s (l ++ m) = u8s l ++ u8s m := by simp [u8s]
theorem ints_app (l m : List Int) : ints (l ++ m) = ints l ++ ints m := by simp [ints]
/-- A byte of a string, and its halves. -/
def bt (s : ByteArray) (i : Nat) : Int := byteAt s i
def hi (c : Int) : Int := c.fdiv 16
def lo (c : Int) : Int := IntKind.wrap .u8 ((BitVec.ofInt 8 c &&& 15#8).toNat : Int)
def packD (s : ByteArray) : Nat → List Int
  | 0 => []
  | i + 1 => packD s i ++ [hi (byteAt s i), lo (byteAt s i)]
def packA : Nat → List Int
  | 0 => []
  | i + 1 => packA i ++ [(i : Int), (i : Int)]
def zoneD (s : ByteArray) : Nat → List Int
  | 0 => []
  | i + 1 => zoneD s i ++ [lo (byteAt s i)]
def zoneA : Nat → List Int
  | 0 => []
  | i + 1 => zoneA i ++ [(i : Int)]
theorem packD_len (s : ByteArray) (i : Nat) : (packD s i).length = 2 * i := by
  induction i with
  | zero => rfl
  | succ i ih => simp [packD, ih]; omega
theorem packA_len (i : Nat) : (packA i).length = 2 * i := by
  induction i with
  | zero => rfl
  | succ i ih => simp [packA, ih]; omega
theorem zoneD_len (s : ByteArray) (i : Nat) : (zoneD s i).length = i := by
  induction i with
  | zero => rfl
  | succ i ih => simp [zoneD, ih]
theorem zoneA_len (i : Nat) : (zoneA i).length = i := by
  induction i with
  | zero => rfl
  | succ i ih => simp [zoneA, ih]
end Go.Bv

/- BY VALUE: code in pieces: what the walks of RecordOf and CheckFile share. -/
set_option linter.unusedSimpArgs false
set_option linter.unusedVariables false
namespace Go.Bv
attribute [local congr] ite_congr congr_bindOps congr_bindC congr_andThen congr_orNone congr_onBool congr_onEff congr_headC
set_option maxRecDepth 100000
set_option maxHeartbeats 40000000
open Go.Proofs Go.RowKit
section
variable {P : Program} {base : Nat} {w0 : World} {ok0 : Nat → Nat → Prop} {e e' : Env} {a : Act} {w : World} {G : Gh} {R : RT} {Q : Exit → Act → World → Prop} {c c1 c2 c3 rest : Code} {k k1 k2 k3 : C} {x : Ex}
def L0 : BT → BT := fun b e => loopN b 0 e
theorem sim1 (hm : P.follows .mixedOrders = true) (hR : VSound P R) (h1 : compC P c = some k) (h : Rel base w0 ok0 e a w G) (he : evalC R L0 k e = some (x, e'))
    (hQ : ∀ a' w' G', Rel base w0 ok0 e' a' w' G' → Exit.then (rest.wp P Q) Q x.to a' w') : (Code.seq c rest).wp P Q a w :=
  wp_seq (simC hm hR 0 c k k h1 (.refl _) e a w G x e' _ h he hQ)
theorem sim2 (hm : P.follows .mixedOrders = true) (hR : VSound P R) (h1 : compC P c1 = some k1) (h2 : compC P c2 = some k2) (h : Rel base w0 ok0 e a w G) (he : evalC R L0 (.seq k1 k2) e = some (x, e'))
    (hQ : ∀ a' w' G', Rel base w0 ok0 e' a' w' G' → Exit.then (rest.wp P Q) Q x.to a' w') : (Code.seq c1 (.seq c2 rest)).wp P Q a w := by
  simp only [evalC] at he
  cases hev : evalC R L0 k1 e with
  | none => simp [hev] at he
  | some r =>
    obtain ⟨x1, e1⟩ := r
    cases x1 with
    | normal => simp only [hev] at he; exact sim1 hm hR h1 h hev (fun a' w' G' h' => sim1 hm hR h2 h' he hQ)
    | exit id =>
      simp only [hev, Option.some.injEq, Prod.mk.injEq] at he
      obtain ⟨rfl, rfl⟩ := he
      exact sim1 hm hR h1 h hev (fun a' w' G' h' => hQ _ _ _ h')
    | ret =>
      simp only [hev, Option.some.injEq, Prod.mk.injEq] at he
      obtain ⟨rfl, rfl⟩ := he
      exact sim1 hm hR h1 h hev (fun a' w' G' h' => hQ _ _ _ h')
theorem sim3 (hm : P.follows .mixedOrders = true) (hR : VSound P R) (h1 : compC P c1 = some k1) (h2 : compC P c2 = some k2) (h3 : compC P c3 = some k3) (h : Rel base w0 ok0 e a w G) (he : evalC R L0 (.seq k1 (.seq k2 k3)) e = some (x, e'))
    (hQ : ∀ a' w' G', Rel base w0 ok0 e' a' w' G' → Exit.then (rest.wp P Q) Q x.to a' w') : (Code.seq c1 (.seq c2 (.seq c3 rest))).wp P Q a w := by
  rw [evalC] at he
  cases hev : evalC R L0 k1 e with
  | none => simp [hev] at he
  | some r =>
    obtain ⟨x1, e1⟩ := r
    cases x1 with
    | normal => simp only [hev] at he; exact sim1 hm hR h1 h hev (fun a' w' G' h' => sim2 hm hR h2 h3 h' he hQ)
    | exit id =>
      simp only [hev, Option.some.injEq, Prod.mk.injEq] at he
      obtain ⟨rfl, rfl⟩ := he
      exact sim1 hm hR h1 h hev (fun a' w' G' h' => hQ _ _ _ h')
    | ret =>
      simp only [hev, Option.some.injEq, Prod.mk.injEq] at he
      obtain ⟨rfl, rfl⟩ := he
      exact sim1 hm hR h1 h hev (fun a' w' G' h' => hQ _ _ _ h')
theorem Rel.bare {ok : Nat → Nat → Prop} {ts : List AV} (hsz : a.tmps.size = ts.length) (hd : a.defers = []) (hok : ∀ b o, ok b o → b < w.heap.size)
    (ht : ∀ t, t < ts.length → RepR w ok (a.tmps.getD t undef) (ts.getD t .unk)) : Rel w.heap.size w ok ⟨ts, List.replicate ts.length ⟨0, .dead⟩⟩ a w ⟨fun _ => undef, ok⟩ := by
  have hdead : ∀ d, (⟨ts, List.replicate ts.length ⟨0, .dead⟩⟩ : Env).kind d = .dead := fun d => by
    unfold Env.kind
    simp only [List.getElem?_replicate]
    split
    · rename_i o ho
      split at ho
      · cases ho; rfl
      · cases ho
    · rfl
  refine ⟨Below.refl _ _, Nat.le_refl _, hsz, fun t h => RepR.toT (G := ⟨fun _ => undef, ok⟩) (ht t h), hd, hok, fun b o hb => Iff.rfl, fun d h => ?_, fun d d' h h' h1 => ?_⟩
  · rw [hdead]; trivial
  · rw [hdead] at h1; cases h1
theorem evalC_of {L : BT → BT} (h : bindC R L k e (fun x e' => some (x, e')) = some (x, e')) : evalC R L k e = some (x, e') := by
  unfold bindC at h
  cases hh : evalC R L k e with
  | none => simp [hh] at h
  | some r => obtain ⟨x1, e1⟩ := r; simp only [hh] at h; exact h
theorem wp_reg {id n : Nat} {ops : Array Oper} (hc : c = .region id ops false) (hn : ops.size = n) (h : wpOps P ops Q (List.range n) a w) : c.wp P Q a w := by
  subst hc; subst hn; exact wp_region h
theorem ops_cons {ops : Array Oper} {i : Nat} {l : List Nat} {o : Oper} (ho : ops[i]? = some o) (hg : o.guard = none) (h : o.wp P a w (wpOps P ops Q l) Q) : wpOps P ops Q (i :: l) a w := by
  unfold wpOps
  rw [ho]
  simp only [Region.wanted, hg, if_true]
  exact .inl h
theorem wp_call {ops : Array Oper} {l : List Nat} {o : Oper} {f : Nat} {fn : Func} {cl : Call} {vs : Array Value} {post : Ending → World → Prop} (ho : o.op = .call cl) (hc : cl.callee = .value (.func f)) (hf : P.funcs[f]? = some fn)
    (hn : (fn.name == "runtime.NumGoroutine") = false) (hb : fn.body.isSome = true) (hv : cl.args.map a.eval = vs) (h : Calls P f vs w post)
    (hk : ∀ en w', post en w' → ∃ v, en = .returned v ∧ wpOps P ops Q l (a.put o.dst v) w') : o.wp P a w (wpOps P ops Q l) Q := by
  unfold Oper.wp
  rw [run_call ho hc hf hn hb]
  show Calls P f (cl.args.map a.eval) w _
  rw [hv]
  refine h.mono fun en w' hp => ?_
  obtain ⟨v, rfl, hh⟩ := hk en w' hp
  exact hh
end
theorem Act.put_get {a : Act} {d t : Nat} {v : Value} (h : d < a.tmps.size) : (a.put (some d) v).tmps.getD t undef = if d = t then v else a.tmps.getD t undef := by
  simp only [Act.put]
  by_cases hdt : d = t
  · subst hdt; rw [agetD_set_eq _ _ _ _ h, if_pos rfl]
  · rw [agetD_set_ne _ _ _ _ _ hdt, if_neg hdt]
theorem Act.put_size {a : Act} {d : Option Nat} {v : Value} : (a.put d v).tmps.size = a.tmps.size := by cases d <;> simp [Act.put]
theorem Act.put_defers {a : Act} {d : Option Nat} {v : Value} : (a.put d v).defers = a.defers := by cases d <;> rfl
abbrev SN : RT := fun _ _ => none
theorem mixed : Try.prog.follows .mixedOrders = true := by kernel_rfl
theorem RN : VSound Try.prog (run T SN) := run_sound mixed T_ok (fun _ _ _ h => by cases h)
theorem getD_set_if {l : List AV} {i t : Nat} {x d : AV} (h : i < l.length) : (l.set i x).getD t d = if i = t then x else l.getD t d := by
  by_cases hit : i = t
  · subst hit; rw [getD_set_eq _ _ _ _ h, if_pos rfl]
  · rw [getD_set_ne' _ _ _ _ _ hit, if_neg hit]
theorem rep_get (n t : Nat) : (List.replicate n AV.unk).getD t .unk = .unk := by
  simp only [List.getD_eq_getElem?_getD, List.getElem?_replicate]
  split <;> rfl
theorem inv_raw {w : World} {G : Gh} {e : Env} {v p : Value} (h : RepT w G e v (.raw p)) : v = p := by cases h; rfl
theorem sim0 {P : Program} {base : Nat} {w0 : World} {ok0 : Nat → Nat → Prop} {e e' : Env} {a : Act} {w : World} {G : Gh} {R : RT} {Q : Exit → Act → World → Prop} {c : Code} {k : C} {x : Ex}
    (hm : P.follows .mixedOrders = true) (hR : VSound P R) (h1 : compC P c = some k) (h : Rel base w0 ok0 e a w G) (he : evalC R L0 k e = some (x, e'))
    (hQ : ∀ a' w' G', Rel base w0 ok0 e' a' w' G' → Q x.to a' w') : c.wp P Q a w := simC hm hR 0 c k k h1 (.refl _) e a w G x e' _ h he hQ
end Go.Bv
