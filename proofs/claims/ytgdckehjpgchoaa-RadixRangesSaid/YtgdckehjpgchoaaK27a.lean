/- The library's sort, laid at this program: each function of it is the one over which the shelf's contract was proved, with other numbers. Written by my own program (gen/lay). -/
import Derived.Shelf.SlSortCmp.WholeK
import Derived.Test.YtgdckehjpgchoaaProg
import Derived.RangeFuncBox
import Derived.RangeFuncNested
import Derived.RangeFuncLeaves
import Derived.Shelf.Abstract
import Derived.Shelf.SlicesQ.Load
import Derived.WalkKit
import Derived.OwnWalkIn
import Derived.TacticsInMore
import Derived.LoopNIn
import Derived.LoopIn
import Derived.Maps.AppendAt
import Derived.Test.YtgdckehjpgchoaaNFun
import Derived.Lib.Strings
import Derived.Lib.Slices
import Derived.Lib.Walk
import Derived.Lib.Bytealg
import Derived.Test.YtgdckehjpgchoaaA1
import Derived.Test.YtgdckehjpgchoaaP27a
import Derived.Test.YtgdckehjpgchoaaP27h
set_option linter.unusedVariables false
set_option linter.unusedSimpArgs false
namespace Go.Nv
open Go.Proofs Go.Shelf
def sortRen : Go.Shelf.Ren := ⟨fun | 6 => 119 | 15 => 140 | 14 => 139 | 28 => 159 | 29 => 160 | 20 => 151 | 21 => 152 | 22 => 153 | 23 => 154 | 24 => 155 | 25 => 156 | 26 => 157 | 27 => 158 | 46 => 165 | 47 => 166 | 48 => 167 | 49 => 168 | 50 => 169 | 57 => 170 | n => n, fun | 22 => 22 | 24 => 47 | 25 => 138 | 3 => 3 | 39 => 183 | 0 => 0 | 53 => 197 | 55 => 199 | 4 => 4 | 46 => 191 | 45 => 190 | 50 => 178 | 5 => 5 | 9 => 9 | 66 => 203 | 70 => 207 | 76 => 209 | 77 => 30 | n => n, fun | n => n⟩
theorem sortLay : SlLaysF0.n6 Try.prog sortRen := {
  mixed := by kernel_rfl,
  f6 := ⟨Try.f119.name, by decide, Try.func119.trans (congrArg some (by kernel_rfl))⟩,
  f14 := ⟨Try.f139.name, by decide, Try.func139.trans (congrArg some (by kernel_rfl))⟩,
  f15 := Try.func140.trans (congrArg some (by kernel_rfl)),
  f20 := ⟨Try.f151.name, by decide, Try.func151.trans (congrArg some (by kernel_rfl))⟩,
  f21 := ⟨Try.f152.name, by decide, Try.func152.trans (congrArg some (by kernel_rfl))⟩,
  f22 := ⟨Try.f153.name, by decide, Try.func153.trans (congrArg some (by kernel_rfl))⟩,
  f23 := ⟨Try.f154.name, by decide, Try.func154.trans (congrArg some (by kernel_rfl))⟩,
  f24 := ⟨Try.f155.name, by decide, Try.func155.trans (congrArg some (by kernel_rfl))⟩,
  f25 := ⟨Try.f156.name, by decide, Try.func156.trans (congrArg some (by kernel_rfl))⟩,
  f26 := ⟨Try.f157.name, by decide, Try.func157.trans (congrArg some (by kernel_rfl))⟩,
  f27 := ⟨Try.f158.name, by decide, Try.func158.trans (congrArg some (by kernel_rfl))⟩,
  f28 := Try.func159.trans (congrArg some (by kernel_rfl)),
  f29 := Try.func160.trans (congrArg some (by kernel_rfl)),
  f46 := ⟨Try.f165.name, by decide, Try.func165.trans (congrArg some (by kernel_rfl))⟩,
  f47 := Try.func166.trans (congrArg some (by kernel_rfl)),
  f48 := Try.func167.trans (congrArg some (by kernel_rfl)),
  f49 := ⟨Try.f168.name, by decide, Try.func168.trans (congrArg some (by kernel_rfl))⟩,
  f50 := ⟨Try.f169.name, by decide, Try.func169.trans (congrArg some (by kernel_rfl))⟩,
  f57 := ⟨Try.f170.name, by decide, Try.func170.trans (congrArg some (by kernel_rfl))⟩,
  t0 := Try.underlying0,
  a0 := Try.isAgg0,
  z0 := Try.sizeOf0,
  v0 := Try.zeroValue0,
  t3 := Try.underlying3,
  a3 := Try.isAgg3,
  z3 := Try.sizeOf3,
  v3 := Try.zeroValue3,
  t4 := Try.underlying4,
  a4 := Try.isAgg4,
  z4 := Try.sizeOf4,
  v4 := Try.zeroValue4,
  t5 := Try.underlying5,
  a5 := Try.isAgg5,
  z5 := Try.sizeOf5,
  v5 := Try.zeroValue5,
  t9 := Try.underlying9,
  a9 := Try.isAgg9,
  z9 := Try.sizeOf9,
  v9 := Try.zeroValue9,
  t22 := Try.underlying22,
  a22 := Try.isAgg22,
  z22 := Try.sizeOf22,
  v22 := Try.zeroValue22,
  t25 := Try.underlying138,
  a25 := Try.isAgg138,
  z25 := Try.sizeOf138,
  v25 := Try.zeroValue138,
  t39 := Try.underlying183,
  a39 := Try.isAgg183,
  z39 := Try.sizeOf183,
  v39 := Try.zeroValue183,
  t45 := Try.underlying190,
  a45 := Try.isAgg190,
  z45 := Try.sizeOf190,
  v45 := Try.zeroValue190,
  t46 := Try.underlying191,
  a46 := Try.isAgg191,
  z46 := Try.sizeOf191,
  v46 := Try.zeroValue191,
  t50 := Try.underlying178,
  a50 := Try.isAgg178,
  z50 := Try.sizeOf178,
  v50 := Try.zeroValue178,
  t53 := Try.underlying197,
  a53 := Try.isAgg197,
  z53 := Try.sizeOf197,
  v53 := Try.zeroValue197,
  t55 := Try.underlying199,
  a55 := Try.isAgg199,
  z55 := Try.sizeOf199,
  v55 := Try.zeroValue199,
  t66 := Try.underlying203,
  a66 := Try.isAgg203,
  z66 := Try.sizeOf203,
  v66 := Try.zeroValue203,
  t70 := Try.underlying207,
  a70 := Try.isAgg207,
  z70 := Try.sizeOf207,
  v70 := Try.zeroValue207,
  t76 := Try.underlying209,
  a76 := Try.isAgg209,
  z76 := Try.sizeOf209,
  v76 := Try.zeroValue209,
  t77 := Try.underlying30,
  a77 := Try.isAgg30,
  z77 := Try.sizeOf30,
  v77 := Try.zeroValue30 }
end Go.Nv
/- By hand: the library's iterator over a slice of entries, and what is collected from it. -/
namespace Go.Nv
open Go.RowKit Go.Shelf Go.Proofs
attribute [local go_sem] Oper.semAt_some
def cellsE (x : En) : List Value := [.string x.k, .int .i64 x.r]
def valE (x : En) : Value := .agg (cellsE x).toArray
def upE (f : Nat → En) (k : Nat) : List En := (List.range k).map f
theorem upE_succ (f : Nat → En) (k : Nat) : upE f (k + 1) = upE f k ++ [f k] := by simp [upE, List.range_succ]
theorem upE_length (f : Nat → En) (k : Nat) : (upE f k).length = k := by simp [upE]
theorem upE_take (zs : List En) {k : Nat} (hk : k ≤ zs.length) : upE (fun j => zs[j]?.getD en0) k = zs.take k := by
  apply List.ext_getElem
  · simp [upE, hk]
  · intro i h1 h2
    have : i < zs.length := by simp [upE] at h1; omega
    simp [upE, this]
/-- An element's cells are loaded. -/
theorem loadE {P : Program} {W : World} {b o : Nat} {x : En} (h0 : W.cell? ⟨b, o, none⟩ = some (.string x.k)) (h1 : W.cell? ⟨b, o + 1, none⟩ = some (.int .i64 x.r)) :
    Sem.run P (loadCellsFrom ⟨b, o, none⟩ 0 2 #[]) W = .ok (cellsE x).toArray W :=
  run_loadCellsFrom_list P W ⟨b, o, none⟩ (cellsE x) 2 rfl (fun j v hj => by
    match j, hj with
    | 0, hj => cases hj; exact h0
    | 1, hj => cases hj; exact h1)
set_option maxRecDepth 100000 in
set_option maxHeartbeats 2000000 in
theorem val120_in (F : Fence) (n : Nat) (h7 : F.fn 120) (hro : F.round = none) (hn : 1 ≤ n) (l Bs Bo n₀ b off cap : Nat) (zs : List En) (hreach : zs.length ≤ 100000) (hb : b < n₀) (J Jx : List En → World → Prop)
    (hY : ∀ pre x W, J pre W → pre.length < zs.length → YieldAt F (n - 1) Try.prog l #[valE x] W fun e W' =>
      (e = .returned (.bool true) ∧ J (pre ++ [x]) W' ∧ Below n₀ W W') ∨ (e = .returned (.bool false) ∧ Jx (pre ++ [x]) W'))
    (W : World) (hJ : AbidesFrom W.heap.size J) (hn₀ : n₀ ≤ W.heap.size) (hBs : W.cell? ⟨Bs, Bo, none⟩ = some (.slice (some ⟨b, off, none⟩) zs.length cap))
    (hc : ∀ j, j < zs.length → W.cell? ⟨b, off + j * 2, none⟩ = some (.string (zs[j]?.getD en0).k) ∧ W.cell? ⟨b, off + j * 2 + 1, none⟩ = some (.int .i64 (zs[j]?.getD en0).r)) (h0 : J [] W) :
    CallsIn F n Try.prog 120 #[.func (.yield l) #[] #[], .pointer (some ⟨Bs, Bo, none⟩)] W fun e W' => (∃ v, e = .returned v) ∧
      ((∃ ys, ys = zs ∧ J ys W') ∨ (∃ pre, pre <+: zs ∧ Jx pre W')) := by
  refine callsIn_of_wp Try.func120 rfl h7 ?_ hro
  simp only [Try.ntmps120, List.size_toArray, List.length_cons, List.length_nil, Nat.reduceAdd, Nat.reduceSub, Array.replicate_succ, Array.replicate_zero, List.push_toArray, List.append_toArray, List.nil_append, List.cons_append]
  gi_wp2
  gi_loopw [7] (fun i wr => ∃ k : Nat, k ≤ zs.length ∧ i = .int .i64 k ∧ J (upE (fun j => zs[j]?.getD en0) k) wr ∧ Below n₀ W wr ∧ W.heap.size ≤ wr.heap.size)
    (fun i _ => zs.length - (Go.RowKit.intOf i).toNat)
  case atStart => exact ⟨0, Nat.zero_le _, rfl, h0, Below.refl _ _, Nat.le_refl _⟩
  case round =>
    obtain ⟨k, hk, rfl, hJs, hnx, hsz⟩ := hrel
    have hcx : k < zs.length → wr.cell? ⟨b, off + k * 2, none⟩ = some (.string (zs[k]?.getD en0).k) ∧ wr.cell? ⟨b, off + k * 2 + 1, none⟩ = some (.int .i64 (zs[k]?.getD en0).r) := fun h =>
      ⟨(hnx.cell (p := ⟨b, off + k * 2, none⟩) hb).trans (hc k h).1, (hnx.cell (p := ⟨b, off + k * 2 + 1, none⟩) hb).trans (hc k h).2⟩
    by_cases hlt : k < zs.length
    · have hld := loadE (P := Try.prog) (hcx hlt).1 (hcx hlt).2
      have hJa : J (upE (fun j => zs[j]?.getD en0) k) (wr.alloc (.cells (cellsE (zs[k]?.getD en0)).toArray 47)) := hJ _ wr _ none hJs (World.grownBy_alloc wr _ none) (fun r e => by cases e)
      have hBa : Below n₀ wr (wr.alloc (.cells (cellsE (zs[k]?.getD en0)).toArray 47)) := (Below.refl n₀ wr).alloc (by omega) _
      obtain ⟨fn, tmps, assign, body, hy, hR⟩ := hY _ (zs[k]?.getD en0) _ hJa (by rw [upE_length]; exact hlt)
      have hup := upE_succ (fun j => zs[j]?.getD en0) k
      have hpre : upE (fun j => zs[j]?.getD en0) (k + 1) <+: zs := by rw [upE_take zs (by omega)]; exact List.take_prefix _ _
      rw [hup] at hpre
      have hJn : ∀ W3, J (upE (fun j => zs[j]?.getD en0) k ++ [zs[k]?.getD en0]) W3 → J (upE (fun j => zs[j]?.getD en0) (k + 1)) W3 := fun W3 h => by rw [hup]; exact h
      generalize hx : zs[k]?.getD en0 = x at *
      simp only [cellsE, valE] at hy hR hld hBa
      gi_wp2
      refine hR.mono ?_
      rintro e W3 (⟨rfl, hJ3, hk3⟩ | ⟨rfl, hJx3⟩)
      · gi_wp2
        go_roundw
        case rel => exact ⟨k + 1, by omega, by simp, hJn _ hJ3, (hnx.trans hBa).trans hk3, by have := hk3.size; simp at this; omega⟩
        case measure => simp [Go.RowKit.intOf]; omega
      · gi_wp2
        refine bodyPost_ret (results_none rfl _ _ _) rfl ?_
        exact ⟨⟨_, rfl⟩, .inr ⟨_, hpre, hJx3⟩⟩
    · obtain rfl : k = zs.length := by omega
      gi_wp2
      go_end0
      exact ⟨⟨_, rfl⟩, .inl ⟨_, by rw [upE_take zs (Nat.le_refl _), List.take_length], hJs⟩⟩
set_option maxRecDepth 100000 in
set_option maxHeartbeats 1000000 in
theorem val120_nil_in (F : Fence) (n : Nat) (h7 : F.fn 120) (hro : F.round = none) (l Bs Bo cap : Nat) (ad : Option Addr) (J : List En → World → Prop) (W : World) (hBs : W.cell? ⟨Bs, Bo, none⟩ = some (.slice ad 0 cap)) (h0 : J [] W) :
    CallsIn F n Try.prog 120 #[.func (.yield l) #[] #[], .pointer (some ⟨Bs, Bo, none⟩)] W fun e W' => (∃ v, e = .returned v) ∧ J [] W' := by
  refine callsIn_of_wp Try.func120 rfl h7 ?_ hro
  simp only [Try.ntmps120, List.size_toArray, List.length_cons, List.length_nil, Nat.reduceAdd, Nat.reduceSub, Array.replicate_succ, Array.replicate_zero, List.push_toArray, List.append_toArray, List.nil_append, List.cons_append]
  gi_wp2
  gi_loopw [7] (fun i wr => i = .int .i64 0 ∧ J [] wr) (fun _ _ => 0)
  case atStart => exact ⟨rfl, h0⟩
  case round =>
    obtain ⟨rfl, hJs⟩ := hrel
    gi_wp2
    go_end0
    exact ⟨⟨_, rfl⟩, hJs⟩
/-- The variable holds entries. -/
def HoldsE (n₀ : Nat) (W : World) (Bs Bo : Nat) (zs : List En) : Prop := Bs < n₀ ∧ ∃ sv, W.cell? ⟨Bs, Bo, none⟩ = some sv ∧ ((zs = [] ∧ ∃ a cap, sv = .slice a 0 cap) ∨
  ∃ b off cap, sv = .slice (some ⟨b, off, none⟩) zs.length cap ∧ b < n₀ ∧ ∀ j, j < zs.length → W.cell? ⟨b, off + j * 2, none⟩ = some (.string (zs[j]?.getD en0).k) ∧ W.cell? ⟨b, off + j * 2 + 1, none⟩ = some (.int .i64 (zs[j]?.getD en0).r))
theorem HoldsE.below {n₀ : Nat} {A B : World} (h : Below n₀ A B) {Bs Bo : Nat} {zs : List En} (H : HoldsE n₀ A Bs Bo zs) : HoldsE n₀ B Bs Bo zs := by
  obtain ⟨h1, sv, h2, h3⟩ := H
  refine ⟨h1, sv, (h.cell (p := ⟨Bs, Bo, none⟩) h1).trans h2, ?_⟩
  rcases h3 with h3 | ⟨b, off, cap, e, hb, hc⟩
  · exact .inl h3
  · exact .inr ⟨b, off, cap, e, hb, fun j hj => ⟨(h.cell (p := ⟨b, off + j * 2, none⟩) hb).trans (hc j hj).1, (h.cell (p := ⟨b, off + j * 2 + 1, none⟩) hb).trans (hc j hj).2⟩⟩
theorem val120_stops (F : Fence) (n : Nat) (h7 : F.fn 120) (hro : F.round = none) (hn : 1 ≤ n) (Bs Bo n₀ : Nat) (zs : List En) (hreach : zs.length ≤ 100000) (w : World) (hn₀ : n₀ ≤ w.heap.size) (hH : HoldsE n₀ w Bs Bo zs) :
    SeqStopsK F n Try.prog 120 #[.pointer (some ⟨Bs, Bo, none⟩)] (fun x : En => #[valE x]) (Below n₀) (fun ys => ys = zs) (fun pre => pre <+: zs) zs.length w := fun l J Jx W hW hJ _ hY h0 => by
  obtain ⟨h1, sv, h2, ⟨rfl, ad, cap, rfl⟩ | ⟨b, off, cap, rfl, hb, hc⟩⟩ := hH.below (hW.mono hn₀)
  · exact (val120_nil_in F n h7 hro l Bs Bo cap ad J W h2 h0).mono fun e W' ⟨he, hj⟩ => ⟨he, .inl ⟨_, rfl, hj⟩⟩
  · exact val120_in F n h7 hro hn l Bs Bo n₀ b off cap zs hreach hb J Jx hY W hJ (Nat.le_trans hn₀ hW.size) h2 hc h0
theorem info47 : (Try.prog.info? 47).map (fun i => (i.zero, i.size, i.bytes)) = some (some (.agg #[.string (bs []), .int .i64 0]), 2, 24) := by kernel_rfl
theorem cells2_new (w : World) (x : En) (t : TypeId) : ∀ j u, (cellsE x)[j]? = some u → (w.alloc (.cells #[.string x.k, .int .i64 x.r] t)).cell? ((⟨w.heap.size, 0, none⟩ : Addr).add j) = some u := by
  intro j u hj
  match j, hj with
  | 0, hj => cases hj; simp [Addr.add]
  | 1, hj => cases hj; simp [Addr.add]
set_option maxRecDepth 100000 in
set_option maxHeartbeats 4000000 in
theorem append138_in (F : Fence) (n : Nat) (h3 : F.fn 138) (h7 : F.fn 120) (hro : F.round = none) (hn : 3 ≤ n) (Bs Bo : Nat) (zs : List En) (hreach : zs.length ≤ 100000) (w : World) (hH : HoldsE w.heap.size w Bs Bo zs) :
    CallsIn F n Try.prog 138 #[.slice none 0 0, .func (.func 120) #[] #[.pointer (some ⟨Bs, Bo, none⟩)]] w fun e W' => ∃ v, e = .returned v ∧ W'.ownsRow w.heap.size 47 2 v zs.length (zs.flatMap cellsE) ∧ Below w.heap.size w W' := by
  have h1 : 1 ≤ n := by omega
  obtain ⟨i0, hi, hz0, hz1, hz2⟩ := info_parts info47
  refine callsIn_of_wp_marks Try.func138 rfl h3 ?_ hro
  simp only [Try.ntmps138, List.size_toArray, List.length_cons, List.length_nil, Nat.reduceAdd, Nat.reduceSub, Array.replicate_succ, Array.replicate_zero, List.push_toArray, List.append_toArray, List.nil_append, List.cons_append]
  gi_wp2
  have bO := Boxed.new w 22 (.slice none 0 0)
  have hB0 : Below w.heap.size w (w.alloc (.cells #[.slice none 0 0] 22)) := (Below.refl _ w).alloc (Nat.le_refl _) _
  have hsz : (w.alloc (.cells #[.slice none 0 0] 22)).heap.size = w.heap.size + 1 := by simp
  refine wpIn_rangeFunc_ownH hro h1 (gf := 120) (lb := #[.pointer (some ⟨Bs, Bo, none⟩)]) rfl h7 (enters_of Try.func120 (by kernel_rfl) rfl)
    (val120_stops F (n - 1) h7 hro (by omega) Bs Bo w.heap.size zs hreach _ (by omega) (hH.below hB0)) belowK_t (belowK_b (by omega)) (Below.refl _ _) (fun _ => rfl)
    (fun pre W => (∃ v, Boxed W w.heap.size 22 v ∧ W.ownsRow w.heap.size 47 2 v pre.length (pre.flatMap cellsE) ∧ True) ∧ Below w.heap.size w W)
    (fun _ _ _ => False)
    (OwnFrom.and (Own.from (holdsRow_own w.heap.size w.heap.size 22 47 2 (fun pre : List En => pre.length) (fun pre => pre.flatMap cellsE) (fun _ _ => True)) _) (ownFrom_below (Nat.le_refl _) (by omega)))
    (fun _ _ _ _ _ hs _ _ => hs)
    ⟨⟨_, bO, World.ownsRow_nil _ _ _ _, trivial⟩, hB0⟩
    (fun x a' W => ∃ Bx, w.heap.size < Bx ∧ W.heap[Bx]? = some (.cells #[.string x.k, .int .i64 x.r] 47 (0, 0)) ∧ a' = { tmps := #[.slice none 0 0, .func (.func 120) #[] #[.pointer (some ⟨Bs, Bo, none⟩)], .pointer (some ⟨w.heap.size, 0, none⟩), undef, .slice none 0 0, .pointer (some ⟨Bx, 0, none⟩), .func (.func 120) #[] #[.pointer (some ⟨Bs, Bo, none⟩)], valE x, undef, undef, undef, undef, undef], defers := [] })
    (fun x a' _ X Y row hs hg hr => by
      obtain ⟨Bx, g1, g2, g3⟩ := hs
      refine ⟨Bx, g1, (hg.block Bx (Array.getElem?_eq_some_iff.1 g2).1 (fun e => ?_)).trans g2, g3⟩
      obtain ⟨_, o, ho, hc⟩ := hr Bx e.symm
      rw [g2] at ho; cases ho; cases hc)
    ?assign ?body ?done ?stop
  case assign =>
    rintro l pre x W K ⟨⟨v, hv, hrow, _⟩, hB1⟩ hK
    dsimp only [valE, cellsE] at hK ⊢
    gi_wp2
    exact hK _ _ ((KeepsOthers.alloc _ _).from _) ((Below.refl _ W).alloc hB1.size _) ⟨⟨v, hv.alloc _, hrow.alloc _, trivial⟩, hB1.alloc hB1.size _⟩ ⟨W.heap.size, hv.lt, World.alloc_heap_new W _, rfl⟩
  case body =>
    rintro l pre x a' W hl ⟨r, hr⟩ ⟨⟨v, hv, hrow, _⟩, hB⟩ ⟨Bx, hBx, bX, rfl⟩ hlt
    have hc := hv.cell
    have hx0 : W.cell? ⟨Bx, 0, none⟩ = some (.string x.k) := by simp [World.cell?, bX]
    have hx1 : W.cell? ⟨Bx, 1, none⟩ = some (.int .i64 x.r) := by simp [World.cell?, bX]
    dsimp only [valE, cellsE]
    gi_wp2_with (gi_at_builtin; refine wpListIn_append_own _ rfl _ _ 22 rfl w.heap.size 47 i0 (.agg #[.string (bs []), .int .i64 0]) 2 24 Try.underlying22 hi hz0 hz1 hz2 rfl (by decide) _ _ _ rfl (hrow.alloc _) ⟨W.heap.size, 0, none⟩ 1 1 (cellsE x) rfl rfl (cells2_new _ _ _) (by simp [cellsE, Value.oneCell']) (by unfold maxLen; omega) (by omega) (by have := hB.size; simp; omega) ?_; intro v' w1 hown' hgrow _; obtain ⟨g', cap', rfl⟩ := ownsRow_succ hown'; obtain ⟨hv1, hv2, hr2, hk2, hb2⟩ := hv.appended (by decide) hrow hB.size (Nat.le_refl _) hown' hgrow; have hc1 := hv1.cell; have hf1 := hv1.frozen)
    exact ⟨hk2.from _, hb2, ⟨_, hv2, by simpa using hr2, trivial⟩, hB.trans hb2⟩
  case done =>
    rintro D ys W hD rfl ⟨⟨v, hv, hrow, _⟩, hB⟩ hK
    have hc := hv.cell
    gi_wp2
    refine ⟨by simp, .inl ⟨_, _, rfl, run_takeDeferred hK, ?_⟩⟩
    exact ⟨_, results_tmp rfl _ _ _, v, rfl, ownsRow_putObj hrow _ hK rfl, hB.trans (belowK_b (w := w) (Nat.le_refl _) W D _ _ (by omega) hK rfl rfl)⟩
  case stop =>
    rintro D c pre W _ _ h _
    exact h.elim
end Go.Nv
/- BY VALUE, with trees: the library's sort of a row that is lent. -/
namespace Go.Nv
open Go.RowKit Go.Shelf Go.Sort Go.Proofs
/-- It is kept that draws are never given back; or it is not. -/
abbrev drS : Dr := ⟨⟨True⟩⟩
abbrev drL : Dr := ⟨⟨False⟩⟩
/-- A world that has grown. -/
theorem grown_of_frame {W w' : World} {L : Lend} (h : @Frame drS W L w') (hL : ∀ b, ¬ L b) : ∃ q os', w' = grow (W.drewN q) os' := by
  letI := drS
  refine ⟨w'.drawn - W.drawn, w'.heap.extract W.heap.size w'.heap.size, ?_⟩
  have h1 : w'.heap = W.heap ++ w'.heap.extract W.heap.size w'.heap.size := by
    apply Array.ext_getElem?
    intro i
    rw [Array.getElem?_append]
    by_cases hi : i < W.heap.size
    · rw [if_pos hi]; exact h.block i hi (hL i)
    · rw [if_neg hi, Array.getElem?_extract]
      by_cases hj : i < w'.heap.size
      · rw [if_pos (by simp; omega)]; congr 1; omega
      · rw [if_neg (by simp; omega), Array.getElem?_eq_none (by omega)]
  have h5 : W.drawn ≤ w'.drawn := h.drawn trivial
  obtain ⟨heap, tape, drawn, os, output⟩ := w'
  have h2 := h.os; have h3 := h.tape; have h4 := h.output
  simp only at h1 h2 h3 h4 h5
  simp only [grow, World.drewN]
  rw [← h1, ← h2, ← h3, ← h4]
  congr 1
  omega
def gh0 : Gh := ⟨fun _ _ => False, fun _ => none, fun _ => 0, fun _ _ => undef, fun _ _ _ => undef⟩
section
variable {P : Program} {ρ : Ren} {α : Type} [Inhabited α] {enc : α → List Value} {encA : α → List AV} {k : Nat}
/-- How an element lies, and how it is told. -/
structure EncOk (enc : α → List Value) (encA : α → List AV) (k : Nat) : Prop where
  len : ∀ x, (enc x).length = k
  lenA : ∀ x, (encA x).length = k
  one : ∀ x, ∀ v ∈ enc x, v.oneCell' = true
  pure : ∀ x j, j < k → ((encA x).getD j .unk).pure = true
  rep : ∀ w ok x j, j < k → RepR w ok ((enc x).getD j undef) ((encA x).getD j .unk)
  inv : ∀ w ok x j v, j < k → RepR w ok v ((encA x).getD j .unk) → v = (enc x).getD j undef
omit [Inhabited α] in
theorem EncOk.agg (H : EncOk enc encA k) (w : World) (ok : Nat → Nat → Prop) (x : α) : RepR w ok (.agg (enc x).toArray) (.agg (encA x)) := by
  refine .agg _ _ (by simp [H.len, H.lenA]) (fun j hj => H.pure x j (by rw [H.lenA] at hj; exact hj)) (fun j hj => ?_)
  have := H.rep w ok x j (by rw [H.lenA] at hj; exact hj)
  rw [show (enc x).toArray.getD j undef = (enc x).getD j undef by simp [Array.getD_eq_getD_getElem?, List.getD_eq_getElem?_getD]]
  exact this
theorem cmpLays_of (H : EncOk enc encA k) {g : Nat} {cf : α → α → Int} (h : ∀ x y, @VSpec drS P g [.agg (encA x), .agg (encA y)] (.int .i64 (cf x y))) (blk off size : Nat) (w : World) : CmpLays P g #[] enc k cf blk off size w := by
  intro m os dk hs x y
  generalize sortWorldK enc k w blk off m dk os = W
  have := h x y W [.agg (enc x).toArray, .agg (enc y).toArray] gh0 (fun _ _ h => h.elim) (fun _ _ h => by cases h) rfl (fun j hj => by
    match j, hj with
    | 0, _ => exact H.agg _ _ x
    | 1, _ => exact H.agg _ _ y)
  refine Calls.mono this ?_
  rintro e w' ⟨v, G', rfl, hf, _, _, _, _, hr⟩
  refine ⟨?_, grown_of_frame hf (fun b hb => by obtain ⟨p, hp⟩ := hb; cases hp)⟩
  have : RepR w' G'.ok v (.int .i64 (cf x y)) := hr.1
  cases this
  rfl
theorem flatK_at (H : EncOk enc encA k) (l : List α) (d : α) {i j : Nat} (hi : i < l.length) (hj : j < k) : (flatK enc k l.toArray)[i * k + j]! = (enc (l.getD i d)).getD j undef := by
  have lt : i * k + j < l.toArray.size * k := by
    have := Nat.mul_le_mul_right k (show i + 1 ≤ l.toArray.size by simp; omega); rw [Nat.add_mul, Nat.one_mul] at this; omega
  have e1 : (i * k + j) / k = i := (blk_iff k i _ (by omega)).1 ⟨by omega, by omega⟩
  have e2 : (i * k + j) % k = j := by rw [Nat.mod_eq_sub_div_mul, e1]; omega
  rw [get_flatK _ _ _ _ lt, e1, e2]
  have h1 : l.toArray[i]! = l.getD i d := by
    simp [List.getD_eq_getElem?_getD, getElem!_def, List.getElem?_eq_getElem hi]
  have h2 : ∀ (L : List Value) (j : Nat), j < L.length → L[j]! = L.getD j undef := fun L j h => by
    rw [getElem!_pos L j h, List.getD_eq_getElem?_getD, List.getElem?_eq_getElem h]; rfl
  rw [h1, h2 _ _ (by rw [H.len]; exact hj)]
/-- The library's sort: the row is lent. -/
theorem sort_spec [Dr] (L : SlLaysF0.n6 P ρ) (aE : ∀ w, (isAgg (ρ.t 24)).run P w = .ok true w) (zE : ∀ w, (Go.sizeOf (ρ.t 24)).run P w = .ok k w) (H : EncOk enc encA k) (cf : α → α → Int) (hO : SWO (ltOf cf)) (hu : ∀ x y, ltOf cf x y = false → ltOf cf y x = false → x = y)
    (g E : Nat) (eg : ∀ args w, (callFunc g args).run P w = .ok (.enter g args) w) (hcmp : ∀ x y, @VSpec drS P g [.agg (encA x), .agg (encA y)] (.int .i64 (cf x y))) (l : List α) (h0 : 0 < l.length) (hl : l.length < 4611686018427387904) :
    VSpec P (ρ.f 6) [.row E k (l.map encA), .fn g []] (.io (.tup []) [.row E k ((l.mergeSort (fun x y => !ltOf cf y x)).map encA)]) := by
  intro w vs G hok hown hlen hrep
  obtain ⟨v0, v1, rfl⟩ : ∃ v0 v1, vs = [v0, v1] := by
    match vs, hlen with
    | [a, b], _ => exact ⟨a, b, rfl⟩
  have r0 : RepC w G 0 [] 0 v0 (.row E k (l.map encA)) := hrep 0 (by simp)
  have r1 : RepR w G.ok v1 (.fn g []) := hrep 1 (by simp)
  obtain ⟨hh, ⟨hn, _⟩ | ⟨b, cap, cur, rfl, hb, hw, hc1, hc2, hc3, hc4, hx⟩⟩ := r0.rowInv
  · have := congrArg List.length hn; rw [List.length_map, List.length_nil] at this; omega
  have e1 : v1 = .func (.func g) #[] #[] := by
    cases r1 with
    | fn f vs l hs hp hr => rw [show vs = #[] from Array.eq_empty_of_size_eq_zero hs]
  subst e1
  obtain ⟨d0⟩ : Nonempty α := by
    cases l with
    | nil => cases h0
    | cons x l => exact ⟨x⟩
  have hlm : (l.map encA).length = l.length := List.length_map ..
  simp only [hlm] at hc1 hx hc4 hh r0 ⊢
  have hblt : b < w.heap.size := (hown b _ hb).1
  have hcur : ∀ i j, i < l.length → j < k → cur.getD (i * k + j) undef = (enc (l.getD i d0)).getD j undef := fun i j hi hj => by
    have := hx i j hi hj
    have e : ((l.map encA).getD i []).getD j .unk = (encA (l.getD i d0)).getD j .unk := by
      rw [enc_get encA l i d0 hi]
    rw [e] at this
    exact H.inv _ _ _ _ _ hj (this.pureInv (H.pure _ _ hj))
  have bnd : ∀ i j, i < l.length → j < k → i * k + j < cur.size := fun i j hi hj => by
    have := Nat.mul_le_mul_right k (show i + 1 ≤ cap by omega); rw [Nat.add_mul, Nat.one_mul] at this; omega
  have hH : HoldsK enc k w b 0 l.toArray := by
    intro t ht
    rw [size_flatK] at ht
    have hk : 0 < k := Nat.pos_of_ne_zero fun hh => by subst hh; simp at ht
    have hi : t / k < l.length := by rw [Nat.div_lt_iff_lt_mul hk]; simpa using ht
    have hj := Nat.mod_lt t hk
    have et : t = t / k * k + t % k := by rw [Nat.mul_comm]; exact (Nat.div_add_mod t k).symm
    have hb2 := bnd _ _ hi hj
    rw [← et] at hb2
    refine ⟨?_, ?_⟩
    · have : (flatK enc k l.toArray)[t]! = cur.getD t undef := by
        rw [et, flatK_at H l d0 hi hj, hcur _ _ hi hj]
      show w.cell? ⟨b, 0 + t, none⟩ = some (flatK enc k l.toArray)[t]!
      rw [this]
      simp only [World.cell?, hw, Nat.zero_add, Option.isSome_none, Bool.false_eq_true, if_false]
      rw [Array.getD_eq_getD_getElem?, Array.getElem?_eq_getElem hb2]; rfl
    · simp [World.frozen?, hw]
  have hs := AnyQ.slices_SortFunc L k aE zE enc H.len H.one cf hO g #[] b 0 cap l.toArray w eg (cmpLays_of H hcmp b 0 _ w) hH hblt (by simpa using hl)
  have hsz : l.toArray.size = l.length := by simp
  rw [hsz] at hs
  refine Calls.mono hs ?_
  rintro e w' ⟨rfl, d', n, os, hp, hso, rfl⟩
  have hd : d'.toList = l.mergeSort (fun x y => !ltOf cf y x) := by
    have := sorted_unique_holds (lt := ltOf cf) hO hu l.toArray d' (by rw [hsz]; exact hp) (by rw [hsz]; exact hso)
    simpa using this
  have hds : d'.size = l.length := by rw [hp.1]; simp
  rw [← hd]
  have hw' : (sortWorldK enc k w b 0 n d' os).heap[b]? = some (.cells (putCells id 0 (flatK enc k d') cur) E (0, 0)) := by
    have : (sortWorldK enc k w b 0 n d' os).heap[b]? = (putRowK enc k (Sort.ahead w n) b 0 d').heap[b]? := heap_grow_old _ _ (by simp [putRowK, putRow, mapBlock, Sort.ahead, hblt])
    rw [this]
    simp only [putRowK, putRow, mapBlock, Sort.ahead, Array.getElem?_modify, hw, if_true, Option.map_some, onCells]
  have hoth : ∀ c, c < w.heap.size → c ≠ b → (sortWorldK enc k w b 0 n d' os).heap[c]? = w.heap[c]? := fun c hc hne => by
    have : (sortWorldK enc k w b 0 n d' os).heap[c]? = (putRowK enc k (Sort.ahead w n) b 0 d').heap[c]? := heap_grow_old _ _ (by simp [putRowK, putRow, mapBlock, Sort.ahead, hc])
    rw [this]
    simp only [putRowK, putRow, mapBlock, Sort.ahead, Array.getElem?_modify, if_neg (Ne.symm hne)]
  have hle : w.heap.size ≤ (sortWorldK enc k w b 0 n d' os).heap.size := size_sortWorldK_c enc k w b 0 n d' os
  refine ⟨_, G, rfl, ⟨rfl, rfl, rfl, hle, fun c hc hne => hoth c hc (fun hh => hne ⟨_, hh ▸ hb⟩), fun _ => Nat.le_add_right _ _⟩, fun b' o hb' => Nat.lt_of_lt_of_le (hok b' o hb') hle, fun _ _ h => h, fun _ _ _ _ h => h, fun b' p hb' => ?_, ?_, rfl, ?_⟩
  · obtain ⟨g1, g2⟩ := hown b' p hb'
    exact ⟨Nat.lt_of_lt_of_le g1 hle, .inr ⟨p, hb'⟩, g2⟩
  · exact ⟨#[], rfl, rfl, fun i hi => by cases hi⟩
  · intro i hi
    have : i = 0 := by simp at hi; omega
    subst this
    show RepC _ G 0 [] 0 (.slice (some ⟨b, 0, none⟩) l.length cap) (.row E k (d'.toList.map encA))
    have hlen2 : (d'.toList.map encA).length = l.length := by simp [hds]
    rw [← hlen2]
    refine .row b cap _ (by rw [hlen2]; exact hh.symm.trans (by simp)) hb hw' (by simp [hds]; exact hc1) hc2 (by simp [putCells]; exact hc3) (fun i hi => ?_) (fun i j hi hj => ?_)
    · simp only [List.length_map] at hi
      rw [List.getD_eq_getElem?_getD, List.getElem?_map, List.getElem?_eq_getElem (by simpa using hi)]; exact H.lenA _
    · simp only [List.length_map, Array.length_toList, hds] at hi
      have e : ((d'.toList.map encA).getD i []).getD j .unk = (encA (d'.toList.getD i d0)).getD j .unk := by
        rw [enc_get encA d'.toList i d0 (by simpa [hds] using hi)]
      rw [e]
      refine .pure (H.pure _ _ hj) ?_
      have hfl := flatK_at H d'.toList d0 (i := i) (j := j) (by simpa [hds] using hi) hj
      have hb2 := bnd i j hi hj
      have hlt : i * k + j < d'.size * k := by
        rw [hds]
        have := Nat.mul_le_mul_right k (show i + 1 ≤ l.length from hi); rw [Nat.add_mul, Nat.one_mul] at this; omega
      have : (putCells id 0 (flatK enc k d') cur).getD (i * k + j) undef = (enc (d'.toList.getD i d0)).getD j undef := by
        rw [← hfl]
        simp only [putCells, Array.getD_eq_getD_getElem?, Array.getElem?_mapIdx, Array.getElem?_eq_getElem hb2, Option.map_some, Option.getD_some]
        rw [if_pos ⟨Nat.zero_le _, by rw [size_flatK]; omega⟩]
        simp
      rw [this]
      exact H.rep _ _ _ _ hj
end
end Go.Nv
/- By hand: contracts of the library's functions, by value. -/
namespace Go.Nv
open Go.RowKit Go.Shelf Go.Proofs
theorem flatMap_at (zs : List En) (i j : Nat) (hi : i < zs.length) (hj : j < 2) : (zs.flatMap cellsE).getD (i * 2 + j) undef = (cellsE (zs.getD i en0)).getD j undef := by
  induction zs generalizing i with
  | nil => cases hi
  | cons z zs ih =>
    cases i with
    | zero =>
      rw [List.flatMap_cons, Nat.zero_mul, Nat.zero_add, List.getD_eq_getElem?_getD, List.getElem?_append_left (by simp [cellsE]; omega)]; rfl
    | succ i =>
      have e : (i + 1) * 2 + j = (cellsE z).length + (i * 2 + j) := by simp [cellsE]; omega
      rw [List.flatMap_cons, e, List.getD_eq_getElem?_getD, List.getElem?_append_right (by omega), Nat.add_sub_cancel_left, ← List.getD_eq_getElem?_getD, ih i (by simp at hi; omega)]; rfl
theorem rep_cellE (w : World) (ok : Nat → Nat → Prop) (x : En) (j : Nat) (hj : j < 2) : RepR w ok ((cellsE x).getD j undef) ((encE x).getD j .unk) := by
  match j, hj with
  | 0, _ => exact .str _
  | 1, _ => exact .int _ _
theorem inv_cellE (w : World) (ok : Nat → Nat → Prop) (x : En) (j : Nat) (v : Value) (hj : j < 2) (h : RepR w ok v ((encE x).getD j .unk)) : v = (cellsE x).getD j undef := by
  match j, hj with
  | 0, _ => cases h; rfl
  | 1, _ => cases h; rfl
/-- What a captured variable that is read no more holds. -/
theorem holdsE_of {w : World} {G : Gh} (hok : ∀ b o, G.ok b o → b < w.heap.size) {v : Value} {l : List En} (h : RepR w G.ok v (.el [.sl (l.map encE)])) : ∃ b o, v = .pointer (some ⟨b, o, none⟩) ∧ HoldsE w.heap.size w b o l := by
  cases h with
  | el b o _ u hcell hpure hrep =>
    have h0 := hcell 0 (by simp)
    have r0 : RepR w G.ok (u 0) (.sl (l.map encE)) := hrep 0 (by simp)
    refine ⟨b, o, rfl, hok _ _ h0.1, u 0, h0.2, ?_⟩
    generalize hL : l.map encE = L at r0
    generalize u 0 = U at r0
    cases r0 with
    | sl0 a cap => exact .inl ⟨List.map_eq_nil_iff.1 hL, _, _, rfl⟩
    | sl b' o' cap c _ u' hcap hc hcl hp hr =>
      have hlen : L.length = l.length := by rw [← hL]; simp
      cases hl : l with
      | nil =>
        exact .inl ⟨rfl, some ⟨b', o', none⟩, cap, by rw [hlen, hl]; rfl⟩
      | cons x0 l0 =>
        have hpos : 0 < l.length := by rw [hl]; simp
        have c2 : c = 2 := by rw [← hc 0 (by omega), ← hL, enc_get encE l 0 en0 hpos]; rfl
        subst c2
        have hat : ∀ j k, j < l.length → k < 2 → w.cell? ⟨b', o' + j * 2 + k, none⟩ = some ((cellsE (l.getD j en0)).getD k undef) ∧ b' < w.heap.size := fun j k hj hk => by
          have h1 := hcl j k (by omega) hk
          have h2 := hr j k (by omega) hk
          rw [← hL, enc_get encE l j en0 hj] at h2
          rw [← inv_cellE _ _ _ _ _ hk h2]
          exact ⟨h1.2, hok _ _ h1.1⟩
        rw [← hl]
        refine .inr ⟨b', o', cap, by rw [hlen], (hat 0 0 hpos (by omega)).2, fun j hj => ?_⟩
        have e : l.getD j en0 = l[j]?.getD en0 := List.getD_eq_getElem?_getD ..
        rw [← e]
        exact ⟨(hat j 0 hj (by omega)).1, (hat j 1 hj (by omega)).1⟩
set_option maxRecDepth 100000 in
set_option maxHeartbeats 1000000 in
theorem collect118_in (F : Fence) (n : Nat) (h2 : F.fn 118) (h3 : F.fn 138) (h7 : F.fn 120) (hro : F.round = none) (hn : 4 ≤ n) (Bs Bo : Nat) (zs : List En) (hreach : zs.length ≤ 100000) (w : World) (hH : HoldsE w.heap.size w Bs Bo zs) :
    CallsIn F n Try.prog 118 #[.func (.func 120) #[] #[.pointer (some ⟨Bs, Bo, none⟩)]] w fun e W' => ∃ v, e = .returned v ∧ W'.ownsRow w.heap.size 47 2 v zs.length (zs.flatMap cellsE) ∧ Below w.heap.size w W' := by
  refine callsIn_of_wp Try.func118 rfl h2 ?_ hro
  simp only [Try.ntmps118, List.size_toArray, List.length_cons, List.length_nil, Nat.reduceAdd, Nat.reduceSub, Array.replicate_succ, Array.replicate_zero, List.push_toArray, List.append_toArray, List.nil_append, List.cons_append]
  have h1 : 1 ≤ n := by omega
  gi_wp2_with (gi_at_call 138; refine (append138_in F (n - 1) h3 h7 hro (by omega) Bs Bo zs hreach _ hH).mono ?_; rintro e w' ⟨v, rfl, hrow, hB⟩)
  go_ret
  exact ⟨_, rfl, hrow, hB⟩
/-- slices.Collect, of what slices.Values gives. -/
theorem spec118 (l : List En) (hl : l.length ≤ 100000) : @VSpec drL Try.prog 118 [.fn 120 [.el [.sl (l.map encE)]]] (.row 47 2 (l.map encE)) := by
  letI := drL
  intro w vs G hok hown hlen hrep
  obtain ⟨v1, rfl⟩ : ∃ v1, vs = [v1] := by
    match vs, hlen with
    | [a], _ => exact ⟨a, rfl⟩
  have r1 : RepR w G.ok v1 (.fn 120 [.el [.sl (l.map encE)]]) := hrep 0 (by simp)
  cases r1 with
  | fn f us _ hs hp hr =>
    obtain ⟨b, o, hv, hH⟩ := holdsE_of hok (hr 0 (by simp))
    have hus : us = #[.pointer (some ⟨b, o, none⟩)] := by
      obtain ⟨us⟩ := us
      match us, hs with
      | [x], _ => exact congrArg (fun z => #[z]) hv
    subst hus
    have h := callsIn_wide.1 (collect118_in Fence.wide 4 trivial trivial trivial rfl (Nat.le_refl _) b o l hl w hH)
    refine Calls.mono h ?_
    rintro e w' ⟨v, rfl, hrow, hB⟩
    have hfr : Frame w ⟨fun b => ∃ p, G.own b = some p, []⟩ w' := ⟨hB.os, hB.tape, hB.output, hB.size, fun k hk _ => hB.block k hk, fun d => False.elim d⟩
    obtain ⟨hxl, ⟨rfl, hn⟩ | ⟨g, cap, cur, rfl, hg, hw, h1, h2, h3, h4⟩⟩ := hrow
    · have : l = [] := List.length_eq_zero_iff.1 hn
      subst this
      refine ⟨_, { G with own := fun _ => none, h := fun _ _ _ => .slice none 0 0 }, rfl, hfr, fun b o h => Nat.lt_of_lt_of_le (hok b o h) hB.size, fun _ _ h => h, fun _ _ _ _ h => h, fun (x : Nat) (p : Place) (h : none = some p) => (by cases h), .row0 rfl, rfl⟩
    · refine ⟨_, { G with own := fun x => if x = g then some (1, [], some 0) else none, h := fun _ _ _ => .slice (some ⟨g, 0, none⟩) l.length cap }, rfl, hfr, fun b o h => Nat.lt_of_lt_of_le (hok b o h) hB.size, fun _ _ h => h, fun _ _ _ _ h => h, fun x p h => ?_, ?_, rfl⟩
      · dsimp only at h
        split at h
        · rename_i hx
          subst hx
          exact ⟨(Array.getElem?_eq_some_iff.1 hw).1, .inl hg, fun o ho => by have := hok _ _ ho; omega⟩
        · cases h
      · show RepC w' _ 1 [] 0 (.slice (some ⟨g, 0, none⟩) l.length cap) (.row 47 2 (l.map encE))
        have hlm : (l.map encE).length = l.length := by simp
        rw [← hlm]
        refine .row g cap cur (by rw [hlm]) (by simp) hw (by rw [hlm]; exact h1) h2 h3 (fun i hi => by rw [hlm] at hi; rw [enc_get encE l i en0 hi]; rfl) (fun i k hi hk => ?_)
        rw [hlm] at hi
        rw [enc_get encE l i en0 hi]
        have hp : ((encE (l.getD i en0)).getD k .unk).pure = true := by
          match k, hk with
          | 0, _ => rfl
          | 1, _ => rfl
        have hcur : cur.getD (i * 2 + k) undef = (cellsE (l.getD i en0)).getD k undef := by
          rw [← flatMap_at l i k hi hk, ← h4]
          have hlt : i * 2 + k < l.length * 2 := by omega
          simp only [Array.getD_eq_getD_getElem?, List.getD_eq_getElem?_getD, List.getElem?_take, if_pos hlt, Array.getElem?_toList]
        rw [hcur]
        exact .pure hp (rep_cellE _ _ _ _ hk)
/-! ### strings.Compare -/
theorem compareBytes_eq : ∀ a b : List UInt8, Lib.compareBytes a b = if a < b then -1 else if a = b then 0 else 1
  | [], [] => by simp [Lib.compareBytes]
  | [], y :: b => by simp [Lib.compareBytes]
  | x :: a, [] => by simp [Lib.compareBytes]
  | x :: a, y :: b => by
    have ih := compareBytes_eq a b
    simp only [Lib.compareBytes, List.cons_lt_cons_iff, List.cons.injEq]
    by_cases h1 : x < y
    · simp [h1]
    · by_cases h2 : y < x
      · have : x ≠ y := fun h => by subst h; exact h1 h2
        simp [h1, h2, this]
      · have : x = y := UInt8.le_antisymm (UInt8.not_lt.1 h2) (UInt8.not_lt.1 h1)
        subst this
        simp [ih]
set_option maxHeartbeats 1000000 in
set_option maxRecDepth 100000 in
theorem cmp141 (a b : ByteArray) (w : World) : Calls Try.prog 141 #[.string a, .string b] w fun e w' => e = .returned (.int .i64 (Lib.compareBytes a.data.toList b.data.toList)) ∧ w' = w := by
  go_enter Try.func141, Try.ntmps141
  go_wp2
  rw [run_callFunc_extern Try.func161 (by kernel_rfl) (by kernel_rfl) (by kernel_rfl) (e := Extern.BytealgCompare.compare) (by kernel_rfl), Lib.run_compareString]
  simp only [Result.andThen]
  rw [Oper.upon_value]
  go_wp2
  go_ret
  exact ⟨rfl, rfl⟩
theorem spec141 [Dr] (a b : ByteArray) : VSpec Try.prog 141 [.str a, .str b] (.int .i64 (if a.data.toList < b.data.toList then -1 else if a = b then 0 else 1)) := by
  intro w vs G hok hown hlen hrep
  obtain ⟨v0, v1, rfl⟩ : ∃ v0 v1, vs = [v0, v1] := by
    match vs, hlen with
    | [a, b], _ => exact ⟨a, b, rfl⟩
  have r0 : RepR w G.ok v0 (.str a) := hrep 0 (by simp)
  have r1 : RepR w G.ok v1 (.str b) := hrep 1 (by simp)
  cases r0
  cases r1
  refine Calls.mono (cmp141 a b w) ?_
  rintro e w' ⟨rfl, rfl⟩
  refine ⟨_, G, rfl, Frame.refl _ _, hok, fun _ _ h => h, fun _ _ _ _ h => h, fun x p h => ⟨(hown x p h).1, .inr ⟨p, h⟩, (hown x p h).2⟩, ?_, rfl⟩
  have : Lib.compareBytes a.data.toList b.data.toList = (if a.data.toList < b.data.toList then -1 else if a = b then 0 else 1) := by
    rw [compareBytes_eq]
    congr 1
    have : (a.data.toList = b.data.toList) = (a = b) := propext ⟨fun h => ByteArray.ext (Array.toList_inj.1 h), fun h => by rw [h]⟩
    simp only [this]
  rw [this]
  exact RepR.int _ _
end Go.Nv
/- Chapter 27: the library's functions, by contract: what is taken for granted is sound. -/
namespace Go.Nv
open Go.RowKit Go.Shelf Go.Sort Go.Proofs
/-- Comparing strings alone. -/
def S0 : RT := fun f ys => match f, ys with
  | 141, [.str a, .str b] => some (.int .i64 (cmpS a b))
  | _, _ => none
theorem cmp0 : Cmp27 S0 := fun a b => rfl
theorem call141 : callable Try.prog 141 = true := by kernel_rfl
theorem call118 : callable Try.prog 118 = true := by kernel_rfl
theorem call119 : callable Try.prog 119 = true := by kernel_rfl
theorem mixed : Try.prog.follows .mixedOrders = true := by kernel_rfl
theorem sound0 [Dr] : VSound Try.prog S0 := fun f ys r h => by
  unfold S0 at h
  split at h
  · cases h
    exact ⟨spec141 _ _, call141⟩
  · cases h
theorem spec90 (a b : En) : @VSpec drS Try.prog 90 [.agg (encE a), .agg (encE b)] (.int .i64 (cmpE a b)) :=
  (@run_sound T S0 drS Try.prog mixed T_ok (@sound0 drS) 90 _ _ (run90 cmp0 a b)).1
theorem cmpS_zero {a b : ByteArray} : cmpS a b = 0 ↔ (¬ a.data.toList < b.data.toList ∧ a = b) := by
  unfold cmpS
  split
  · simp_all
  · split <;> simp_all
theorem cmpE_neg (a b : En) : cmpE a b < 0 ↔ (a.k.data.toList < b.k.data.toList ∨ (a.k = b.k ∧ a.r < b.r)) := by
  simp only [cmpE, first]
  by_cases h1 : a.k.data.toList < b.k.data.toList
  · have : cmpS a.k b.k = -1 := by unfold cmpS; rw [if_pos h1]
    simp [this, h1]
  · by_cases h2 : a.k = b.k
    · have : cmpS a.k b.k = 0 := cmpS_zero.2 ⟨h1, h2⟩
      have hr : cmpI a.r b.r < 0 ↔ a.r < b.r := by
        unfold cmpI; split
        · simp_all
        · split <;> simp_all
      rw [this]
      have e : (b.k.data.toList < b.k.data.toList) = False := by simp [List.lt_irrefl]
      simp only [bne_self_eq_false, Bool.false_eq_true, if_false, h1, h2, e, false_or, true_and]
      by_cases h3 : cmpI a.r b.r = 0
      · simp [h3] at hr ⊢; omega
      · have h4 : (cmpI a.r b.r != 0) = true := by simpa using h3
        rw [if_pos h4]; exact hr
    · have : cmpS a.k b.k = 1 := by unfold cmpS; rw [if_neg h1, if_neg h2]
      simp [this, h1, h2]
theorem lt_less (a b : En) : ltOf cmpE a b = lessE a b := by
  rw [Bool.eq_iff_iff, less_iff]
  simp only [ltOf, decide_eq_true_eq]
  exact cmpE_neg a b
theorem not_less {a b : En} : lessE a b = false ↔ leE b a := by
  constructor
  · intro h; exact leE_of_not (by simp [h])
  · intro h
    rw [← Bool.not_eq_true]
    intro hl
    rcases less_iff.1 hl with h1 | ⟨h1, h2⟩ <;> rcases h with g1 | ⟨g1, g2⟩
    · exact bytes_asymm h1 g1
    · rw [g1] at h1; exact List.lt_irrefl _ h1
    · rw [h1] at g1; exact List.lt_irrefl _ g1
    · omega
theorem swoE : SWO (ltOf cmpE) where
  irrefl x := by rw [lt_less, not_less]; exact .inr ⟨rfl, Int.le_refl _⟩
  trans x y z h1 h2 := by
    rw [lt_less, less_iff] at *
    rcases h1 with h1 | ⟨h1, h1'⟩ <;> rcases h2 with h2 | ⟨h2, h2'⟩
    · exact .inl (List.lt_trans h1 h2)
    · exact .inl (by rw [← h2]; exact h1)
    · exact .inl (by rw [h1]; exact h2)
    · exact .inr ⟨h1.trans h2, Int.lt_trans h1' h2'⟩
  ntrans x y z h1 h2 := by
    rw [lt_less, not_less] at *
    exact leE_trans h2 h1
theorem leB_iff (a b : En) : leB a b = true ↔ leE a b := by
  refine ⟨leB_leE, fun h => ?_⟩
  simp only [leB, Bool.or_eq_true, Bool.and_eq_true, decide_eq_true_eq, beq_iff_eq]
  rcases h with h | ⟨h, h'⟩
  · exact .inl h
  · exact .inr ⟨by rw [h], h'⟩
theorem sortE_fun : (fun x y : En => !ltOf cmpE y x) = leB := by
  funext x y
  rw [Bool.eq_iff_iff, leB_iff, lt_less, Bool.not_eq_true', not_less]
theorem encOkE : EncOk cellsE encE 2 where
  len _ := rfl
  lenA _ := rfl
  one x v hv := by simp [cellsE] at hv; rcases hv with rfl | rfl <;> rfl
  pure x j hj := by
    match j, hj with
    | 0, _ => rfl
    | 1, _ => rfl
  rep w ok x j hj := rep_cellE w ok x j hj
  inv w ok x j v hj h := inv_cellE w ok x j v hj h
theorem encE_inj {l m : List En} (h : l.map encE = m.map encE) : l = m := List.map_inj_right (fun x y hxy => by
  cases x; cases y
  simp only [encE, List.cons.injEq, AV.str.injEq, AV.int.injEq] at hxy
  simp_all) |>.1 h
instance : Inhabited En := ⟨en0⟩
theorem spec119 (l : List En) (h0 : 0 < l.length) (hl : l.length ≤ 100000) : @VSpec drL Try.prog 119 [.row 47 2 (l.map encE), .fn 90 []] (.io (.tup []) [.row 47 2 ((sortE l).map encE)]) := by
  have := @sort_spec Try.prog sortRen En _ cellsE encE 2 drL sortLay Try.isAgg47 Try.sizeOf47 encOkE cmpE swoE (fun x y h1 h2 => by
    rw [lt_less, not_less] at h1 h2; exact leE_antisymm h2 h1) 90 47 (enters_of Try.func90 (by kernel_rfl) rfl) spec90 l h0 (by omega)
  rw [sortE_fun] at this
  exact this
open Classical in
/-- What is taken for granted. -/
noncomputable def S1 : RT := fun f ys => match f, ys with
  | 141, [.str a, .str b] => some (.int .i64 (cmpS a b))
  | 118, [.fn 120 [.el [.sl L]]] => if ∃ l : List En, L = l.map encE ∧ l.length ≤ 100000 then some (.row 47 2 L) else none
  | 119, [.row 47 2 L, .fn 90 []] => if h : ∃ l : List En, L = l.map encE ∧ 0 < l.length ∧ l.length ≤ 100000 then some (.io (.tup []) [.row 47 2 ((sortE h.choose).map encE)]) else none
  | _, _ => none
open Classical in
theorem s27 : S27 S1 where
  append l hl := by
    show (if _ then _ else _) = _
    exact if_pos ⟨l, rfl, hl⟩
  sort l h0 hl := by
    have hex : ∃ m : List En, l.map encE = m.map encE ∧ 0 < m.length ∧ m.length ≤ 100000 := ⟨l, rfl, h0, hl⟩
    have : hex.choose = l := (encE_inj hex.choose_spec.1).symm
    show (if h : _ then _ else _) = _
    rw [dif_pos hex, this]
  compare a b := rfl
theorem sound1 : @VSound drL Try.prog S1 := fun f ys r h => by
  unfold S1 at h
  split at h
  · cases h
    exact ⟨@spec141 drL _ _, call141⟩
  · split at h
    · rename_i hex
      obtain ⟨l, rfl, hl⟩ := hex
      cases h
      exact ⟨spec118 l hl, call118⟩
    · cases h
  · split at h
    · rename_i hex
      cases h
      obtain ⟨e, h1, h2⟩ := hex.choose_spec
      refine ⟨?_, call119⟩
      have := spec119 hex.choose h1 h2
      rw [← e] at this
      exact this
    · cases h
  · cases h
/-- Whatever the evaluator gives in this chapter is right. -/
theorem sound27 : @VSound drL Try.prog (run T S1) := @run_sound T S1 drL Try.prog mixed T_ok sound1
end Go.Nv
/- Chapter 27: what the laws' functions give. -/
namespace Go.Nv
open Go.Proofs
theorem fits_entries {A : AV} (h : Fits (.sl [.str, .int .i64]) A) : ∃ l : List En, A = .sl (l.map encE) ∧ l.length ≤ maxLen ∧ ∀ x ∈ l, True := by
  refine fits_list (f := encE) (p := fun _ => True) en0 (fun l hl hf => ?_) h
  match l, hl with
  | [a, b], _ =>
    obtain ⟨s, rfl, _⟩ := fits_str (hf 0 (by simp))
    obtain ⟨n, rfl⟩ := fits_i64 (hf 1 (by simp))
    exact ⟨⟨s, n⟩, rfl, trivial⟩
theorem walk3 (l : List En) (h : l.length ≤ maxLen ∧ ∀ x ∈ l, True) : @VSpec drL Try.prog 3 [.sl (l.map encE)] (.bool true) := (sound27 3 _ _ (run3 s27 l)).1
end Go.Nv
/- Chapter 27: what the law RadixChecks gives. -/
namespace Go.Nv
open Go.Proofs
theorem fits_ints {A : AV} (h : Fits (.sl [.int .i64]) A) : ∃ l : List Int, A = .sl (ints l) ∧ l.length ≤ maxLen ∧ ∀ x ∈ l, True := by
  refine fits_list (f := fun n : Int => [.int .i64 n]) (p := fun _ => True) 0 (fun l hl hf => ?_) h
  match l, hl with
  | [a], _ =>
    obtain ⟨n, rfl⟩ := fits_i64 (hf 0 (by simp))
    exact ⟨n, rfl, trivial⟩
theorem fits_nodes {A : AV} (h : Fits (.sl [.int .i64, .int .i64, .int .i64, .str, .sl [.int .i64]]) A) : ∃ l : List Nd, A = .sl (l.map encN) ∧ l.length ≤ maxLen ∧ ∀ x ∈ l, x.leaf = true := by
  refine fits_list (f := encN) (p := fun x => x.leaf = true) nd0 (fun l hl hf => ?_) h
  match l, hl with
  | [a, b, c, d, e], _ =>
    obtain ⟨n1, rfl⟩ := fits_i64 (hf 0 (by simp))
    obtain ⟨n2, rfl⟩ := fits_i64 (hf 1 (by simp))
    obtain ⟨n3, rfl⟩ := fits_i64 (hf 2 (by simp))
    obtain ⟨s, rfl, _⟩ := fits_str (hf 3 (by simp))
    obtain ⟨rs, rfl, _⟩ := fits_ints (hf 4 (by simp))
    exact ⟨⟨n1, n2, n3, s, rs, true⟩, rfl, rfl⟩
theorem walk4 (l : List Nd) (h : l.length ≤ maxLen ∧ ∀ x ∈ l, x.leaf = true) : @VSpec drL Try.prog 4 [.sl (l.map encN)] (.bool true) := (sound27 4 _ _ (run4 s27 l)).1
end Go.Nv
/- Chapter 27: what the law RadixRanges gives. -/
namespace Go.Nv
open Go.Proofs
theorem walk6 (l : List Nd) (h : l.length ≤ maxLen ∧ ∀ x ∈ l, x.leaf = true) (a : ByteArray) (ha : a.size ≤ maxLen) (b : ByteArray) (hb : b.size ≤ maxLen) : @VSpec drL Try.prog 6 [.sl (l.map encN), .str a, .str b] (.bool true) := (sound27 6 _ _ (run6 s27 l a b)).1
end Go.Nv
