/- What fits fits a greater most, and a longer document where it may; what it makes is as long as told (OpsFits). The one condition: the arguments hold together at most 2^20 data, as the statement's own bound says. -/
import Derived.ChangeSame
import Derived.Test.YtbadbkdpnbacnaaDoorCutM3

/- slices.SortFunc at keys: it ends, and turns its own row alone. No condition. Printed by mkWe.py. -/
namespace Go.Proofs.YtbadbkdpnbacnaaDoor.Fw
open Go
set_option linter.unusedSimpArgs false
set_option linter.unusedVariables false

/-- Behind a loop: the row is one of keys, and i is where it may be. -/
def PI (H : Heap) (id n : Nat) (x : Nat) (si : Nat) (l : Fr) (C : Int → Prop) (e : Exit) (f : Fr) (G : Heap) : Prop :=
  e = .exit x ∧ ∃ (i : Int) (ks : List KeyA), C i ∧ ks.length = n ∧ G = wr H id ks ∧ FrSub ((si, .int .i64 i) :: l) f

set_option maxRecDepth 20000 in
set_option maxHeartbeats 4000000 in
theorem partial_calls {H : Heap} (hw : WF H) {id n : Nat} (hid : id < H.next) (hn : n ≤ 64) {ks : List KeyA} (hks : ks.length = n) {a b : Int} (ha : 0 ≤ a) (hab : a < b) (hb : b ≤ n) :
    SCalls PP 80 [.slice id 0 n none, .int .i64 a, .int .i64 b, cmpF] (wr H id ks) fun r H' => ∃ t : Bool, r = .bool t ∧ Left H id n H' := by
  refine SCalls.go c80 (by simp [fn80]) fun hz => ?_
  clear hz
  simp (maxSteps := 1000000) (implicitDefEqProofs := false) (disch := omega) only [stp, if_true, if_false, Int.reduceEq, Int.reduceLT, Int.reduceLE, Int.reduceGT, Int.reduceGE, reduceCtorEq, Nat.reduceEqDiff, List.getElem?_cons_zero, List.getElem?_cons_succ, Option.map_some, wrap_i64, fn80, enterFr, List.length, List.range, List.range.loop, List.zip, List.zipWith]
  refine wp_loopI (fun m fr G => ∃ (c i : Int) (ks : List KeyA), m = (5 - c).toNat ∧ 0 ≤ c ∧ c ≤ 5 ∧ a + 1 ≤ i ∧ i ≤ b ∧ ks.length = n ∧ G = wr H id ks ∧ FrSub [(10, .int .i64 c), (9, .int .i64 i), (0, .slice id 0 n none), (1, .int .i64 a), (2, .int .i64 b), (3, cmpF)] fr) 5
    ⟨0, a + 1, ks, rfl, by omega, by omega, by omega, by omega, hks, rfl, (.cons rfl (.cons rfl (.cons rfl (.cons rfl (.cons rfl (.cons rfl .nil))))))⟩ ?_
  clear hks ks
  rintro m fr G ⟨c, i, ks, rfl, c0, c5, hi, hib, hks, rfl, hsub⟩
  refine ⟨_, hsub, ?_⟩
  by_cases hc5 : c < 5
  rotate_left
  · simp (maxSteps := 1000000) (implicitDefEqProofs := false) only [stp, if_true, if_false, Int.reduceEq, Int.reduceLT, Int.reduceLE, Int.reduceGT, Int.reduceGE, reduceCtorEq, Nat.reduceEqDiff, List.getElem?_cons_zero, List.getElem?_cons_succ, Option.map_some, hc5]
    exact ⟨_, rfl, Left.mk hw hks⟩
  simp (maxSteps := 1000000) (implicitDefEqProofs := false) only [stp, if_true, if_false, Int.reduceEq, Int.reduceLT, Int.reduceLE, Int.reduceGT, Int.reduceGE, reduceCtorEq, Nat.reduceEqDiff, List.getElem?_cons_zero, List.getElem?_cons_succ, Option.map_some, hc5]
  refine wpC_mono SCalls.scMono _ _ _ (PI H id n 2 9 [(10, .int .i64 c), (0, .slice id 0 n none), (1, .int .i64 a), (2, .int .i64 b), (3, cmpF)] (fun i => a + 1 ≤ i ∧ i ≤ b)) _ ?_ ?_
  · refine wp_loopI (fun m fr G => ∃ (i : Int) (ks : List KeyA), m = (b - i).toNat ∧ a + 1 ≤ i ∧ i ≤ b ∧ ks.length = n ∧ G = wr H id ks ∧ FrSub [(9, .int .i64 i), (10, .int .i64 c), (0, .slice id 0 n none), (1, .int .i64 a), (2, .int .i64 b), (3, cmpF)] fr) _
      ⟨_, _, rfl, hi, hib, hks, rfl, (.cons rfl (.cons rfl (.cons rfl (.cons rfl (.cons rfl (.cons rfl .nil))))))⟩ ?_
    clear hks
    rintro m fr G ⟨i, ks, rfl, hi, hib, hks, rfl, hsub⟩
    refine ⟨_, hsub, ?_⟩
    by_cases hlt : i < b
    rotate_left
    · simp (maxSteps := 1000000) (implicitDefEqProofs := false) only [stp, if_true, if_false, Int.reduceEq, Int.reduceLT, Int.reduceLE, Int.reduceGT, Int.reduceGE, reduceCtorEq, Nat.reduceEqDiff, List.getElem?_cons_zero, List.getElem?_cons_succ, Option.map_some, hlt]
      exact ⟨rfl, i, ks, ⟨hi, hib⟩, hks, rfl, (.cons rfl (.cons rfl (.cons rfl (.cons rfl (.cons rfl (.cons rfl .nil))))))⟩
    simp (maxSteps := 1000000) (implicitDefEqProofs := false) (disch := omega) only [stp, if_true, if_false, Int.reduceEq, Int.reduceLT, Int.reduceLE, Int.reduceGT, Int.reduceGE, reduceCtorEq, Nat.reduceEqDiff, List.getElem?_cons_zero, List.getElem?_cons_succ, Option.map_some, wrap_i64, hlt, w_ia, w_lda hid]
    refine cmp_ok _ _ _ _ fun d => ?_
    by_cases hd : d < 0
    · simp (maxSteps := 1000000) (implicitDefEqProofs := false) (disch := omega) only [stp, if_true, if_false, Int.reduceEq, Int.reduceLT, Int.reduceLE, Int.reduceGT, Int.reduceGE, reduceCtorEq, Nat.reduceEqDiff, List.getElem?_cons_zero, List.getElem?_cons_succ, Option.map_some, wrap_i64, hd]
      exact ⟨rfl, i, ks, ⟨hi, hib⟩, hks, rfl, (.cons rfl (.cons rfl (.cons rfl (.cons rfl (.cons rfl (.cons rfl .nil))))))⟩
    · simp (maxSteps := 1000000) (implicitDefEqProofs := false) (disch := omega) only [stp, if_true, if_false, Int.reduceEq, Int.reduceLT, Int.reduceLE, Int.reduceGT, Int.reduceGE, reduceCtorEq, Nat.reduceEqDiff, List.getElem?_cons_zero, List.getElem?_cons_succ, Option.map_some, wrap_i64, hd]
      exact ⟨(b - (i + 1)).toNat, by omega, i + 1, ks, rfl, by omega, by omega, hks, rfl, (.cons rfl (.cons rfl (.cons rfl (.cons rfl (.cons rfl (.cons rfl .nil))))))⟩
  clear hks hi hib
  rintro e f G ⟨rfl, i, ks, ⟨hi, hib⟩, hks, rfl, hf⟩
  have g9 := hf 9 _ rfl
  have g10 := hf 10 _ rfl
  have g0 := hf 0 _ rfl
  have g1 := hf 1 _ rfl
  have g2 := hf 2 _ rfl
  have g3 := hf 3 _ rfl
  by_cases hbe : i = b
  · simp (maxSteps := 1000000) (implicitDefEqProofs := false) only [stp, if_true, if_false, Int.reduceEq, Int.reduceLT, Int.reduceLE, Int.reduceGT, Int.reduceGE, reduceCtorEq, Nat.reduceEqDiff, List.getElem?_cons_zero, List.getElem?_cons_succ, Option.map_some, g9, g10, g0, g1, g2, g3, hbe]
    exact ⟨_, rfl, Left.mk hw hks⟩
  by_cases h50 : b - a < 50
  · simp (maxSteps := 1000000) (implicitDefEqProofs := false) (disch := omega) only [stp, if_true, if_false, Int.reduceEq, Int.reduceLT, Int.reduceLE, Int.reduceGT, Int.reduceGE, reduceCtorEq, Nat.reduceEqDiff, List.getElem?_cons_zero, List.getElem?_cons_succ, Option.map_some, wrap_i64, g9, g10, g0, g1, g2, g3, hbe, h50]
    exact ⟨_, rfl, Left.mk hw hks⟩
  by_cases h2 : i - a ≥ 2
  rotate_left
  · simp (maxSteps := 1000000) (implicitDefEqProofs := false) (disch := (try simp only [List.length_set]); omega) only [stp, if_true, if_false, Int.reduceEq, Int.reduceLT, Int.reduceLE, Int.reduceGT, Int.reduceGE, reduceCtorEq, Nat.reduceEqDiff, List.getElem?_cons_zero, List.getElem?_cons_succ, Option.map_some, wrap_i64, g9, g10, g0, g1, g2, g3, hbe, h50, w_ia, w_lda hid, w_st hid, h2]
    by_cases h2b : b - i ≥ 2
    rotate_left
    · simp (maxSteps := 1000000) (implicitDefEqProofs := false) (disch := omega) only [stp, if_true, if_false, Int.reduceEq, Int.reduceLT, Int.reduceLE, Int.reduceGT, Int.reduceGE, reduceCtorEq, Nat.reduceEqDiff, List.getElem?_cons_zero, List.getElem?_cons_succ, Option.map_some, wrap_i64, g9, g10, g0, g1, g2, g3, h2b]
      exact ⟨(5 - (c + 1)).toNat, by omega, c + 1, i, _, rfl, by omega, by omega, hi, hib, by simp [hks], rfl, (.cons rfl (.cons g9 (.cons g0 (.cons g1 (.cons g2 (.cons g3 .nil))))))⟩
    simp (maxSteps := 1000000) (implicitDefEqProofs := false) (disch := omega) only [stp, if_true, if_false, Int.reduceEq, Int.reduceLT, Int.reduceLE, Int.reduceGT, Int.reduceGE, reduceCtorEq, Nat.reduceEqDiff, List.getElem?_cons_zero, List.getElem?_cons_succ, Option.map_some, wrap_i64, g9, g10, g0, g1, g2, g3, h2b]
    refine wpC_mono SCalls.scMono _ _ _ (PI H id n 6 12 [(9, .int .i64 i), (10, .int .i64 c), (0, .slice id 0 n none), (1, .int .i64 a), (2, .int .i64 b), (3, cmpF)] (fun j => i + 1 ≤ j ∧ j ≤ b)) _ ?_ ?_
    · refine wp_loopI (fun m fr G => ∃ (j : Int) (ks : List KeyA), m = (b - j).toNat ∧ i + 1 ≤ j ∧ j ≤ b ∧ ks.length = n ∧ G = wr H id ks ∧ FrSub [(12, .int .i64 j), (9, .int .i64 i), (10, .int .i64 c), (0, .slice id 0 n none), (1, .int .i64 a), (2, .int .i64 b), (3, cmpF)] fr) _
        ⟨_, _, rfl, by omega, by omega, by simp [hks], rfl, (.cons rfl (.cons g9 (.cons g10 (.cons g0 (.cons g1 (.cons g2 (.cons g3 .nil)))))))⟩ ?_
      clear hks ks
      rintro m fr G ⟨j, ks, rfl, hj, hjb, hks, rfl, hsub⟩
      refine ⟨_, hsub, ?_⟩
      by_cases hlt : j < b
      rotate_left
      · simp (maxSteps := 1000000) (implicitDefEqProofs := false) only [stp, if_true, if_false, Int.reduceEq, Int.reduceLT, Int.reduceLE, Int.reduceGT, Int.reduceGE, reduceCtorEq, Nat.reduceEqDiff, List.getElem?_cons_zero, List.getElem?_cons_succ, Option.map_some, hlt]
        exact ⟨rfl, j, ks, ⟨hj, hjb⟩, hks, rfl, (.cons rfl (.cons rfl (.cons rfl (.cons rfl (.cons rfl (.cons rfl (.cons rfl .nil)))))))⟩
      simp (maxSteps := 1000000) (implicitDefEqProofs := false) (disch := omega) only [stp, if_true, if_false, Int.reduceEq, Int.reduceLT, Int.reduceLE, Int.reduceGT, Int.reduceGE, reduceCtorEq, Nat.reduceEqDiff, List.getElem?_cons_zero, List.getElem?_cons_succ, Option.map_some, wrap_i64, hlt, w_ia, w_lda hid]
      refine cmp_ok _ _ _ _ fun d => ?_
      by_cases hd : d < 0
      · simp (maxSteps := 1000000) (implicitDefEqProofs := false) (disch := (try simp only [List.length_set]); omega) only [stp, if_true, if_false, Int.reduceEq, Int.reduceLT, Int.reduceLE, Int.reduceGT, Int.reduceGE, reduceCtorEq, Nat.reduceEqDiff, List.getElem?_cons_zero, List.getElem?_cons_succ, Option.map_some, wrap_i64, hd, w_ia, w_lda hid, w_st hid]
        exact ⟨(b - (j + 1)).toNat, by omega, j + 1, _, rfl, by omega, by omega, by simp [hks], rfl, (.cons rfl (.cons rfl (.cons rfl (.cons rfl (.cons rfl (.cons rfl (.cons rfl .nil)))))))⟩
      · simp (maxSteps := 1000000) (implicitDefEqProofs := false) (disch := omega) only [stp, if_true, if_false, Int.reduceEq, Int.reduceLT, Int.reduceLE, Int.reduceGT, Int.reduceGE, reduceCtorEq, Nat.reduceEqDiff, List.getElem?_cons_zero, List.getElem?_cons_succ, Option.map_some, wrap_i64, hd]
        exact ⟨rfl, j, ks, ⟨hj, hjb⟩, hks, rfl, (.cons rfl (.cons rfl (.cons rfl (.cons rfl (.cons rfl (.cons rfl (.cons rfl .nil)))))))⟩
    clear hks
    rintro e f G ⟨rfl, j, ks, ⟨hj, hjb⟩, hks, rfl, hf⟩
    have k9 := hf 9 _ rfl
    have k10 := hf 10 _ rfl
    have k0 := hf 0 _ rfl
    have k1 := hf 1 _ rfl
    have k2 := hf 2 _ rfl
    have k3 := hf 3 _ rfl
    simp (maxSteps := 1000000) (implicitDefEqProofs := false) (disch := omega) only [stp, if_true, if_false, Int.reduceEq, Int.reduceLT, Int.reduceLE, Int.reduceGT, Int.reduceGE, reduceCtorEq, Nat.reduceEqDiff, List.getElem?_cons_zero, List.getElem?_cons_succ, Option.map_some, wrap_i64, k9, k10, k0, k1, k2, k3]
    exact ⟨(5 - (c + 1)).toNat, by omega, c + 1, i, _, rfl, by omega, by omega, hi, hib, hks, rfl, (.cons rfl (.cons k9 (.cons k0 (.cons k1 (.cons k2 (.cons k3 .nil))))))⟩
  simp (maxSteps := 1000000) (implicitDefEqProofs := false) (disch := (try simp only [List.length_set]); omega) only [stp, if_true, if_false, Int.reduceEq, Int.reduceLT, Int.reduceLE, Int.reduceGT, Int.reduceGE, reduceCtorEq, Nat.reduceEqDiff, List.getElem?_cons_zero, List.getElem?_cons_succ, Option.map_some, wrap_i64, g9, g10, g0, g1, g2, g3, hbe, h50, w_ia, w_lda hid, w_st hid, h2]
  refine wpC_mono SCalls.scMono _ _ _ (PI H id n 4 11 [(9, .int .i64 i), (10, .int .i64 c), (0, .slice id 0 n none), (1, .int .i64 a), (2, .int .i64 b), (3, cmpF)] (fun j => 0 ≤ j ∧ j < i)) _ ?_ ?_
  · refine wp_loopI (fun m fr G => ∃ (j : Int) (ks : List KeyA), m = j.toNat ∧ 0 ≤ j ∧ j < i ∧ ks.length = n ∧ G = wr H id ks ∧ FrSub [(11, .int .i64 j), (9, .int .i64 i), (10, .int .i64 c), (0, .slice id 0 n none), (1, .int .i64 a), (2, .int .i64 b), (3, cmpF)] fr) _
      ⟨_, _, rfl, by omega, by omega, by simp [hks], rfl, (.cons rfl (.cons g9 (.cons g10 (.cons g0 (.cons g1 (.cons g2 (.cons g3 .nil)))))))⟩ ?_
    clear hks ks
    rintro m fr G ⟨j, ks, rfl, hj, hjb, hks, rfl, hsub⟩
    refine ⟨_, hsub, ?_⟩
    by_cases hlt : j ≥ 1
    rotate_left
    · simp (maxSteps := 1000000) (implicitDefEqProofs := false) only [stp, if_true, if_false, Int.reduceEq, Int.reduceLT, Int.reduceLE, Int.reduceGT, Int.reduceGE, reduceCtorEq, Nat.reduceEqDiff, List.getElem?_cons_zero, List.getElem?_cons_succ, Option.map_some, hlt]
      exact ⟨rfl, j, ks, ⟨hj, hjb⟩, hks, rfl, (.cons rfl (.cons rfl (.cons rfl (.cons rfl (.cons rfl (.cons rfl (.cons rfl .nil)))))))⟩
    simp (maxSteps := 1000000) (implicitDefEqProofs := false) (disch := omega) only [stp, if_true, if_false, Int.reduceEq, Int.reduceLT, Int.reduceLE, Int.reduceGT, Int.reduceGE, reduceCtorEq, Nat.reduceEqDiff, List.getElem?_cons_zero, List.getElem?_cons_succ, Option.map_some, wrap_i64, hlt, w_ia, w_lda hid]
    refine cmp_ok _ _ _ _ fun d => ?_
    by_cases hd : d < 0
    · simp (maxSteps := 1000000) (implicitDefEqProofs := false) (disch := (try simp only [List.length_set]); omega) only [stp, if_true, if_false, Int.reduceEq, Int.reduceLT, Int.reduceLE, Int.reduceGT, Int.reduceGE, reduceCtorEq, Nat.reduceEqDiff, List.getElem?_cons_zero, List.getElem?_cons_succ, Option.map_some, wrap_i64, hd, w_ia, w_lda hid, w_st hid]
      exact ⟨(j - 1).toNat, by omega, j - 1, _, rfl, by omega, by omega, by simp [hks], rfl, (.cons rfl (.cons rfl (.cons rfl (.cons rfl (.cons rfl (.cons rfl (.cons rfl .nil)))))))⟩
    · simp (maxSteps := 1000000) (implicitDefEqProofs := false) (disch := omega) only [stp, if_true, if_false, Int.reduceEq, Int.reduceLT, Int.reduceLE, Int.reduceGT, Int.reduceGE, reduceCtorEq, Nat.reduceEqDiff, List.getElem?_cons_zero, List.getElem?_cons_succ, Option.map_some, wrap_i64, hd]
      exact ⟨rfl, j, ks, ⟨hj, hjb⟩, hks, rfl, (.cons rfl (.cons rfl (.cons rfl (.cons rfl (.cons rfl (.cons rfl (.cons rfl .nil)))))))⟩
  clear hks g9 g10 g0 g1 g2 g3 hf
  rintro e f G ⟨rfl, j, ks, ⟨hj, hjb⟩, hks, rfl, hf⟩
  have g9 := hf 9 _ rfl
  have g10 := hf 10 _ rfl
  have g0 := hf 0 _ rfl
  have g1 := hf 1 _ rfl
  have g2 := hf 2 _ rfl
  have g3 := hf 3 _ rfl
  by_cases h2b : b - i ≥ 2
  rotate_left
  · simp (maxSteps := 1000000) (implicitDefEqProofs := false) (disch := omega) only [stp, if_true, if_false, Int.reduceEq, Int.reduceLT, Int.reduceLE, Int.reduceGT, Int.reduceGE, reduceCtorEq, Nat.reduceEqDiff, List.getElem?_cons_zero, List.getElem?_cons_succ, Option.map_some, wrap_i64, g9, g10, g0, g1, g2, g3, h2b]
    exact ⟨(5 - (c + 1)).toNat, by omega, c + 1, i, _, rfl, by omega, by omega, hi, hib, by simp [hks], rfl, (.cons rfl (.cons g9 (.cons g0 (.cons g1 (.cons g2 (.cons g3 .nil))))))⟩
  simp (maxSteps := 1000000) (implicitDefEqProofs := false) (disch := omega) only [stp, if_true, if_false, Int.reduceEq, Int.reduceLT, Int.reduceLE, Int.reduceGT, Int.reduceGE, reduceCtorEq, Nat.reduceEqDiff, List.getElem?_cons_zero, List.getElem?_cons_succ, Option.map_some, wrap_i64, g9, g10, g0, g1, g2, g3, h2b]
  refine wpC_mono SCalls.scMono _ _ _ (PI H id n 6 12 [(9, .int .i64 i), (10, .int .i64 c), (0, .slice id 0 n none), (1, .int .i64 a), (2, .int .i64 b), (3, cmpF)] (fun j => i + 1 ≤ j ∧ j ≤ b)) _ ?_ ?_
  · refine wp_loopI (fun m fr G => ∃ (j : Int) (ks : List KeyA), m = (b - j).toNat ∧ i + 1 ≤ j ∧ j ≤ b ∧ ks.length = n ∧ G = wr H id ks ∧ FrSub [(12, .int .i64 j), (9, .int .i64 i), (10, .int .i64 c), (0, .slice id 0 n none), (1, .int .i64 a), (2, .int .i64 b), (3, cmpF)] fr) _
      ⟨_, _, rfl, by omega, by omega, by simp [hks], rfl, (.cons rfl (.cons g9 (.cons g10 (.cons g0 (.cons g1 (.cons g2 (.cons g3 .nil)))))))⟩ ?_
    clear hks ks
    rintro m fr G ⟨j, ks, rfl, hj, hjb, hks, rfl, hsub⟩
    refine ⟨_, hsub, ?_⟩
    by_cases hlt : j < b
    rotate_left
    · simp (maxSteps := 1000000) (implicitDefEqProofs := false) only [stp, if_true, if_false, Int.reduceEq, Int.reduceLT, Int.reduceLE, Int.reduceGT, Int.reduceGE, reduceCtorEq, Nat.reduceEqDiff, List.getElem?_cons_zero, List.getElem?_cons_succ, Option.map_some, hlt]
      exact ⟨rfl, j, ks, ⟨hj, hjb⟩, hks, rfl, (.cons rfl (.cons rfl (.cons rfl (.cons rfl (.cons rfl (.cons rfl (.cons rfl .nil)))))))⟩
    simp (maxSteps := 1000000) (implicitDefEqProofs := false) (disch := omega) only [stp, if_true, if_false, Int.reduceEq, Int.reduceLT, Int.reduceLE, Int.reduceGT, Int.reduceGE, reduceCtorEq, Nat.reduceEqDiff, List.getElem?_cons_zero, List.getElem?_cons_succ, Option.map_some, wrap_i64, hlt, w_ia, w_lda hid]
    refine cmp_ok _ _ _ _ fun d => ?_
    by_cases hd : d < 0
    · simp (maxSteps := 1000000) (implicitDefEqProofs := false) (disch := (try simp only [List.length_set]); omega) only [stp, if_true, if_false, Int.reduceEq, Int.reduceLT, Int.reduceLE, Int.reduceGT, Int.reduceGE, reduceCtorEq, Nat.reduceEqDiff, List.getElem?_cons_zero, List.getElem?_cons_succ, Option.map_some, wrap_i64, hd, w_ia, w_lda hid, w_st hid]
      exact ⟨(b - (j + 1)).toNat, by omega, j + 1, _, rfl, by omega, by omega, by simp [hks], rfl, (.cons rfl (.cons rfl (.cons rfl (.cons rfl (.cons rfl (.cons rfl (.cons rfl .nil)))))))⟩
    · simp (maxSteps := 1000000) (implicitDefEqProofs := false) (disch := omega) only [stp, if_true, if_false, Int.reduceEq, Int.reduceLT, Int.reduceLE, Int.reduceGT, Int.reduceGE, reduceCtorEq, Nat.reduceEqDiff, List.getElem?_cons_zero, List.getElem?_cons_succ, Option.map_some, wrap_i64, hd]
      exact ⟨rfl, j, ks, ⟨hj, hjb⟩, hks, rfl, (.cons rfl (.cons rfl (.cons rfl (.cons rfl (.cons rfl (.cons rfl (.cons rfl .nil)))))))⟩
  clear hks
  rintro e f G ⟨rfl, j, ks, ⟨hj, hjb⟩, hks, rfl, hf⟩
  have k9 := hf 9 _ rfl
  have k10 := hf 10 _ rfl
  have k0 := hf 0 _ rfl
  have k1 := hf 1 _ rfl
  have k2 := hf 2 _ rfl
  have k3 := hf 3 _ rfl
  simp (maxSteps := 1000000) (implicitDefEqProofs := false) (disch := omega) only [stp, if_true, if_false, Int.reduceEq, Int.reduceLT, Int.reduceLE, Int.reduceGT, Int.reduceGE, reduceCtorEq, Nat.reduceEqDiff, List.getElem?_cons_zero, List.getElem?_cons_succ, Option.map_some, wrap_i64, k9, k10, k0, k1, k2, k3]
  exact ⟨(5 - (c + 1)).toNat, by omega, c + 1, i, _, rfl, by omega, by omega, hi, hib, hks, rfl, (.cons rfl (.cons k9 (.cons k0 (.cons k1 (.cons k2 (.cons k3 .nil))))))⟩
def pdqF : ACode :=
 (.seq
               (.region [⟨some 106, none, .ex (.mov) [.s 0]⟩,
                 ⟨some 107, none, .ex (.mov) [.s 1]⟩,
                 ⟨some 108, none, .ex (.mov) [.s 2]⟩,
                 ⟨some 109, none, .ex (.mov) [.s 13]⟩,
                 ⟨some 110, none, .ex (.mov) [.s 4]⟩,
                 ⟨some 111, none, .callf 82 [.s 106, .s 107, .s 108, .s 109, .s 110]⟩,
                 ⟨some 105, none, .ex (.mov) [.s 111]⟩,
                 ⟨some 112, none, .ex (.ext 0) [.s 105]⟩,
                 ⟨some 113, none, .ex (.ext 1) [.s 105]⟩,
                 ⟨some 16, none, .ex (.mov) [.s 112]⟩,
                 ⟨some 17, none, .ex (.mov) [.s 113]⟩])
               (.seq
                (.region [⟨some 114, none, .ex (.mov) [.s 17]⟩,
                  ⟨some 11, none, .ex (.mov) [.s 114]⟩])
                (.seq
                 (.region [⟨some 115, none, .ex (.mov) [.s 16]⟩,
                   ⟨some 116, none, .ex (.mov) [.s 1]⟩,
                   ⟨some 117, none, .ex (.ibin .sub) [.s 115, .s 116]⟩,
                   ⟨some 118, none, .ex (.mov) [.s 2]⟩,
                   ⟨some 119, none, .ex (.mov) [.s 16]⟩,
                   ⟨some 120, none, .ex (.ibin .sub) [.s 118, .s 119]⟩,
                   ⟨some 18, none, .ex (.mov) [.s 117]⟩,
                   ⟨some 19, none, .ex (.mov) [.s 120]⟩])
                 (.seq
                  (.region [⟨some 121, none, .ex (.mov) [.s 12]⟩,
                    ⟨some 122, none, .ex (.ibin .quo) [.s 121, .k (.int .i64 8)]⟩,
                    ⟨some 20, none, .ex (.mov) [.s 122]⟩])
                  (.seq
                   (.region [⟨some 123, none, .ex (.mov) [.s 18]⟩,
                     ⟨some 124, none, .ex (.mov) [.s 19]⟩,
                     ⟨some 125, none, .ex (.ibin .lss) [.s 123, .s 124]⟩])
                   (.cond (.s 125)
                    (.seq
                     (.region [⟨some 126, none, .ex (.mov) [.s 18]⟩,
                       ⟨some 127, none, .ex (.mov) [.s 20]⟩,
                       ⟨some 128, none, .ex (.ibin .geq) [.s 126, .s 127]⟩,
                       ⟨some 10, none, .ex (.mov) [.s 128]⟩])
                     (.seq
                      (.region [⟨some 129, none, .ex (.mov) [.s 0]⟩,
                        ⟨some 130, none, .ex (.mov) [.s 1]⟩,
                        ⟨some 131, none, .ex (.mov) [.s 16]⟩,
                        ⟨some 132, none, .ex (.mov) [.s 3]⟩,
                        ⟨some 133, none, .ex (.mov) [.s 4]⟩,
                        ⟨some 134, none, .callf 54 [.s 129, .s 130, .s 131, .s 132, .s 133]⟩])
                      (.region [⟨some 135, none, .ex (.mov) [.s 16]⟩,
                        ⟨some 136, none, .ex (.ibin .add) [.s 135, .k (.int .i64 1)]⟩,
                        ⟨some 1, none, .ex (.mov) [.s 136]⟩])))
                    (.seq
                     (.region [⟨some 137, none, .ex (.mov) [.s 19]⟩,
                       ⟨some 138, none, .ex (.mov) [.s 20]⟩,
                       ⟨some 139, none, .ex (.ibin .geq) [.s 137, .s 138]⟩,
                       ⟨some 10, none, .ex (.mov) [.s 139]⟩])
                     (.seq
                      (.region [⟨some 140, none, .ex (.mov) [.s 0]⟩,
                        ⟨some 141, none, .ex (.mov) [.s 16]⟩,
                        ⟨some 142, none, .ex (.ibin .add) [.s 141, .k (.int .i64 1)]⟩,
                        ⟨some 143, none, .ex (.mov) [.s 2]⟩,
                        ⟨some 144, none, .ex (.mov) [.s 3]⟩,
                        ⟨some 145, none, .ex (.mov) [.s 4]⟩,
                        ⟨some 146, none, .callf 54 [.s 140, .s 142, .s 143, .s 144, .s 145]⟩])
                      (.region [⟨some 147, none, .ex (.mov) [.s 16]⟩,
                        ⟨some 2, none, .ex (.mov) [.s 147]⟩])))))))))

def pdqE : ACode :=
 (.seq
              (.seq
               (.draw (.op ⟨some 81, none, .ex (.mov) [.s 1]⟩ (.op ⟨some 82, none, .ex (.ibin .gtr) [.s 81, .k (.int .i64 0)]⟩ (.op ⟨some 83, none, .ex (.mov) [.s 82]⟩ (.op ⟨some 84, some (83, true), .ex (.mov) [.s 4]⟩ (.op ⟨some 85, some (83, true), .ex (.mov) [.s 0]⟩ (.op ⟨some 86, some (83, true), .ex (.mov) [.s 1]⟩ (.op ⟨some 87, some (83, true), .ex (.ibin .sub) [.s 86, .k (.int .i64 1)]⟩ (.op ⟨some 88, some (83, true), .ex (.ia 6) [.s 85, .s 87]⟩ (.op ⟨some 89, some (83, true), .ex (.lda 6) [.s 88]⟩ (.op ⟨some 90, some (83, true), .ex (.mov) [.s 0]⟩ (.op ⟨some 91, some (83, true), .ex (.mov) [.s 13]⟩ (.op ⟨some 92, some (83, true), .ex (.ia 6) [.s 90, .s 91]⟩ (.op ⟨some 93, some (83, true), .ex (.lda 6) [.s 92]⟩ (.op ⟨some 94, some (83, true), .callv (.s 84) [.s 89, .s 93]⟩ (.op ⟨some 95, some (83, true), .ex (.ibin .lss) [.s 94, .k (.int .i64 0)]⟩ (.op ⟨some 96, some (83, true), .ex (.bnot) [.s 95]⟩ (.op ⟨some 97, none, .ex (.pick) [.s 83, .s 96, .k (.bool false)]⟩ .done))))))))))))))))))
               (.cond (.s 97)
                (.seq
                 (.region [⟨some 98, none, .ex (.mov) [.s 0]⟩,
                   ⟨some 99, none, .ex (.mov) [.s 1]⟩,
                   ⟨some 100, none, .ex (.mov) [.s 2]⟩,
                   ⟨some 101, none, .ex (.mov) [.s 13]⟩,
                   ⟨some 102, none, .ex (.mov) [.s 4]⟩,
                   ⟨some 103, none, .callf 81 [.s 98, .s 99, .s 100, .s 101, .s 102]⟩,
                   ⟨some 15, none, .ex (.mov) [.s 103]⟩])
                 (.seq
                  (.region [⟨some 104, none, .ex (.mov) [.s 15]⟩,
                    ⟨some 1, none, .ex (.mov) [.s 104]⟩])
                  (.exit 1)))
                .skip))
              pdqF)

def pdqD : ACode :=
 (.seq
             (.seq
              (.region [⟨some 68, none, .ex (.mov) [.s 10]⟩,
                ⟨some 69, none, .ex (.mov) [.s 68]⟩,
                ⟨some 70, some (69, true), .ex (.mov) [.s 11]⟩,
                ⟨some 71, none, .ex (.pick) [.s 69, .s 70, .k (.bool false)]⟩,
                ⟨some 72, none, .ex (.mov) [.s 71]⟩,
                ⟨some 73, some (72, true), .ex (.mov) [.s 14]⟩,
                ⟨some 74, some (72, true), .ex (.ibin .eql) [.s 73, .k (.int .i64 1)]⟩,
                ⟨some 75, none, .ex (.pick) [.s 72, .s 74, .k (.bool false)]⟩])
              (.cond (.s 75)
               (.seq
                (.region [⟨some 76, none, .ex (.mov) [.s 0]⟩,
                  ⟨some 77, none, .ex (.mov) [.s 1]⟩,
                  ⟨some 78, none, .ex (.mov) [.s 2]⟩,
                  ⟨some 79, none, .ex (.mov) [.s 4]⟩,
                  ⟨some 80, none, .callf 80 [.s 76, .s 77, .s 78, .s 79]⟩])
                (.cond (.s 80)
                 .ret
                 .skip))
               .skip))
             pdqE)

def pdqC : ACode :=
 (.seq
            (.seq
             (.region [⟨some 55, none, .ex (.mov) [.s 14]⟩,
               ⟨some 56, none, .ex (.ibin .eql) [.s 55, .k (.int .i64 2)]⟩])
             (.cond (.s 56)
              (.seq
               (.region [⟨some 57, none, .ex (.mov) [.s 0]⟩,
                 ⟨some 58, none, .ex (.mov) [.s 1]⟩,
                 ⟨some 59, none, .ex (.mov) [.s 2]⟩,
                 ⟨some 60, none, .ex (.mov) [.s 4]⟩,
                 ⟨some 61, none, .callf 79 [.s 57, .s 58, .s 59, .s 60]⟩])
               (.seq
                (.region [⟨some 62, none, .ex (.mov) [.s 2]⟩,
                  ⟨some 63, none, .ex (.ibin .sub) [.s 62, .k (.int .i64 1)]⟩,
                  ⟨some 64, none, .ex (.mov) [.s 13]⟩,
                  ⟨some 65, none, .ex (.mov) [.s 1]⟩,
                  ⟨some 66, none, .ex (.ibin .sub) [.s 64, .s 65]⟩,
                  ⟨some 67, none, .ex (.ibin .sub) [.s 63, .s 66]⟩,
                  ⟨some 13, none, .ex (.mov) [.s 67]⟩])
                (.region [⟨some 14, none, .ex (.mov) [.k (.int .i64 1)]⟩])))
              .skip))
            pdqD)

def fn54' : AFn := ⟨148,
 (.seq
  (.region [⟨some 10, none, .ex (.mov) [.k (.bool true)]⟩])
  (.seq
   (.region [⟨some 11, none, .ex (.mov) [.k (.bool true)]⟩])
   (.block 0
    (.loop
     (.block 1
      (.seq
       (.region [⟨some 21, none, .ex (.mov) [.s 2]⟩,
         ⟨some 22, none, .ex (.mov) [.s 1]⟩,
         ⟨some 23, none, .ex (.ibin .sub) [.s 21, .s 22]⟩,
         ⟨some 12, none, .ex (.mov) [.s 23]⟩])
       (.seq
        (.seq
         (.region [⟨some 24, none, .ex (.mov) [.s 12]⟩,
           ⟨some 25, none, .ex (.ibin .leq) [.s 24, .k (.int .i64 12)]⟩])
         (.cond (.s 25)
          (.seq
           (.region [⟨some 26, none, .ex (.mov) [.s 0]⟩,
             ⟨some 27, none, .ex (.mov) [.s 1]⟩,
             ⟨some 28, none, .ex (.mov) [.s 2]⟩,
             ⟨some 29, none, .ex (.mov) [.s 4]⟩,
             ⟨some 30, none, .callf 75 [.s 26, .s 27, .s 28, .s 29]⟩])
           .ret)
          .skip))
        (.seq
         (.seq
          (.region [⟨some 31, none, .ex (.mov) [.s 3]⟩,
            ⟨some 32, none, .ex (.ibin .eql) [.s 31, .k (.int .i64 0)]⟩])
          (.cond (.s 32)
           (.seq
            (.region [⟨some 33, none, .ex (.mov) [.s 0]⟩,
              ⟨some 34, none, .ex (.mov) [.s 1]⟩,
              ⟨some 35, none, .ex (.mov) [.s 2]⟩,
              ⟨some 36, none, .ex (.mov) [.s 4]⟩,
              ⟨some 37, none, .callf 76 [.s 33, .s 34, .s 35, .s 36]⟩])
            .ret)
           .skip))
         (.seq
          (.seq
           (.region [⟨some 38, none, .ex (.mov) [.s 10]⟩,
             ⟨some 39, none, .ex (.bnot) [.s 38]⟩])
           (.cond (.s 39)
            (.seq
             (.region [⟨some 40, none, .ex (.mov) [.s 0]⟩,
               ⟨some 41, none, .ex (.mov) [.s 1]⟩,
               ⟨some 42, none, .ex (.mov) [.s 2]⟩,
               ⟨some 43, none, .ex (.mov) [.s 4]⟩,
               ⟨some 44, none, .callf 77 [.s 40, .s 41, .s 42, .s 43]⟩])
             (.region [⟨some 45, none, .ex (.mov) [.s 3]⟩,
               ⟨some 46, none, .ex (.ibin .sub) [.s 45, .k (.int .i64 1)]⟩,
               ⟨some 3, none, .ex (.mov) [.s 46]⟩]))
            .skip))
          (.seq
           (.region [⟨some 48, none, .ex (.mov) [.s 0]⟩,
             ⟨some 49, none, .ex (.mov) [.s 1]⟩,
             ⟨some 50, none, .ex (.mov) [.s 2]⟩,
             ⟨some 51, none, .ex (.mov) [.s 4]⟩,
             ⟨some 52, none, .callf 78 [.s 48, .s 49, .s 50, .s 51]⟩,
             ⟨some 47, none, .ex (.mov) [.s 52]⟩,
             ⟨some 53, none, .ex (.ext 0) [.s 47]⟩,
             ⟨some 54, none, .ex (.ext 1) [.s 47]⟩,
             ⟨some 13, none, .ex (.mov) [.s 53]⟩,
             ⟨some 14, none, .ex (.mov) [.s 54]⟩])
           pdqC)))))))))),
 []⟩
theorem c54' : compFn Go.Proofs.Tryd.prog 54 = some fn54' := c54


/-- What a round of the sort may end with. -/
def PdqEnd (H : Heap) (id n : Nat) (x y : Int) (Q : Exit → Fr → Heap → Prop) : Prop :=
  (∀ f G, Left H id n G → Q .ret f G) ∧ ∀ (e : Exit) f G (x' y' z' : Int) (p' q' : Bool), (e = .normal ∨ e = .exit 1) → x ≤ x' → x' ≤ y' → y' ≤ y → y' - x' < y - x → Left H id n G → FrSub [(10, .bool p'), (11, .bool q'), (0, .slice id 0 n none), (1, .int .i64 x'), (2, .int .i64 y'), (3, .int .i64 z'), (4, cmpF)] f → Q e f G

set_option maxRecDepth 20000 in
set_option maxHeartbeats 4000000 in
theorem pdqF_ok {H : Heap} {id n : Nat} (hid : id < H.next) (hn : n ≤ 64) {x y : Int} (hx : 0 ≤ x) (hy : y ≤ n) {Q : Exit → Fr → Heap → Prop}
    (hrec : ∀ (H : Heap) (ks : List KeyA) (a b l : Int), WF H → id < H.next → ks.length = n → 0 ≤ a → a ≤ b → b ≤ n → b - a < y - x → SCalls PP 54 [.slice id 0 n none, .int .i64 a, .int .i64 b, .int .i64 l, cmpF] (wr H id ks) fun _ H' => Left H id n H')
    (hQ : PdqEnd H id n x y Q) {G : Heap} (hL : Left H id n G) {f : Fr} {z pv : Int} {p q : Bool} (hpv : x ≤ pv ∧ pv < y) (hf : FrSub [(11, .bool q), (10, .bool p), (12, .int .i64 (y - x)), (13, .int .i64 pv), (0, .slice id 0 n none), (1, .int .i64 x), (2, .int .i64 y), (3, .int .i64 z), (4, cmpF)] f) : wpC (SCalls PP) pdqF f G Q := by
  have g12 := hf 12 _ rfl
  have g13 := hf 13 _ rfl
  have g0 := hf 0 _ rfl
  have g1 := hf 1 _ rfl
  have g2 := hf 2 _ rfl
  have g3 := hf 3 _ rfl
  have g4 := hf 4 _ rfl
  obtain ⟨H2, ks, hx2, hw2, hks, rfl⟩ := hL.out
  have hid2 := Left.hid hid hx2
  simp (maxSteps := 1000000) (implicitDefEqProofs := false) only [stp, if_true, if_false, Int.reduceEq, Int.reduceLT, Int.reduceLE, Int.reduceGT, Int.reduceGE, reduceCtorEq, Nat.reduceEqDiff, List.getElem?_cons_zero, List.getElem?_cons_succ, Option.map_some, pdqF, g12, g13, g0, g1, g2, g3, g4]
  refine SCalls.mono (partition_calls hw2 hid2 hn hks (a := x) (b := y) (by omega) (by omega) (by omega) hpv) ?_
  rintro r G ⟨m, t, rfl, hm, hL2⟩
  obtain ⟨H3, ks3, hx3, hw3, hks3, rfl⟩ := (hL2.of hx2).out
  have hid3 := Left.hid hid hx3
  by_cases hlr : m - x < y - m
  · simp (maxSteps := 1000000) (implicitDefEqProofs := false) (disch := omega) only [stp, if_true, if_false, Int.reduceEq, Int.reduceLT, Int.reduceLE, Int.reduceGT, Int.reduceGE, reduceCtorEq, Nat.reduceEqDiff, List.getElem?_cons_zero, List.getElem?_cons_succ, Option.map_some, wrap_i64, g12, g13, g0, g1, g2, g3, g4, x_quo, hlr]
    refine SCalls.mono (hrec H3 ks3 x m z hw3 hid3 hks3 (by omega) (by omega) (by omega) (by omega)) ?_
    rintro r G hL4
    simp (maxSteps := 1000000) (implicitDefEqProofs := false) (disch := omega) only [stp, if_true, if_false, Int.reduceEq, Int.reduceLT, Int.reduceLE, Int.reduceGT, Int.reduceGE, reduceCtorEq, Nat.reduceEqDiff, List.getElem?_cons_zero, List.getElem?_cons_succ, Option.map_some, wrap_i64, g12, g13, g0, g1, g2, g3, g4]
    exact hQ.2 _ _ _ (m + 1) y z _ _ (.inl rfl) (by omega) (by omega) (by omega) (by omega) (hL4.of hx3) (.cons rfl (.cons rfl (.cons g0 (.cons rfl (.cons g2 (.cons g3 (.cons g4 .nil)))))))
  · simp (maxSteps := 1000000) (implicitDefEqProofs := false) (disch := omega) only [stp, if_true, if_false, Int.reduceEq, Int.reduceLT, Int.reduceLE, Int.reduceGT, Int.reduceGE, reduceCtorEq, Nat.reduceEqDiff, List.getElem?_cons_zero, List.getElem?_cons_succ, Option.map_some, wrap_i64, g12, g13, g0, g1, g2, g3, g4, x_quo, hlr]
    refine SCalls.mono (hrec H3 ks3 (m + 1) y z hw3 hid3 hks3 (by omega) (by omega) (by omega) (by omega)) ?_
    rintro r G hL4
    simp (maxSteps := 1000000) (implicitDefEqProofs := false) (disch := omega) only [stp, if_true, if_false, Int.reduceEq, Int.reduceLT, Int.reduceLE, Int.reduceGT, Int.reduceGE, reduceCtorEq, Nat.reduceEqDiff, List.getElem?_cons_zero, List.getElem?_cons_succ, Option.map_some, wrap_i64, g12, g13, g0, g1, g2, g3, g4]
    exact hQ.2 _ _ _ x m z _ _ (.inl rfl) (by omega) (by omega) (by omega) (by omega) (hL4.of hx3) (.cons rfl (.cons rfl (.cons g0 (.cons g1 (.cons rfl (.cons g3 (.cons g4 .nil)))))))

set_option maxRecDepth 20000 in
set_option maxHeartbeats 4000000 in
theorem pdqE_ok {H : Heap} {id n : Nat} (hid : id < H.next) (hn : n ≤ 64) {x y : Int} (hx : 0 ≤ x) (hy : y ≤ n) {Q : Exit → Fr → Heap → Prop}
    (hrec : ∀ (H : Heap) (ks : List KeyA) (a b l : Int), WF H → id < H.next → ks.length = n → 0 ≤ a → a ≤ b → b ≤ n → b - a < y - x → SCalls PP 54 [.slice id 0 n none, .int .i64 a, .int .i64 b, .int .i64 l, cmpF] (wr H id ks) fun _ H' => Left H id n H')
    (hQ : PdqEnd H id n x y Q) {G : Heap} (hL : Left H id n G) {f : Fr} {z pv : Int} {p q : Bool} (hpv : x ≤ pv ∧ pv < y) (hf : FrSub [(11, .bool q), (10, .bool p), (12, .int .i64 (y - x)), (13, .int .i64 pv), (0, .slice id 0 n none), (1, .int .i64 x), (2, .int .i64 y), (3, .int .i64 z), (4, cmpF)] f) : wpC (SCalls PP) pdqE f G Q := by
  have g11 := hf 11 _ rfl
  have g10 := hf 10 _ rfl
  have g12 := hf 12 _ rfl
  have g13 := hf 13 _ rfl
  have g0 := hf 0 _ rfl
  have g1 := hf 1 _ rfl
  have g2 := hf 2 _ rfl
  have g3 := hf 3 _ rfl
  have g4 := hf 4 _ rfl
  obtain ⟨H2, ks, hx2, hw2, hks, rfl⟩ := hL.out
  have hid2 := Left.hid hid hx2
  by_cases h0 : x > 0
  rotate_left
  · simp (maxSteps := 1000000) (implicitDefEqProofs := false) only [stp, if_true, if_false, Int.reduceEq, Int.reduceLT, Int.reduceLE, Int.reduceGT, Int.reduceGE, reduceCtorEq, Nat.reduceEqDiff, List.getElem?_cons_zero, List.getElem?_cons_succ, Option.map_some, pdqE, g12, g13, g0, g1, g2, g3, g4, h0]
    exact pdqF_ok hid hn hx hy hrec hQ hL hpv (.cons g11 (.cons g10 (.cons g12 (.cons g13 (.cons g0 (.cons g1 (.cons g2 (.cons g3 (.cons g4 .nil)))))))))
  simp (maxSteps := 1000000) (implicitDefEqProofs := false) (disch := omega) only [stp, if_true, if_false, Int.reduceEq, Int.reduceLT, Int.reduceLE, Int.reduceGT, Int.reduceGE, reduceCtorEq, Nat.reduceEqDiff, List.getElem?_cons_zero, List.getElem?_cons_succ, Option.map_some, wrap_i64, pdqE, g12, g13, g0, g1, g2, g3, g4, h0, w_ia, w_lda hid2]
  refine cmp_ok _ _ _ _ fun c => ?_
  by_cases hc : c < 0
  · simp (maxSteps := 1000000) (implicitDefEqProofs := false) only [stp, if_true, if_false, Int.reduceEq, Int.reduceLT, Int.reduceLE, Int.reduceGT, Int.reduceGE, reduceCtorEq, Nat.reduceEqDiff, List.getElem?_cons_zero, List.getElem?_cons_succ, Option.map_some, hc]
    exact pdqF_ok hid hn hx hy hrec hQ hL hpv (.cons g11 (.cons g10 (.cons g12 (.cons g13 (.cons g0 (.cons g1 (.cons g2 (.cons g3 (.cons g4 .nil)))))))))
  · simp (maxSteps := 1000000) (implicitDefEqProofs := false) only [stp, if_true, if_false, Int.reduceEq, Int.reduceLT, Int.reduceLE, Int.reduceGT, Int.reduceGE, reduceCtorEq, Nat.reduceEqDiff, List.getElem?_cons_zero, List.getElem?_cons_succ, Option.map_some, hc, g0, g1, g2, g13, g4]
    refine SCalls.mono (partitionEq_calls hw2 hid2 hn hks (a := x) (b := y) (by omega) (by omega) (by omega) hpv) ?_
    rintro r G ⟨m, rfl, hm, hL2⟩
    simp (maxSteps := 1000000) (implicitDefEqProofs := false) only [stp, if_true, if_false, Int.reduceEq, Int.reduceLT, Int.reduceLE, Int.reduceGT, Int.reduceGE, reduceCtorEq, Nat.reduceEqDiff, List.getElem?_cons_zero, List.getElem?_cons_succ, Option.map_some, if_true]
    exact hQ.2 _ _ _ m y z p q (.inr rfl) (by omega) (by omega) (by omega) (by omega) (hL2.of hx2) (.cons g10 (.cons g11 (.cons g0 (.cons rfl (.cons g2 (.cons g3 (.cons g4 .nil)))))))

set_option maxRecDepth 20000 in
set_option maxHeartbeats 4000000 in
theorem pdqD_ok {H : Heap} {id n : Nat} (hid : id < H.next) (hn : n ≤ 64) {x y : Int} (hx : 0 ≤ x) (hy : y ≤ n) {Q : Exit → Fr → Heap → Prop}
    (hrec : ∀ (H : Heap) (ks : List KeyA) (a b l : Int), WF H → id < H.next → ks.length = n → 0 ≤ a → a ≤ b → b ≤ n → b - a < y - x → SCalls PP 54 [.slice id 0 n none, .int .i64 a, .int .i64 b, .int .i64 l, cmpF] (wr H id ks) fun _ H' => Left H id n H')
    (hQ : PdqEnd H id n x y Q) {G : Heap} (hL : Left H id n G) {f : Fr} {z pv h : Int} {p q : Bool} (hpv : x ≤ pv ∧ pv < y) (hf : FrSub [(14, .int .i64 h), (11, .bool q), (10, .bool p), (12, .int .i64 (y - x)), (13, .int .i64 pv), (0, .slice id 0 n none), (1, .int .i64 x), (2, .int .i64 y), (3, .int .i64 z), (4, cmpF)] f) : wpC (SCalls PP) pdqD f G Q := by
  have g14 := hf 14 _ rfl
  have g11 := hf 11 _ rfl
  have g10 := hf 10 _ rfl
  have g12 := hf 12 _ rfl
  have g13 := hf 13 _ rfl
  have g0 := hf 0 _ rfl
  have g1 := hf 1 _ rfl
  have g2 := hf 2 _ rfl
  have g3 := hf 3 _ rfl
  have g4 := hf 4 _ rfl
  obtain ⟨H2, ks, hx2, hw2, hks, rfl⟩ := hL.out
  have hid2 := Left.hid hid hx2
  by_cases hh : p = true ∧ q = true ∧ h = 1
  rotate_left
  · have hh' : p = false ∨ (p = true ∧ q = false) ∨ (p = true ∧ q = true ∧ ¬ h = 1) := by
      cases p <;> cases q <;> simp at hh ⊢
      exact hh
    rcases hh' with rfl | ⟨rfl, rfl⟩ | ⟨rfl, rfl, hh'⟩
    · simp (maxSteps := 1000000) (implicitDefEqProofs := false) only [stp, if_true, if_false, Int.reduceEq, Int.reduceLT, Int.reduceLE, Int.reduceGT, Int.reduceGE, reduceCtorEq, Nat.reduceEqDiff, List.getElem?_cons_zero, List.getElem?_cons_succ, Option.map_some, pdqD, g10, g11, g14]
      exact pdqE_ok hid hn hx hy hrec hQ hL hpv (.cons g11 (.cons g10 (.cons g12 (.cons g13 (.cons g0 (.cons g1 (.cons g2 (.cons g3 (.cons g4 .nil)))))))))
    · simp (maxSteps := 1000000) (implicitDefEqProofs := false) only [stp, if_true, if_false, Int.reduceEq, Int.reduceLT, Int.reduceLE, Int.reduceGT, Int.reduceGE, reduceCtorEq, Nat.reduceEqDiff, List.getElem?_cons_zero, List.getElem?_cons_succ, Option.map_some, pdqD, g10, g11, g14]
      exact pdqE_ok hid hn hx hy hrec hQ hL hpv (.cons g11 (.cons g10 (.cons g12 (.cons g13 (.cons g0 (.cons g1 (.cons g2 (.cons g3 (.cons g4 .nil)))))))))
    · simp (maxSteps := 1000000) (implicitDefEqProofs := false) only [stp, if_true, if_false, Int.reduceEq, Int.reduceLT, Int.reduceLE, Int.reduceGT, Int.reduceGE, reduceCtorEq, Nat.reduceEqDiff, List.getElem?_cons_zero, List.getElem?_cons_succ, Option.map_some, pdqD, g10, g11, g14, hh']
      exact pdqE_ok hid hn hx hy hrec hQ hL hpv (.cons g11 (.cons g10 (.cons g12 (.cons g13 (.cons g0 (.cons g1 (.cons g2 (.cons g3 (.cons g4 .nil)))))))))
  obtain ⟨rfl, rfl, rfl⟩ := hh
  simp (maxSteps := 1000000) (implicitDefEqProofs := false) only [stp, if_true, if_false, Int.reduceEq, Int.reduceLT, Int.reduceLE, Int.reduceGT, Int.reduceGE, reduceCtorEq, Nat.reduceEqDiff, List.getElem?_cons_zero, List.getElem?_cons_succ, Option.map_some, pdqD, g10, g11, g14, g0, g1, g2, g4]
  refine SCalls.mono (partial_calls hw2 hid2 hn hks (a := x) (b := y) (by omega) (by omega) (by omega)) ?_
  rintro r G ⟨t, rfl, hL2⟩
  cases t with
  | true =>
    simp (maxSteps := 1000000) (implicitDefEqProofs := false) only [stp, if_true, if_false, Int.reduceEq, Int.reduceLT, Int.reduceLE, Int.reduceGT, Int.reduceGE, reduceCtorEq, Nat.reduceEqDiff, List.getElem?_cons_zero, List.getElem?_cons_succ, Option.map_some, if_true]
    exact hQ.1 _ _ (hL2.of hx2)
  | false =>
    simp (maxSteps := 1000000) (implicitDefEqProofs := false) only [stp, if_true, if_false, Int.reduceEq, Int.reduceLT, Int.reduceLE, Int.reduceGT, Int.reduceGE, reduceCtorEq, Nat.reduceEqDiff, List.getElem?_cons_zero, List.getElem?_cons_succ, Option.map_some, if_true]
    exact pdqE_ok hid hn hx hy hrec hQ (hL2.of hx2) hpv (.cons g11 (.cons g10 (.cons g12 (.cons g13 (.cons g0 (.cons g1 (.cons g2 (.cons g3 (.cons g4 .nil)))))))))

set_option maxRecDepth 20000 in
set_option maxHeartbeats 4000000 in
theorem pdqC_ok {H : Heap} {id n : Nat} (hid : id < H.next) (hn : n ≤ 64) {x y : Int} (hx : 0 ≤ x) (hy : y ≤ n) {Q : Exit → Fr → Heap → Prop}
    (hrec : ∀ (H : Heap) (ks : List KeyA) (a b l : Int), WF H → id < H.next → ks.length = n → 0 ≤ a → a ≤ b → b ≤ n → b - a < y - x → SCalls PP 54 [.slice id 0 n none, .int .i64 a, .int .i64 b, .int .i64 l, cmpF] (wr H id ks) fun _ H' => Left H id n H')
    (hQ : PdqEnd H id n x y Q) {G : Heap} (hL : Left H id n G) {f : Fr} {z pv h : Int} {p q : Bool} (hpv : x ≤ pv ∧ pv < y) (hf : FrSub [(14, .int .i64 h), (11, .bool q), (10, .bool p), (12, .int .i64 (y - x)), (13, .int .i64 pv), (0, .slice id 0 n none), (1, .int .i64 x), (2, .int .i64 y), (3, .int .i64 z), (4, cmpF)] f) : wpC (SCalls PP) pdqC f G Q := by
  have g14 := hf 14 _ rfl
  have g11 := hf 11 _ rfl
  have g10 := hf 10 _ rfl
  have g12 := hf 12 _ rfl
  have g13 := hf 13 _ rfl
  have g0 := hf 0 _ rfl
  have g1 := hf 1 _ rfl
  have g2 := hf 2 _ rfl
  have g3 := hf 3 _ rfl
  have g4 := hf 4 _ rfl
  obtain ⟨H2, ks, hx2, hw2, hks, rfl⟩ := hL.out
  have hid2 := Left.hid hid hx2
  by_cases hh : h = 2
  rotate_left
  · simp (maxSteps := 1000000) (implicitDefEqProofs := false) only [stp, if_true, if_false, Int.reduceEq, Int.reduceLT, Int.reduceLE, Int.reduceGT, Int.reduceGE, reduceCtorEq, Nat.reduceEqDiff, List.getElem?_cons_zero, List.getElem?_cons_succ, Option.map_some, pdqC, g14, hh]
    exact pdqD_ok hid hn hx hy hrec hQ hL hpv (.cons g14 (.cons g11 (.cons g10 (.cons g12 (.cons g13 (.cons g0 (.cons g1 (.cons g2 (.cons g3 (.cons g4 .nil))))))))))
  simp (maxSteps := 1000000) (implicitDefEqProofs := false) only [stp, if_true, if_false, Int.reduceEq, Int.reduceLT, Int.reduceLE, Int.reduceGT, Int.reduceGE, reduceCtorEq, Nat.reduceEqDiff, List.getElem?_cons_zero, List.getElem?_cons_succ, Option.map_some, pdqC, g14, hh, g0, g1, g2, g4]
  refine SCalls.mono (reverse_calls hw2 hid2 hn hks (a := x) (b := y) (by omega) (by omega) (by omega)) ?_
  rintro r G hL2
  simp (maxSteps := 1000000) (implicitDefEqProofs := false) (disch := omega) only [stp, if_true, if_false, Int.reduceEq, Int.reduceLT, Int.reduceLE, Int.reduceGT, Int.reduceGE, reduceCtorEq, Nat.reduceEqDiff, List.getElem?_cons_zero, List.getElem?_cons_succ, Option.map_some, wrap_i64, g1, g2, g13]
  exact pdqD_ok hid hn hx hy hrec hQ (hL2.of hx2) (pv := y - 1 - (pv - x)) (by omega) (.cons rfl (.cons g11 (.cons g10 (.cons g12 (.cons rfl (.cons g0 (.cons g1 (.cons g2 (.cons g3 (.cons g4 .nil))))))))))

set_option maxRecDepth 20000 in
set_option maxHeartbeats 4000000 in
theorem pdq_calls (N : Nat) : ∀ {H : Heap} (hw : WF H) {id n : Nat} (hid : id < H.next) (hn : n ≤ 64) {ks : List KeyA} (hks : ks.length = n) {a b : Int} (l : Int) (ha : 0 ≤ a) (hab : a ≤ b) (hb : b ≤ n) (hN : b - a < N),
    SCalls PP 54 [.slice id 0 n none, .int .i64 a, .int .i64 b, .int .i64 l, cmpF] (wr H id ks) fun _ H' => Left H id n H' := by
  induction N with
  | zero => intro H hw id n hid hn ks hks a b l ha hab hb hN; exact absurd hN (by omega)
  | succ N ih =>
  intro H hw id n hid hn ks hks a b l ha hab hb hN
  refine SCalls.go c54' (by simp [fn54']) fun hz => ?_
  clear hz
  simp (maxSteps := 1000000) (implicitDefEqProofs := false) only [stp, if_true, if_false, Int.reduceEq, Int.reduceLT, Int.reduceLE, Int.reduceGT, Int.reduceGE, reduceCtorEq, Nat.reduceEqDiff, List.getElem?_cons_zero, List.getElem?_cons_succ, Option.map_some, fn54', enterFr, List.length, List.range, List.range.loop, List.zip, List.zipWith]
  refine wp_loopI (fun m fr G => ∃ (x y z : Int) (p q : Bool), m = (y - x).toNat ∧ a ≤ x ∧ x ≤ y ∧ y ≤ b ∧ Left H id n G ∧ FrSub [(10, .bool p), (11, .bool q), (0, .slice id 0 n none), (1, .int .i64 x), (2, .int .i64 y), (3, .int .i64 z), (4, cmpF)] fr) (b - a).toNat
    ⟨a, b, l, true, true, rfl, by omega, by omega, by omega, Left.mk hw hks, (.cons rfl (.cons rfl (.cons rfl (.cons rfl (.cons rfl (.cons rfl (.cons rfl .nil)))))))⟩ ?_
  clear hks ks
  rintro m fr G ⟨x, y, z, p, q, rfl, hx, hxy, hy, hL, hsub⟩
  refine ⟨_, hsub, ?_⟩
  obtain ⟨H2, ks, hx2, hw2, hks, rfl⟩ := hL.out
  have hid2 := Left.hid hid hx2
  have hrec : ∀ (H : Heap) (ks : List KeyA) (a b l : Int), WF H → id < H.next → ks.length = n → 0 ≤ a → a ≤ b → b ≤ n → b - a < y - x → SCalls PP 54 [.slice id 0 n none, .int .i64 a, .int .i64 b, .int .i64 l, cmpF] (wr H id ks) fun _ H' => Left H id n H' :=
    fun H ks a b l q1 q2 q3 q4 q5 q6 q7 => ih q1 q2 hn q3 l q4 q5 q6 (by omega)
  by_cases h12 : y - x ≤ 12
  · simp (maxSteps := 1000000) (implicitDefEqProofs := false) (disch := omega) only [stp, if_true, if_false, Int.reduceEq, Int.reduceLT, Int.reduceLE, Int.reduceGT, Int.reduceGE, reduceCtorEq, Nat.reduceEqDiff, List.getElem?_cons_zero, List.getElem?_cons_succ, Option.map_some, wrap_i64, h12]
    refine SCalls.mono (insertion_calls hw2 hid2 hn hks (a := x) (b := y) (by omega) (by omega) (by omega)) ?_
    rintro r G hL2
    simp (maxSteps := 1000000) (implicitDefEqProofs := false) only [stp, if_true, if_false, Int.reduceEq, Int.reduceLT, Int.reduceLE, Int.reduceGT, Int.reduceGE, reduceCtorEq, Nat.reduceEqDiff, List.getElem?_cons_zero, List.getElem?_cons_succ, Option.map_some, if_true]
    exact hL2.of hx2
  by_cases hz0 : z = 0
  · simp (maxSteps := 1000000) (implicitDefEqProofs := false) (disch := omega) only [stp, if_true, if_false, Int.reduceEq, Int.reduceLT, Int.reduceLE, Int.reduceGT, Int.reduceGE, reduceCtorEq, Nat.reduceEqDiff, List.getElem?_cons_zero, List.getElem?_cons_succ, Option.map_some, wrap_i64, h12, hz0]
    refine SCalls.mono (heap_calls hw2 hid2 hn hks (a := x) (b := y) (by omega) (by omega) (by omega)) ?_
    rintro r G hL2
    simp (maxSteps := 1000000) (implicitDefEqProofs := false) only [stp, if_true, if_false, Int.reduceEq, Int.reduceLT, Int.reduceLE, Int.reduceGT, Int.reduceGE, reduceCtorEq, Nat.reduceEqDiff, List.getElem?_cons_zero, List.getElem?_cons_succ, Option.map_some, if_true]
    exact hL2.of hx2
  have hend : ∀ Q : Exit → Fr → Heap → Prop, True := fun _ => trivial
  cases p with
  | true =>
    simp (maxSteps := 1000000) (implicitDefEqProofs := false) (disch := omega) only [stp, if_true, if_false, Int.reduceEq, Int.reduceLT, Int.reduceLE, Int.reduceGT, Int.reduceGE, reduceCtorEq, Nat.reduceEqDiff, List.getElem?_cons_zero, List.getElem?_cons_succ, Option.map_some, wrap_i64, h12, hz0]
    refine SCalls.mono (pivot_calls hw2 hid2 hn hks (a := x) (b := y) (by omega) (by omega) (by omega)) ?_
    rintro r G ⟨pv, h, H3, rfl, hpv, hx3, hw3, rfl⟩
    simp (maxSteps := 1000000) (implicitDefEqProofs := false) only [stp, if_true, if_false, Int.reduceEq, Int.reduceLT, Int.reduceLE, Int.reduceGT, Int.reduceGE, reduceCtorEq, Nat.reduceEqDiff, List.getElem?_cons_zero, List.getElem?_cons_succ, Option.map_some, if_true]
    refine pdqC_ok hid hn (by omega) (by omega) hrec ⟨fun f G h => ?_, fun e f G x' y' z' p' q' he h1 h2 h3 h4 h5 h6 => ?_⟩ (z := z) (pv := pv) (h := h) (p := true) (q := q) ⟨H3, ks, hx2.trans hx3, hw3, hks, rfl⟩ hpv (.cons rfl (.cons rfl (.cons rfl (.cons rfl (.cons rfl (.cons rfl (.cons rfl (.cons rfl (.cons rfl (.cons rfl .nil))))))))))
    · simp (maxSteps := 1000000) (implicitDefEqProofs := false) only [stp, if_true, if_false, Int.reduceEq, Int.reduceLT, Int.reduceLE, Int.reduceGT, Int.reduceGE, reduceCtorEq, Nat.reduceEqDiff, List.getElem?_cons_zero, List.getElem?_cons_succ, Option.map_some, if_true]
      exact h
    · rcases he with rfl | rfl
      · simp (maxSteps := 1000000) (implicitDefEqProofs := false) only [stp, if_true, if_false, Int.reduceEq, Int.reduceLT, Int.reduceLE, Int.reduceGT, Int.reduceGE, reduceCtorEq, Nat.reduceEqDiff, List.getElem?_cons_zero, List.getElem?_cons_succ, Option.map_some, if_true]
        exact ⟨(y' - x').toNat, by omega, x', y', z', p', q', rfl, by omega, by omega, by omega, h5, h6⟩
      · simp (maxSteps := 1000000) (implicitDefEqProofs := false) only [stp, if_true, if_false, Int.reduceEq, Int.reduceLT, Int.reduceLE, Int.reduceGT, Int.reduceGE, reduceCtorEq, Nat.reduceEqDiff, List.getElem?_cons_zero, List.getElem?_cons_succ, Option.map_some, if_true]
        exact ⟨(y' - x').toNat, by omega, x', y', z', p', q', rfl, by omega, by omega, by omega, h5, h6⟩
  | false =>
    simp (maxSteps := 1000000) (implicitDefEqProofs := false) (disch := omega) only [stp, if_true, if_false, Int.reduceEq, Int.reduceLT, Int.reduceLE, Int.reduceGT, Int.reduceGE, reduceCtorEq, Nat.reduceEqDiff, List.getElem?_cons_zero, List.getElem?_cons_succ, Option.map_some, wrap_i64, h12, hz0]
    refine SCalls.mono (break_calls hw2 hid2 hn hks (a := x) (b := y) (by omega) (by omega) (by omega)) ?_
    rintro r G hLb
    obtain ⟨H3, ks3, hx3, hw3, hks3, rfl⟩ := (hLb.of hx2).out
    have hid3 := Left.hid hid hx3
    simp (maxSteps := 1000000) (implicitDefEqProofs := false) only [stp, if_true, if_false, Int.reduceEq, Int.reduceLT, Int.reduceLE, Int.reduceGT, Int.reduceGE, reduceCtorEq, Nat.reduceEqDiff, List.getElem?_cons_zero, List.getElem?_cons_succ, Option.map_some, if_true]
    refine SCalls.mono (pivot_calls hw3 hid3 hn hks3 (a := x) (b := y) (by omega) (by omega) (by omega)) ?_
    rintro r G ⟨pv, h, H4, rfl, hpv, hx4, hw4, rfl⟩
    simp (maxSteps := 1000000) (implicitDefEqProofs := false) only [stp, if_true, if_false, Int.reduceEq, Int.reduceLT, Int.reduceLE, Int.reduceGT, Int.reduceGE, reduceCtorEq, Nat.reduceEqDiff, List.getElem?_cons_zero, List.getElem?_cons_succ, Option.map_some, if_true]
    refine pdqC_ok hid hn (by omega) (by omega) hrec ⟨fun f G h => ?_, fun e f G x' y' z' p' q' he h1 h2 h3 h4 h5 h6 => ?_⟩ (z := IntKind.i64.wrap (z - 1)) (pv := pv) (h := h) (p := false) (q := q) ⟨H4, ks3, hx3.trans hx4, hw4, hks3, rfl⟩ hpv (.cons rfl (.cons rfl (.cons rfl (.cons rfl (.cons rfl (.cons rfl (.cons rfl (.cons rfl (.cons rfl (.cons rfl .nil))))))))))
    · simp (maxSteps := 1000000) (implicitDefEqProofs := false) only [stp, if_true, if_false, Int.reduceEq, Int.reduceLT, Int.reduceLE, Int.reduceGT, Int.reduceGE, reduceCtorEq, Nat.reduceEqDiff, List.getElem?_cons_zero, List.getElem?_cons_succ, Option.map_some, if_true]
      exact h
    · rcases he with rfl | rfl
      · simp (maxSteps := 1000000) (implicitDefEqProofs := false) only [stp, if_true, if_false, Int.reduceEq, Int.reduceLT, Int.reduceLE, Int.reduceGT, Int.reduceGE, reduceCtorEq, Nat.reduceEqDiff, List.getElem?_cons_zero, List.getElem?_cons_succ, Option.map_some, if_true]
        exact ⟨(y' - x').toNat, by omega, x', y', z', p', q', rfl, by omega, by omega, by omega, h5, h6⟩
      · simp (maxSteps := 1000000) (implicitDefEqProofs := false) only [stp, if_true, if_false, Int.reduceEq, Int.reduceLT, Int.reduceLE, Int.reduceGT, Int.reduceGE, reduceCtorEq, Nat.reduceEqDiff, List.getElem?_cons_zero, List.getElem?_cons_succ, Option.map_some, if_true]
        exact ⟨(y' - x').toNat, by omega, x', y', z', p', q', rfl, by omega, by omega, by omega, h5, h6⟩

def getI : Option V → Option Int
  | some (.int .i64 c) => some c
  | _ => none
theorem len_calls {k : Int} (h0 : 0 ≤ k) (h1 : k ≤ 64) (H : Heap) : SCalls PP 55 [.int .u64 k] H fun r H' => H' = H ∧ ∃ c : Int, r = .int .i64 c := by
  have h : (List.range 65).all (fun k => (getI ((runFn (tblGet tblP) 10 5 55 [.int .u64 k] H0).map (·.1))).isSome) = true := by kernel_rfl
  have := List.all_eq_true.1 h k.toNat (by simp; omega)
  rw [show ((k.toNat : Nat) : Int) = k by omega] at this
  cases hr : (runFn (tblGet tblP) 10 5 55 [.int .u64 k] H0).map (·.1) with
  | none => rw [hr] at this; cases this
  | some v =>
    rw [hr] at this
    cases v with
    | int kk c =>
      cases kk <;> first | exact SCalls.mono (SCalls.worked (fun f af => tblGet_ok tblP_ok) rfl rfl hr H) fun r H' ⟨q1, q2⟩ => ⟨q1, c, q2⟩ | cases this
    | _ => cases this
set_option maxRecDepth 20000 in
theorem sortIs : SortIs := by
  intro H v es hw hl hes hv
  refine SCalls.go c26 (by simp [fn26]) fun hz => ?_
  clear hz
  have hlen : ∀ G, exec .len [v] G = some (.int .i64 es.length, G) := fun G => by
    rcases hv with ⟨_, h⟩ | ⟨id, rfl, _⟩
    · exact h.len
    · rfl
  have hwu : IntKind.u64.wrap (es.length : Int) = es.length := wrap_u64 (by omega) (by omega)
  simp (maxSteps := 1000000) (implicitDefEqProofs := false) only [stp, if_true, if_false, Int.reduceEq, Int.reduceLT, Int.reduceLE, Int.reduceGT, Int.reduceGE, reduceCtorEq, Nat.reduceEqDiff, List.getElem?_cons_zero, List.getElem?_cons_succ, Option.map_some, fn26, enterFr, List.length, List.range, List.range.loop, List.zip, List.zipWith, hlen, x_toInt, hwu]
  refine SCalls.mono (len_calls (by omega) (by omega) H) ?_
  rintro r G ⟨rfl, c, rfl⟩
  simp (maxSteps := 1000000) (implicitDefEqProofs := false) only [stp, if_true, if_false, Int.reduceEq, Int.reduceLT, Int.reduceLE, Int.reduceGT, Int.reduceGE, reduceCtorEq, Nat.reduceEqDiff, List.getElem?_cons_zero, List.getElem?_cons_succ, Option.map_some, if_true]
  rcases hv with ⟨rfl, hs⟩ | ⟨id, rfl, ho⟩
  · -- no keys
    have h0 : SCalls PP 54 [v, .int .i64 0, .int .i64 0, .int .i64 c, cmpF] G fun r H' => H' = G := by
      refine SCalls.mono (SCalls.keep (R := fun _ => True) ?_) fun r H' h => h.1
      refine SCalls.go c54 (by simp [fn54]) fun hz => ?_
      have h75 : SCalls PP 75 [v, .int .i64 0, .int .i64 0, cmpF] G fun r H' => Ext G H' ∧ r = .tup [] := by
        refine SCalls.go c75 (by simp [fn75]) fun hz => ?_
        simp (maxSteps := 1000000) (implicitDefEqProofs := false) (disch := omega) only [stp, if_true, if_false, Int.reduceEq, Int.reduceLT, Int.reduceLE, Int.reduceGT, Int.reduceGE, reduceCtorEq, Nat.reduceEqDiff, List.getElem?_cons_zero, List.getElem?_cons_succ, Option.map_some, wrap_i64, fn75, enterFr, List.length, List.range, List.range.loop, List.zip, List.zipWith]
        refine wp_loopI (fun m fr F => F = G ∧ FrSub [(8, .int .i64 1), (2, .int .i64 0)] fr) 0 ⟨rfl, (.cons rfl (.cons rfl .nil))⟩ ?_
        rintro m fr F ⟨rfl, hsub⟩
        refine ⟨_, hsub, ?_⟩
        simp (maxSteps := 1000000) (implicitDefEqProofs := false) (disch := omega) only [stp, if_true, if_false, Int.reduceEq, Int.reduceLT, Int.reduceLE, Int.reduceGT, Int.reduceGE, reduceCtorEq, Nat.reduceEqDiff, List.getElem?_cons_zero, List.getElem?_cons_succ, Option.map_some, wrap_i64, if_true]
        exact ⟨Ext.refl _, by trivial⟩
      simp (maxSteps := 1000000) (implicitDefEqProofs := false) (disch := omega) only [stp, if_true, if_false, Int.reduceEq, Int.reduceLT, Int.reduceLE, Int.reduceGT, Int.reduceGE, reduceCtorEq, Nat.reduceEqDiff, List.getElem?_cons_zero, List.getElem?_cons_succ, Option.map_some, wrap_i64, fn54, enterFr, List.length, List.range, List.range.loop, List.zip, List.zipWith]
      refine wp_loopI (fun m fr F => F = G ∧ FrSub [(1, .int .i64 0), (2, .int .i64 0), (0, v), (4, cmpF)] fr) 0 ⟨rfl, (.cons rfl (.cons rfl (.cons rfl (.cons rfl .nil))))⟩ ?_
      rintro m fr F ⟨rfl, hsub⟩
      refine ⟨_, hsub, ?_⟩
      simp (maxSteps := 1000000) (implicitDefEqProofs := false) (disch := omega) only [stp, if_true, if_false, Int.reduceEq, Int.reduceLT, Int.reduceLE, Int.reduceGT, Int.reduceGE, reduceCtorEq, Nat.reduceEqDiff, List.getElem?_cons_zero, List.getElem?_cons_succ, Option.map_some, wrap_i64, if_true]
      refine SCalls.mono h75 ?_
      rintro r F2 ⟨hx, rfl⟩
      simp (maxSteps := 1000000) (implicitDefEqProofs := false) only [stp, if_true, if_false, Int.reduceEq, Int.reduceLT, Int.reduceLE, Int.reduceGT, Int.reduceGE, reduceCtorEq, Nat.reduceEqDiff, List.getElem?_cons_zero, List.getElem?_cons_succ, Option.map_some, if_true]
      exact ⟨hx, trivial, rfl⟩
    refine SCalls.mono h0 ?_
    rintro r F rfl
    simp (maxSteps := 1000000) (implicitDefEqProofs := false) only [stp, if_true, if_false, Int.reduceEq, Int.reduceLT, Int.reduceLE, Int.reduceGT, Int.reduceGE, reduceCtorEq, Nat.reduceEqDiff, List.getElem?_cons_zero, List.getElem?_cons_succ, Option.map_some, if_true]
    exact ⟨by trivial, Nat.le_refl _, hw, fun j _ _ => by trivial⟩
  · obtain ⟨ks, rfl⟩ : ∃ ks : List KeyA, es = ks.map KeyA.cells := by
      clear hlen hwu ho hl hw
      induction es with
      | nil => exact ⟨[], rfl⟩
      | cons e es ih =>
        obtain ⟨k, hk⟩ := hes e (by simp)
        obtain ⟨ks, hks⟩ := ih fun e he => hes e (List.mem_cons_of_mem _ he)
        exact ⟨k :: ks, by rw [hk, hks]; rfl⟩
    rw [List.length_map] at hl ⊢
    have hG : G = wr G id ks := by
      unfold wr Heap.set
      cases G with
      | mk gn nx get =>
        congr 1
        funext j
        split
        · rename_i h; subst h; exact ho.get
        · rfl
    have hid := ho.lt
    have h1 := pdq_calls (ks.length + 1) (H := G) hw (id := id) (n := ks.length) hid hl (ks := ks) rfl (a := 0) (b := ks.length) c (by omega) (by omega) (by omega) (by omega)
    rw [← hG] at h1
    refine SCalls.mono h1 ?_
    rintro r F hL
    obtain ⟨H2, ks2, hx2, hw2, hks2, rfl⟩ := hL.out
    have hid2 := Left.hid hid hx2
    simp (maxSteps := 1000000) (implicitDefEqProofs := false) only [stp, if_true, if_false, Int.reduceEq, Int.reduceLT, Int.reduceLE, Int.reduceGT, Int.reduceGE, reduceCtorEq, Nat.reduceEqDiff, List.getElem?_cons_zero, List.getElem?_cons_succ, Option.map_some, if_true]
    refine ⟨hx2.gn, hx2.next, wr_wf hw2 hid2 _, fun j hj hne => ?_⟩
    unfold wr
    rw [Heap.set_get]
    split
    · rename_i h
      subst h
      by_cases hnil : ks.map KeyA.cells = []
      · have hk0 : ks = [] := by simpa using hnil
        subst hk0
        have : ks2 = [] := List.eq_nil_of_length_eq_zero hks2
        subst this
        exact ho.get.symm
      · exact absurd rfl (hne j rfl hnil)
    · exact hx2.get j hj
end Go.Proofs.YtbadbkdpnbacnaaDoor.Fw

/- The tables of unicode/utf8 as the rows' own cells lay them. No condition. -/
namespace Go.Proofs.YtbadbkdpnbacnaaDoor.Fw
open Go Go.Lib Go.ChangeShapes Go.WideShapes Go.ChangeAt Go.RowKit
set_option maxRecDepth 10000
set_option linter.unusedSimpArgs false
set_option linter.unusedVariables false

theorem hOf_get {W : World} {g : Nat} {c : Array Value} {e : TypeId} {fz : Nat × Nat} (h : W.heap[g]? = some (.cells c e fz)) : (hOf W).get g = some (.row true 0 (pref W c.toList)) := by
  have hg := (Array.getElem?_eq_some_iff.1 h).1
  have e1 : hPl W g = ⟨g, 0, c.size⟩ := by simp only [hPl, hg, if_true, h, obSize]
  have e2 : g < hNext W := by unfold hNext; omega
  simp only [hOf, e2, if_true, e1, h, List.drop_zero]
/-- A package-level variable of numbers. -/
theorem hOf_glob {W : World} {g : Nat} {k : IntKind} {zs : List Int} (hz : zs ≠ []) (h : ∀ i : Nat, i < zs.length → W.cell? ⟨g, i, none⟩ = some (.int k (zs.getD i 0))) : At (hOf W) g 0 (zs.map (V.int k)) := by
  have hpos : 0 < zs.length := List.length_pos_iff.2 hz
  obtain ⟨_, c, e, fz, hb, h0⟩ := cell_block (h 0 hpos)
  simp only at hb
  have hc : ∀ i : Nat, i < zs.length → c.toList[i]? = some (.int k (zs.getD i 0)) := fun i hi => by
    obtain ⟨_, c', e', fz', hb', h1⟩ := cell_block (h i hi)
    simp only at hb' h1
    rw [hb] at hb'
    cases hb'
    simpa using h1
  have hp : ∀ i : Nat, i < zs.length → (pref W c.toList)[i]? = some (.int k (zs.getD i 0)) := fun i hi =>
    pref_of W (n := zs.length) (fun j hj => ⟨_, _, hc j hj, rfl⟩) i hi _ _ (hc i hi) rfl
  have hl : zs.length ≤ (pref W c.toList).length := by
    have := (List.getElem?_eq_some_iff.1 (hp (zs.length - 1) (by omega))).1
    omega
  refine ⟨?_, true, 0, _, hOf_get hb, by rw [List.length_map, Nat.zero_add]; exact hl, fun j v hj => ?_⟩
  · have hg := (Array.getElem?_eq_some_iff.1 hb).1
    show g < hNext W
    unfold hNext; omega
  · have hj' : j < zs.length := by have := (List.getElem?_eq_some_iff.1 hj).1; simpa using this
    rw [Nat.zero_add, hp j hj']
    simp [hj'] at hj
    subst hj
    simp [List.getD_eq_getElem?_getD, hj']

theorem acc_pairs {W : World} {fuel : Nat} {cs : List Value} {p : List MemPlace} (h : DataW.trod (fun _ => ()) PP W 0 (fun _ => true) false fuel 156 cs = some (Rows.laid_unicode_utf8_acceptRanges, p)) : cs = accT.map fun z => Value.int .u8 z := by
  have t156 : PP.underlying 156 = some (.array 16 155) := by kernel_rfl
  have c155 : PP.cellsOf 155 = 2 := by kernel_rfl
  have c156 : PP.cellsOf 156 = 32 := by kernel_rfl
  have c5 : PP.cellsOf 5 = 1 := by kernel_rfl
  have t5 : PP.underlying 5 = some (.int .u8) := by kernel_rfl
  have t155 := Go.Proofs.Tryd.underlying155
  cases fuel with
  | zero => simp [DataW.trod] at h
  | succ fuel =>
    simp only [DataW.trod, t156, c155] at h
    split at h
    · rename_i hl
      obtain ⟨xs, hm, hx⟩ := Option.map_eq_some_iff.1 h
      have hxs : DataW.agg (xs.map (·.1)) = (Rows.laid_unicode_utf8_acceptRanges : DataW Unit) := congrArg Prod.fst hx
      have hl' : cs.length = 32 := hl.trans c156
      apply List.ext_getElem?
      intro i
      by_cases hi : i < 32
      · obtain ⟨b, hb, hf⟩ := mapM_at hm (i / 2) (i / 2) (List.getElem?_range (by omega))
        obtain ⟨y0, y1, n, hb', _, h0, h1⟩ := trod_struct2 t155 hf
        rw [c5] at h0 h1
        obtain ⟨z0, e0, x0, _⟩ := DataW.trod_int t5 h0
        obtain ⟨z1, e1, x1, _⟩ := DataW.trod_int t5 h1
        have k0 : cs[i / 2 * 2]? = some (.int .u8 z0) := by
          have := congrArg (·[0]?) e0
          simpa [List.getElem?_take, List.getElem?_drop] using this
        have k1 : cs[i / 2 * 2 + 1]? = some (.int .u8 z1) := by
          have := congrArg (·[0]?) e1
          simpa [List.getElem?_take, List.getElem?_drop] using this
        have hq : (xs.map (·.1))[i / 2]? = some (.agg [.lit (.int .u8 z0), .lit (.int .u8 z1)]) := by
          rw [List.getElem?_map, hb]
          simp [hb', x0, x1]
        have hlist : xs.map (·.1) = (List.range 16).map fun q => (DataW.agg [.lit (.int .u8 (accT.getD (q * 2) 0)), .lit (.int .u8 (accT.getD (q * 2 + 1) 0))] : DataW Unit) := by
          have : (DataW.agg (xs.map (·.1)) : DataW Unit) = DataW.agg ((List.range 16).map fun q => (DataW.agg [.lit (.int .u8 (accT.getD (q * 2) 0)), .lit (.int .u8 (accT.getD (q * 2 + 1) 0))] : DataW Unit)) := by rw [hxs]; kernel_rfl
          exact DataW.agg.inj this
        rw [hlist, List.getElem?_map, List.getElem?_range (by omega)] at hq
        simp only [Option.map_some, Option.some.injEq, DataW.agg.injEq, List.cons.injEq, DataW.lit.injEq, Lit.int.injEq, true_and, and_true] at hq
        have hlen : accT.length = 32 := by decide
        have ha : (accT.map fun z => Value.int .u8 z)[i]? = some (.int .u8 (accT.getD i 0)) := by simp [List.getD_eq_getElem?_getD, hlen, hi]
        rw [ha]
        by_cases hp : i % 2 = 0
        · rw [show i = i / 2 * 2 by omega, k0, ← hq.1]
        · rw [show i = i / 2 * 2 + 1 by omega, k1, ← hq.2]
      · have hlen : accT.length = 32 := by decide
        rw [List.getElem?_eq_none (by omega), List.getElem?_eq_none (by simp [hlen]; omega)]
    · cases h

abbrev laidU : List (String × DataW Unit) := [("unicode/utf8.acceptRanges", Rows.laid_unicode_utf8_acceptRanges), ("unicode/utf8.first", Rows.laid_unicode_utf8_first)]
theorem tabs_of {W : World} (hL : laidMetH PP laidU W) : Tabs (hOf W) := by
  have h : laidMet PP laidU W := hL
  obtain ⟨ps, ⟨g, t, cs, fuel, p, q, hg, ht, hv, hd, ⟨g', t', cs', fuel', p', q', hg', ht', hv', hd', _, _⟩, _⟩, _⟩ := h
  have e2 : PP.globalNamed "unicode/utf8.acceptRanges" = some 2 := by kernel_rfl
  have e1 : PP.globalNamed "unicode/utf8.first" = some 1 := by kernel_rfl
  have y2 : (PP.globals[2]?).map (·.type) = some 156 := by kernel_rfl
  have y1 : (PP.globals[1]?).map (·.type) = some 153 := by kernel_rfl
  obtain rfl := Option.some.inj (e2.symm.trans hg)
  obtain rfl := Option.some.inj (e1.symm.trans hg')
  obtain rfl := Option.some.inj (y2.symm.trans ht)
  obtain rfl := Option.some.inj (y1.symm.trans ht')
  have h2 := acc_pairs hd
  have hf : (Rows.laid_unicode_utf8_first : DataW Unit) = tabData .u8 firstT := by kernel_rfl
  rw [hf] at hd'
  have h1 := cells_of_tab (n := 256) (k := .u8) (e := 5) (by kernel_rfl) (by kernel_rfl) (by kernel_rfl) (by kernel_rfl) hd'
  have cell : ∀ (name : String) (g : Nat) (cs : Array Value) (zs : List Int), PP.globalNamed name = some g → W.var? PP name = some cs → cs.toList = (zs.map fun z => Value.int .u8 z) → ∀ i : Nat, i < zs.length → W.cell? ⟨g, i, none⟩ = some (.int .u8 (zs.getD i 0)) := by
    intro name g cs zs hg hv hc i hi
    rw [World.var?_cell hg hv i, ← Array.getElem?_toList, hc]
    simp [List.getD_eq_getElem?_getD, hi]
  have hs : 2 < W.heap.size := by
    obtain ⟨_, c, e, fz, hb, _⟩ := cell_block (cell _ _ _ _ e2 hv h2 0 (by decide +kernel))
    exact (Array.getElem?_eq_some_iff.1 hb).1
  exact ⟨hs, hOf_glob (by decide +kernel) (cell _ _ _ _ e1 hv' h1), hOf_glob (by decide +kernel) (cell _ _ _ _ e2 hv h2)⟩
end Go.Proofs.YtbadbkdpnbacnaaDoor.Fw

/- Plain laws of what ops.Fits answers. No condition. -/
namespace Go.Proofs.YtbadbkdpnbacnaaDoor.Fw
open Go
set_option linter.unusedSimpArgs false
set_option linter.unusedVariables false
variable {vU : ByteArray → Bool} {ks : List KeyA}

/-- An op that may be, by its numbers. -/
structure OkO (o : OpA) : Prop where
  kind : o.kind = 1 ∨ o.kind = 2 ∨ o.kind = 3
  lo : 1 ≤ sizeO o
  hi : sizeO o ≤ 536870912
theorem OkO.n {o : OpA} (h : OkO o) (k : o.kind ≠ 2) : 1 ≤ o.n ∧ o.n ≤ 536870912 := by
  have h1 := h.lo
  have h2 := h.hi
  unfold sizeO at h1 h2
  rw [if_neg k] at h1 h2
  exact ⟨h1, h2⟩
theorem ok_of_one {o : OpA} (h : oneF vU ks o = 0) : OkO o := by
  unfold oneF at h
  split at h
  · omega
  · rename_i hc
    simp only [Bool.or_eq_true, Bool.not_eq_true', decide_eq_true_eq, not_or, Bool.not_eq_false] at hc
    obtain ⟨⟨h1, h2⟩, h3⟩ := hc
    refine ⟨?_, by omega, by omega⟩
    unfold formO at h1
    simp only at h1
    split at h1
    · exact .inl ‹_›
    · split at h1
      · exact .inr (.inr ‹_›)
      · split at h1
        · exact .inr (.inl ‹_›)
        · cases h1
theorem may_all : ∀ {os : List OpA} {f : Int}, mayF vU ks f os = some 0 → f = 0 ∧ ∀ o ∈ os, oneF vU ks o = 0
  | [], f, h => by simp [mayF] at h; exact ⟨h, by simp⟩
  | o :: os, f, h => by
    simp only [mayF] at h
    split at h
    · cases h
    · split at h
      · rename_i h1
        exact absurd (may_all h).1 h1
      · rename_i h1
        obtain ⟨h2, h3⟩ := may_all h
        refine ⟨h2, fun q hq => ?_⟩
        rcases List.mem_cons.1 hq with rfl | hq
        · simpa using h1
        · exact h3 q hq
theorem opsMay_zero {os : List OpA} (h : opsMayF vU ks os = 0) : (∀ o ∈ os, OkO o) ∧ takesF 0 os ≤ 536870912 ∧ makesF 0 os ≤ 536870912 := by
  unfold opsMayF at h
  split at h
  · omega
  · rename_i f hf
    split at h
    · omega
    · split at h
      · omega
      · subst h
        exact ⟨fun o ho => ok_of_one ((may_all hf).2 o ho), by omega, by omega⟩

def T : List OpA → Int
  | [] => 0
  | o :: os => (if o.kind = 2 then 0 else o.n) + T os
def M : List OpA → Int
  | [] => 0
  | o :: os => (if o.kind = 3 then 0 else sizeO o) + M os
theorem T_bound : ∀ {os : List OpA}, (∀ o ∈ os, OkO o) → 0 ≤ T os ∧ T os ≤ os.length * 536870912
  | [], h => by simp [T]
  | o :: os, h => by
    obtain ⟨h1, h2⟩ := T_bound (os := os) fun q hq => h q (List.mem_cons_of_mem _ hq)
    have ho := h o (by simp)
    simp only [T, List.length_cons]
    split
    · constructor <;> omega
    · rename_i hk
      obtain ⟨h3, h4⟩ := ho.n hk
      constructor <;> omega
theorem M_bound : ∀ {os : List OpA}, (∀ o ∈ os, OkO o) → 0 ≤ M os ∧ M os ≤ os.length * 536870912
  | [], h => by simp [M]
  | o :: os, h => by
    obtain ⟨h1, h2⟩ := M_bound (os := os) fun q hq => h q (List.mem_cons_of_mem _ hq)
    have ho := h o (by simp)
    have h3 := ho.lo
    have h4 := ho.hi
    simp only [M, List.length_cons]
    split
    · constructor <;> omega
    · constructor <;> omega
theorem takes_eq : ∀ {os : List OpA} {acc : Int}, (∀ o ∈ os, OkO o) → 0 ≤ acc → acc + os.length * 536870912 ≤ 9223372036854775807 → takesF acc os = acc + T os
  | [], acc, h, h0, hb => by simp [takesF, T]
  | o :: os, acc, h, h0, hb => by
    have ho := h o (by simp)
    simp only [List.length_cons] at hb
    simp only [takesF, T]
    split
    · rw [takes_eq (fun q hq => h q (List.mem_cons_of_mem _ hq)) h0 (by omega)]; omega
    · rename_i hk
      obtain ⟨h3, h4⟩ := ho.n hk
      rw [wrap_i64 (by omega) (by omega), takes_eq (fun q hq => h q (List.mem_cons_of_mem _ hq)) (by omega) (by omega)]; omega
theorem makes_eq : ∀ {os : List OpA} {acc : Int}, (∀ o ∈ os, OkO o) → 0 ≤ acc → acc + os.length * 536870912 ≤ 9223372036854775807 → makesF acc os = acc + M os
  | [], acc, h, h0, hb => by simp [makesF, M]
  | o :: os, acc, h, h0, hb => by
    have ho := h o (by simp)
    have h3 := ho.lo
    have h4 := ho.hi
    simp only [List.length_cons] at hb
    simp only [makesF, M]
    split
    · rw [makes_eq (fun q hq => h q (List.mem_cons_of_mem _ hq)) h0 (by omega)]; omega
    · rw [wrap_i64 (by omega) (by omega), makes_eq (fun q hq => h q (List.mem_cons_of_mem _ hq)) (by omega) (by omega)]; omega
theorem final_past : ∀ {os : List OpA} {acc n : Int}, (∀ o ∈ os, OkO o) → 0 ≤ acc → acc + os.length * 536870912 ≤ 9223372036854775807 → acc + T os < n → finalF acc os n = true
  | [], acc, n, h, h0, hb, hn => rfl
  | o :: os, acc, n, h, h0, hb, hn => by
    have ho := h o (by simp)
    have hr : ∀ q ∈ os, OkO q := fun q hq => h q (List.mem_cons_of_mem _ hq)
    have hT := (T_bound hr).1
    simp only [List.length_cons] at hb
    simp only [T] at hn
    simp only [finalF]
    split
    · rename_i hk
      rw [if_pos hk] at hn
      rw [if_neg (by omega)]
      exact final_past hr h0 (by omega) (by omega)
    · rename_i hk
      rw [if_neg hk] at hn
      obtain ⟨h3, h4⟩ := ho.n hk
      rw [wrap_i64 (by omega) (by omega)]
      split
      · rw [if_neg (by omega)]
        exact final_past hr (by omega) (by omega) (by omega)
      · exact final_past hr (by omega) (by omega) (by omega)
theorem final_all : ∀ {os : List OpA} {acc n : Int}, (∀ o ∈ os, OkO o) → 0 ≤ acc → acc + os.length * 536870912 ≤ 9223372036854775807 → os ≠ [] → M os = 0 → acc + T os = n → finalF acc os n = false
  | [], acc, n, h, h0, hb, hne, hm, hn => absurd rfl hne
  | o :: os, acc, n, h, h0, hb, hne, hm, hn => by
    have ho := h o (by simp)
    have hr : ∀ q ∈ os, OkO q := fun q hq => h q (List.mem_cons_of_mem _ hq)
    have hM := (M_bound hr).1
    have hlo := ho.lo
    simp only [List.length_cons] at hb
    simp only [M] at hm
    have hk3 : o.kind = 3 := by
      by_cases hk : o.kind = 3
      · exact hk
      · rw [if_neg hk] at hm; omega
    rw [if_pos hk3] at hm
    have hk2 : o.kind ≠ 2 := by omega
    obtain ⟨h3, h4⟩ := ho.n hk2
    simp only [T] at hn
    rw [if_neg hk2] at hn
    simp only [finalF]
    rw [if_neg hk2, if_pos hk3, wrap_i64 (by omega) (by omega)]
    split
    · rfl
    · rename_i hx
      refine final_all hr (by omega) (by omega) ?_ (by omega) (by omega)
      rintro rfl
      simp only [T] at hn
      omega

/-- OpsFits, as a plain law. -/
theorem fits_law {pl : Bool} {os : List OpA} (hl : os.length ≤ big) {n most more : Int} (h1 : 1 ≤ n) (h2 : n ≤ 1073741824) (h3 : n ≤ most) (h4 : most ≤ 1073741824) (h5 : 0 ≤ more) (h6 : more ≤ 1073741824) :
    (fitsF vU ks pl os n most ≠ 0 → fitsF vU ks pl os n (most + more) = fitsF vU ks pl os n most ∨ (fitsF vU ks pl os n most = 8 ∧ fitsF vU ks pl os n (most + more) = 0)) ∧
    (fitsF vU ks pl os n most = 0 → fitsF vU ks pl os n (most + more) = 0 ∧ fitsF vU ks pl os (n + more) (most + more) = 0 ∧
      1 ≤ IntKind.i64.wrap (IntKind.i64.wrap (n - takesF 0 os) + makesF 0 os) ∧ IntKind.i64.wrap (IntKind.i64.wrap (n - takesF 0 os) + makesF 0 os) ≤ most) := by
  unfold big at hl
  by_cases h0 : opsMayF vU ks os = 0
  · obtain ⟨hok, ht, hm⟩ := opsMay_zero h0
    have eT : takesF 0 os = T os := by rw [takes_eq hok (by omega) (by omega)]; omega
    have eM : makesF 0 os = M os := by rw [makes_eq hok (by omega) (by omega)]; omega
    have bT := T_bound hok
    have bM := M_bound hok
    rw [eT] at ht
    rw [eM] at hm
    have w1 : IntKind.i64.wrap (M os - T os) = M os - T os := wrap_i64 (by omega) (by omega)
    have w2 : IntKind.i64.wrap (most - n) = most - n := wrap_i64 (by omega) (by omega)
    have w3 : IntKind.i64.wrap (most + more - n) = most + more - n := wrap_i64 (by omega) (by omega)
    have w4 : IntKind.i64.wrap (most + more - (n + more)) = most + more - (n + more) := wrap_i64 (by omega) (by omega)
    have w5 : IntKind.i64.wrap (n - T os) = n - T os := wrap_i64 (by omega) (by omega)
    have w6 : IntKind.i64.wrap (n - T os + M os) = n - T os + M os := wrap_i64 (by omega) (by omega)
    simp only [fitsF, h0, ne_eq, not_true_eq_false, if_false, eT, eM, w1, w2, w3, w4, w5, w6]
    by_cases c1 : T os > n
    · have q1 : n < 1 ∨ n > most ∨ T os > n := by omega
      have q2 : n < 1 ∨ n > most + more ∨ T os > n := by omega
      simp only [q1, q2, if_true]
      exact ⟨fun _ => .inl (by trivial), fun h => by omega⟩
    · have q1 : ¬ (n < 1 ∨ n > most ∨ T os > n) := by omega
      have q2 : ¬ (n < 1 ∨ n > most + more ∨ T os > n) := by omega
      have q3 : ¬ (n + more < 1 ∨ n + more > most + more ∨ T os > n + more) := by omega
      simp only [q1, q2, q3, if_false]
      by_cases c2 : finalF 0 os n = false
      · simp only [c2, if_true]
        exact ⟨fun _ => .inl (by trivial), fun h => by omega⟩
      · simp only [c2, if_false]
        by_cases c3 : pl = false
        · simp only [c3, if_true]
          exact ⟨fun _ => .inl (by trivial), fun h => by omega⟩
        · have c4 : ¬ finalF 0 os (n + more) = false := by
            rcases Int.lt_or_le 0 more with hp | hp
            · rw [final_past hok (by omega) (by omega) (by omega)]; simp
            · rw [show n + more = n by omega]; exact c2
          simp only [c3, c4, if_false, Bool.false_eq_true]
          by_cases c5 : M os - T os > most - n
          · simp only [c5, if_true]
            refine ⟨fun _ => ?_, fun h => by omega⟩
            by_cases c6 : M os - T os > most + more - n
            · simp only [c6, if_true]; exact .inl (by trivial)
            · simp only [c6, if_false]; exact .inr ⟨rfl, rfl⟩
          · have c6 : ¬ M os - T os > most + more - n := by omega
            have c7 : ¬ M os - T os > most + more - (n + more) := by omega
            simp only [c5, c6, c7, if_false]
            refine ⟨fun h => absurd rfl h, fun _ => ⟨rfl, rfl, ?_, by omega⟩⟩
            rcases Int.lt_or_le 0 (n - T os + M os) with hp | hp
            · omega
            · exfalso
              have hne : os ≠ [] := by
                rintro rfl
                simp [T, M] at hp
                omega
              exact c2 (final_all hok (by omega) (by omega) hne (by omega) (by omega))
  · simp only [fitsF, h0, ne_eq, not_false_eq_true, if_true]
    exact ⟨fun _ => .inl (by trivial), fun h => by simp_all⟩
end Go.Proofs.YtbadbkdpnbacnaaDoor.Fw

/- OpsFits: the walk. No condition but what utf8.Valid answers and what slices.SortFunc leaves, which are hypotheses here. Parts of it printed by a program. -/
namespace Go.Proofs.YtbadbkdpnbacnaaDoor.Fw
open Go
set_option linter.unusedSimpArgs false
set_option linter.unusedVariables false
variable {vU : ByteArray → Bool}

set_option maxRecDepth 40000 in
set_option maxHeartbeats 4000000 in
theorem opsFits_calls (hU : ValidIs vU) (hS : SortIs) {keys x : V} {H : Heap} {ks : List KeyA} {os : List OpA} (hT : Tabs H) (hk : SL H keys 6 (ks.map KeyA.cells)) (hkl : ks.length ≤ big) (hx : OpsIn H x os) (n most more : Int) :
    SCalls PP 3 [keys, x, .int .i64 n, .int .i64 most, .int .i64 more] H fun r H' => r = .bool true := by
  refine SCalls.go c3 (by simp [fn3]) fun hw => ?_
  have hxo : x.one = true ∧ x.cells = [x] := by
    rcases hx.sl.2 with ⟨rfl, _⟩ | ⟨_, _, _, rfl, _⟩ <;> exact ⟨rfl, rfl⟩
  have hbs : exec (.bsl 1 1 [.nils] [(0, 1)]) [x] H = some (.slice H.next 0 1 (some 1), H.new (.row false 1 [x])) := by
    have hf : fillA [V.nils] [((0, 1), x)] = some [x] := by
      simp only [fillA, hxo.2]
      rfl
    simp only [exec, List.length_cons, List.length_nil, if_true, List.zip_cons_cons, List.zip_nil_right, hf, Option.bind_some, List.all_cons, hxo.1, List.all_nil, Bool.and_self]
  have hx1 : Ext H (H.new (.row false 1 [x])) := (Ext.refl H).new _
  have hw1 : WF (H.new (.row false 1 [x])) := hw.new _
  have hown : Own (H.new (.row false 1 [x])) H.next 1 [[x]] := ⟨Nat.lt_succ_self _, new_get _ _, by simp [hxo.1]⟩
  have hy : SL (H.new (.row false 1 [x])) (.slice H.next 0 1 (some 1)) 1 [[x]] := hown.sl (some 1)
  generalize hG : H.new (.row false 1 [x]) = G1 at *
  simp only [fn3, enterFr, List.length, List.range, List.range.loop, List.zip, List.zipWith, stp, if_true, if_false, Int.reduceEq, Int.reduceLT, Int.reduceLE, Int.reduceGT, Int.reduceGE, reduceCtorEq, Nat.reduceEqDiff, List.getElem?_cons_zero, List.getElem?_cons_succ, Option.map_some, hbs]
  refine SCalls.mono (great1_calls (hk.ext hx1) (by rw [List.length_map]; exact hkl) (hx.ext hx1) hy) ?_
  rintro r H2 ⟨rfl, b, rfl, _⟩
  cases b with
  | true =>
    simp only [stp, if_true, if_false, Int.reduceEq, Int.reduceLT, Int.reduceLE, Int.reduceGT, Int.reduceGE, reduceCtorEq, Nat.reduceEqDiff, List.getElem?_cons_zero, List.getElem?_cons_succ, Option.map_some, Bool.false_eq_true]
    refine SCalls.mono (known_calls _) ?_
    rintro r H9 ⟨rfl, rfl⟩
    simp only [stp, if_true, if_false, Int.reduceEq, Int.reduceLT, Int.reduceLE, Int.reduceGT, Int.reduceGE, reduceCtorEq, Nat.reduceEqDiff, List.getElem?_cons_zero, List.getElem?_cons_succ, Option.map_some]
  | false =>
    by_cases c1 : n < 1
    · simp only [stp, if_true, if_false, Int.reduceEq, Int.reduceLT, Int.reduceLE, Int.reduceGT, Int.reduceGE, reduceCtorEq, Nat.reduceEqDiff, List.getElem?_cons_zero, List.getElem?_cons_succ, Option.map_some, c1, Bool.false_eq_true]
      refine SCalls.mono (known_calls _) ?_
      rintro r H9 ⟨rfl, rfl⟩
      simp only [stp, if_true, if_false, Int.reduceEq, Int.reduceLT, Int.reduceLE, Int.reduceGT, Int.reduceGE, reduceCtorEq, Nat.reduceEqDiff, List.getElem?_cons_zero, List.getElem?_cons_succ, Option.map_some]
    by_cases c2 : n > 1073741824
    · simp only [stp, if_true, if_false, Int.reduceEq, Int.reduceLT, Int.reduceLE, Int.reduceGT, Int.reduceGE, reduceCtorEq, Nat.reduceEqDiff, List.getElem?_cons_zero, List.getElem?_cons_succ, Option.map_some, c1, c2, Bool.false_eq_true]
      refine SCalls.mono (known_calls _) ?_
      rintro r H9 ⟨rfl, rfl⟩
      simp only [stp, if_true, if_false, Int.reduceEq, Int.reduceLT, Int.reduceLE, Int.reduceGT, Int.reduceGE, reduceCtorEq, Nat.reduceEqDiff, List.getElem?_cons_zero, List.getElem?_cons_succ, Option.map_some]
    by_cases c3 : most < n
    · simp only [stp, if_true, if_false, Int.reduceEq, Int.reduceLT, Int.reduceLE, Int.reduceGT, Int.reduceGE, reduceCtorEq, Nat.reduceEqDiff, List.getElem?_cons_zero, List.getElem?_cons_succ, Option.map_some, c1, c2, c3, Bool.false_eq_true]
      refine SCalls.mono (known_calls _) ?_
      rintro r H9 ⟨rfl, rfl⟩
      simp only [stp, if_true, if_false, Int.reduceEq, Int.reduceLT, Int.reduceLE, Int.reduceGT, Int.reduceGE, reduceCtorEq, Nat.reduceEqDiff, List.getElem?_cons_zero, List.getElem?_cons_succ, Option.map_some]
    by_cases c4 : most > 1073741824
    · simp only [stp, if_true, if_false, Int.reduceEq, Int.reduceLT, Int.reduceLE, Int.reduceGT, Int.reduceGE, reduceCtorEq, Nat.reduceEqDiff, List.getElem?_cons_zero, List.getElem?_cons_succ, Option.map_some, c1, c2, c3, c4, Bool.false_eq_true]
      refine SCalls.mono (known_calls _) ?_
      rintro r H9 ⟨rfl, rfl⟩
      simp only [stp, if_true, if_false, Int.reduceEq, Int.reduceLT, Int.reduceLE, Int.reduceGT, Int.reduceGE, reduceCtorEq, Nat.reduceEqDiff, List.getElem?_cons_zero, List.getElem?_cons_succ, Option.map_some]
    by_cases c5 : more < 0
    · simp only [stp, if_true, if_false, Int.reduceEq, Int.reduceLT, Int.reduceLE, Int.reduceGT, Int.reduceGE, reduceCtorEq, Nat.reduceEqDiff, List.getElem?_cons_zero, List.getElem?_cons_succ, Option.map_some, c1, c2, c3, c4, c5, Bool.false_eq_true]
      refine SCalls.mono (known_calls _) ?_
      rintro r H9 ⟨rfl, rfl⟩
      simp only [stp, if_true, if_false, Int.reduceEq, Int.reduceLT, Int.reduceLE, Int.reduceGT, Int.reduceGE, reduceCtorEq, Nat.reduceEqDiff, List.getElem?_cons_zero, List.getElem?_cons_succ, Option.map_some]
    by_cases c6 : more > 1073741824
    · simp only [stp, if_true, if_false, Int.reduceEq, Int.reduceLT, Int.reduceLE, Int.reduceGT, Int.reduceGE, reduceCtorEq, Nat.reduceEqDiff, List.getElem?_cons_zero, List.getElem?_cons_succ, Option.map_some, c1, c2, c3, c4, c5, c6, Bool.false_eq_true]
      refine SCalls.mono (known_calls _) ?_
      rintro r H9 ⟨rfl, rfl⟩
      simp only [stp, if_true, if_false, Int.reduceEq, Int.reduceLT, Int.reduceLE, Int.reduceGT, Int.reduceGE, reduceCtorEq, Nat.reduceEqDiff, List.getElem?_cons_zero, List.getElem?_cons_succ, Option.map_some]
    simp only [stp, if_true, if_false, Int.reduceEq, Int.reduceLT, Int.reduceLE, Int.reduceGT, Int.reduceGE, reduceCtorEq, Nat.reduceEqDiff, List.getElem?_cons_zero, List.getElem?_cons_succ, Option.map_some, c1, c2, c3, c4, c5, c6, Bool.false_eq_true]
    refine SCalls.mono (new_calls hS (hk.ext hx1) hkl) ?_
    rintro r H3 ⟨hx3, hw3, ⟨s, rfl⟩ | ⟨s, rfl, hs⟩⟩
    · simp only [stp, if_true, if_false, Int.reduceEq, Int.reduceLT, Int.reduceLE, Int.reduceGT, Int.reduceGE, reduceCtorEq, Nat.reduceEqDiff, List.getElem?_cons_zero, List.getElem?_cons_succ, Option.map_some, Bool.false_eq_true]
      refine SCalls.mono (known_calls _) ?_
      rintro r H9 ⟨rfl, rfl⟩
      simp only [stp, if_true, if_false, Int.reduceEq, Int.reduceLT, Int.reduceLE, Int.reduceGT, Int.reduceGE, reduceCtorEq, Nat.reduceEqDiff, List.getElem?_cons_zero, List.getElem?_cons_succ, Option.map_some]
    have hx13 := hx1.trans hx3
    have hT3 := hT.ext hx13
    have hx3' := hx.ext hx13
    have hpl := inPlace_calls hs hx3'
    simp only [stp, if_true, if_false, Int.reduceEq, Int.reduceLT, Int.reduceLE, Int.reduceGT, Int.reduceGE, reduceCtorEq, Nat.reduceEqDiff, List.getElem?_cons_zero, List.getElem?_cons_succ, Option.map_some, Bool.false_eq_true]
    have a1 : IntKind.i64.wrap (most + more) = most + more := wrap_i64 (by omega) (by omega)
    have a2 : IntKind.i64.wrap (n + more) = n + more := wrap_i64 (by omega) (by omega)
    obtain ⟨law1, law2⟩ := fits_law (vU := vU) (ks := ks) (pl := placeF ks os) hx.len (n := n) (most := most) (more := more) (by omega) (by omega) (by omega) (by omega) (by omega) (by omega)
    refine SCalls.mono (fits_calls hU hT3 hs hx3' hpl n most) ?_
    rintro r H4 ⟨rfl, rfl⟩
    simp only [stp, if_true, if_false, Int.reduceEq, Int.reduceLT, Int.reduceLE, Int.reduceGT, Int.reduceGE, reduceCtorEq, Nat.reduceEqDiff, List.getElem?_cons_zero, List.getElem?_cons_succ, Option.map_some, a1]
    refine SCalls.mono (fits_calls hU hT3 hs hx3' hpl n (most + more)) ?_
    rintro r H5 ⟨rfl, rfl⟩
    simp only [stp, if_true, if_false, Int.reduceEq, Int.reduceLT, Int.reduceLE, Int.reduceGT, Int.reduceGE, reduceCtorEq, Nat.reduceEqDiff, List.getElem?_cons_zero, List.getElem?_cons_succ, Option.map_some, a1, a2]
    refine SCalls.mono (fits_calls hU hT3 hs hx3' hpl (n + more) (most + more)) ?_
    rintro r H6 ⟨rfl, rfl⟩
    generalize fitsF vU ks (placeF ks os) os n most = f at *
    generalize fitsF vU ks (placeF ks os) os n (most + more) = g at *
    generalize fitsF vU ks (placeF ks os) os (n + more) (most + more) = h at *
    by_cases f0 : f = 0
    · obtain ⟨g0, h0, k1, k2⟩ := law2 f0
      simp only [stp, if_true, if_false, Int.reduceEq, Int.reduceLT, Int.reduceLE, Int.reduceGT, Int.reduceGE, reduceCtorEq, Nat.reduceEqDiff, List.getElem?_cons_zero, List.getElem?_cons_succ, Option.map_some, f0, Bool.false_eq_true]
      refine SCalls.mono (takes_calls hx3') ?_
      rintro r H7 ⟨rfl, rfl⟩
      simp only [stp, if_true, if_false, Int.reduceEq, Int.reduceLT, Int.reduceLE, Int.reduceGT, Int.reduceGE, reduceCtorEq, Nat.reduceEqDiff, List.getElem?_cons_zero, List.getElem?_cons_succ, Option.map_some]
      refine SCalls.mono (makes_calls hx3') ?_
      rintro r H8 ⟨rfl, rfl⟩
      have k1' : IntKind.i64.wrap (IntKind.i64.wrap (n - takesF 0 os) + makesF 0 os) ≥ 1 := k1
      simp only [stp, if_true, if_false, Int.reduceEq, Int.reduceLT, Int.reduceLE, Int.reduceGT, Int.reduceGE, reduceCtorEq, Nat.reduceEqDiff, List.getElem?_cons_zero, List.getElem?_cons_succ, Option.map_some, g0, h0, k1', k2, Bool.false_eq_true]
      refine SCalls.mono (known_calls _) ?_
      rintro r H9 ⟨rfl, rfl⟩
      simp only [stp, if_true, if_false, Int.reduceEq, Int.reduceLT, Int.reduceLE, Int.reduceGT, Int.reduceGE, reduceCtorEq, Nat.reduceEqDiff, List.getElem?_cons_zero, List.getElem?_cons_succ, Option.map_some]
    · by_cases fg : g = f
      · simp only [stp, if_true, if_false, Int.reduceEq, Int.reduceLT, Int.reduceLE, Int.reduceGT, Int.reduceGE, reduceCtorEq, Nat.reduceEqDiff, List.getElem?_cons_zero, List.getElem?_cons_succ, Option.map_some, f0, fg, Bool.false_eq_true]
        refine SCalls.mono (known_calls _) ?_
        rintro r H9 ⟨rfl, rfl⟩
        simp only [stp, if_true, if_false, Int.reduceEq, Int.reduceLT, Int.reduceLE, Int.reduceGT, Int.reduceGE, reduceCtorEq, Nat.reduceEqDiff, List.getElem?_cons_zero, List.getElem?_cons_succ, Option.map_some]
      · obtain ⟨f8, g0⟩ := (law1 f0).resolve_left fg
        subst f8 g0
        simp only [stp, if_true, if_false, Int.reduceEq, Int.reduceLT, Int.reduceLE, Int.reduceGT, Int.reduceGE, reduceCtorEq, Nat.reduceEqDiff, List.getElem?_cons_zero, List.getElem?_cons_succ, Option.map_some, Bool.false_eq_true]
        refine SCalls.mono (known_calls _) ?_
        rintro r H9 ⟨rfl, rfl⟩
        simp only [stp, if_true, if_false, Int.reduceEq, Int.reduceLT, Int.reduceLE, Int.reduceGT, Int.reduceGE, reduceCtorEq, Nat.reduceEqDiff, List.getElem?_cons_zero, List.getElem?_cons_succ, Option.map_some]


end Go.Proofs.YtbadbkdpnbacnaaDoor.Fw

/- What a reading of the arguments tells, in the program's own types. No condition. -/
namespace Go.Proofs.YtbadbkdpnbacnaaDoor.Fw
open Go
set_option linter.unusedSimpArgs false
set_option linter.unusedVariables false
set_option maxRecDepth 100000

theorem cl3 : PP.cellsOf 3 = 1 := by kernel_rfl
theorem cl4 : PP.cellsOf 4 = 1 := by kernel_rfl
theorem cl5 : PP.cellsOf 5 = 1 := by kernel_rfl
theorem cl53 : PP.cellsOf 53 = 6 := by kernel_rfl
theorem good_int {P : Program} {B n : Nat} {G : Heap} {t : TypeId} {k : IntKind} {vs : List V} (hu : P.underlying t = some (.int k)) (h : GoodT P B G (n + 1) t vs) : ∃ i, vs = [.int k i] ∧ (Lit.int k i).wf = true := by
  simp only [GoodT, hu] at h; exact h
theorem good_bool {P : Program} {B n : Nat} {G : Heap} {t : TypeId} {vs : List V} (hu : P.underlying t = some .bool) (h : GoodT P B G (n + 1) t vs) : ∃ b, vs = [.bool b] := by
  simp only [GoodT, hu] at h; exact h
theorem good_struct {P : Program} {B n : Nat} {G : Heap} {t : TypeId} {fs : Array Field} {vs : List V} (hu : P.underlying t = some (.struct fs)) (h : GoodT P B G (n + 1) t vs) :
    vs.length = P.cellsOf t ∧ ∀ f ∈ fs.toList, GoodT P B G n f.type ((vs.drop f.offset).take (P.cellsOf f.type)) := by
  simp only [GoodT, hu] at h; exact h
theorem key_of {B n : Nat} {G : Heap} {l : List V} (h : GoodT PP B G (n + 2) 53 l) : ∃ k : KeyA, l = k.cells := by
  obtain ⟨hl, hf⟩ := good_struct Tryd.underlying53 h
  rw [cl53] at hl
  match l, hl with
  | [a, b, c, d, e, f], _ =>
    have g0 : GoodT PP B G (n + 1) 3 (([a, b, c, d, e, f].drop 0).take (PP.cellsOf 3)) := hf ⟨ "ID", 3, 0, false, "", "", 0⟩ (by simp)
    have g1 : GoodT PP B G (n + 1) 4 (([a, b, c, d, e, f].drop 1).take (PP.cellsOf 4)) := hf ⟨ "Block", 4, 1, false, "", "", 8⟩ (by simp)
    have g2 : GoodT PP B G (n + 1) 5 (([a, b, c, d, e, f].drop 2).take (PP.cellsOf 5)) := hf ⟨ "Kind", 5, 2, false, "", "", 9⟩ (by simp)
    have g3 : GoodT PP B G (n + 1) 4 (([a, b, c, d, e, f].drop 3).take (PP.cellsOf 4)) := hf ⟨ "After", 4, 3, false, "", "", 10⟩ (by simp)
    have g4 : GoodT PP B G (n + 1) 4 (([a, b, c, d, e, f].drop 4).take (PP.cellsOf 4)) := hf ⟨ "Before", 4, 4, false, "", "", 11⟩ (by simp)
    have g5 : GoodT PP B G (n + 1) 3 (([a, b, c, d, e, f].drop 5).take (PP.cellsOf 3)) := hf ⟨ "Group", 3, 5, false, "", "", 16⟩ (by simp)
    rw [cl3] at g0 g5
    rw [cl4] at g1 g3 g4
    rw [cl5] at g2
    obtain ⟨i0, e0, _⟩ := good_int Tryd.underlying3 g0
    obtain ⟨i1, e1⟩ := good_bool Tryd.underlying4 g1
    obtain ⟨i2, e2, _⟩ := good_int Tryd.underlying5 g2
    obtain ⟨i3, e3⟩ := good_bool Tryd.underlying4 g3
    obtain ⟨i4, e4⟩ := good_bool Tryd.underlying4 g4
    obtain ⟨i5, e5, _⟩ := good_int Tryd.underlying3 g5
    simp only [List.drop_zero, List.drop_succ_cons, List.take_succ_cons, List.take_zero, List.cons.injEq, and_true] at e0 e1 e2 e3 e4 e5
    exact ⟨⟨i0, i1, i2, i3, i4, i5⟩, by simp [KeyA.cells, e0, e1, e2, e3, e4, e5]⟩
theorem keys_of {B n : Nat} {G : Heap} : ∀ {ls : List (List V)}, (∀ l ∈ ls, GoodT PP B G (n + 2) 53 l) → ∃ ks : List KeyA, ls = ks.map KeyA.cells
  | [], h => ⟨[], rfl⟩
  | l :: ls, h => by
    obtain ⟨k, rfl⟩ := key_of (h l (by simp))
    obtain ⟨ks, rfl⟩ := keys_of (ls := ls) fun q hq => h q (List.mem_cons_of_mem _ hq)
    exact ⟨k :: ks, rfl⟩
end Go.Proofs.YtbadbkdpnbacnaaDoor.Fw

/- What a reading of the arguments tells: deltas. No condition. -/
namespace Go.Proofs.YtbadbkdpnbacnaaDoor.Fw
open Go
set_option linter.unusedSimpArgs false
set_option linter.unusedVariables false
set_option maxRecDepth 100000

theorem cl2 : PP.cellsOf 2 = 1 := by kernel_rfl
theorem cl34 : PP.cellsOf 34 = 1 := by kernel_rfl
theorem cl9 : PP.cellsOf 9 = 1 := by kernel_rfl
theorem cl71 : PP.cellsOf 71 = 4 := by kernel_rfl
theorem cl73 : PP.cellsOf 73 = 5 := by kernel_rfl
theorem cl93 : PP.cellsOf 93 = 6 := by kernel_rfl
theorem cl41 : PP.cellsOf 41 = 5 := by kernel_rfl
theorem cl37 : PP.cellsOf 37 = 1 := by kernel_rfl
theorem cl38 : PP.cellsOf 38 = 1 := by kernel_rfl
theorem cl39 : PP.cellsOf 39 = 1 := by kernel_rfl
theorem cl21 : PP.cellsOf 21 = 1 := by kernel_rfl
theorem good_str {P : Program} {B n : Nat} {G : Heap} {t : TypeId} {vs : List V} (hu : P.underlying t = some .string) (h : GoodT P B G (n + 1) t vs) : ∃ s, vs = [.str s] ∧ s.size ≤ B := by
  simp only [GoodT, hu] at h; exact h
theorem good_slice {P : Program} {B n : Nat} {G : Heap} {t e : TypeId} {vs : List V} (hu : P.underlying t = some (.slice e)) (h : GoodT P B G (n + 1) t vs) :
    ∃ v ls, vs = [v] ∧ SL G v (P.cellsOf e) ls ∧ ls.length ≤ B ∧ ∀ l ∈ ls, GoodT P B G n e l := by
  simp only [GoodT, hu] at h; exact h
theorem val_of {B n : Nat} {G : Heap} {l : List V} (h : GoodT PP B G (n + 2) 71 l) : ∃ v : ValA, l = v.cells ∧ v.s.size ≤ B := by
  obtain ⟨hl, hf⟩ := good_struct Tryd.underlying71 h
  rw [cl71] at hl
  match l, hl with
  | [a, b, c, d], _ =>
    have g0 : GoodT PP B G (n + 1) 5 (([a, b, c, d].drop 0).take (PP.cellsOf 5)) := hf ⟨ "Kind", 5, 0, false, "", "", 0⟩ (by simp)
    have g1 : GoodT PP B G (n + 1) 2 (([a, b, c, d].drop 1).take (PP.cellsOf 2)) := hf ⟨ "N", 2, 1, false, "", "", 8⟩ (by simp)
    have g2 : GoodT PP B G (n + 1) 34 (([a, b, c, d].drop 2).take (PP.cellsOf 34)) := hf ⟨ "F", 34, 2, false, "", "", 16⟩ (by simp)
    have g3 : GoodT PP B G (n + 1) 9 (([a, b, c, d].drop 3).take (PP.cellsOf 9)) := hf ⟨ "S", 9, 3, false, "", "", 24⟩ (by simp)
    rw [cl5] at g0
    rw [cl2] at g1
    rw [cl34] at g2
    rw [cl9] at g3
    obtain ⟨i0, e0, _⟩ := good_int Tryd.underlying5 g0
    obtain ⟨i1, e1, _⟩ := good_int Tryd.underlying2 g1
    obtain ⟨i2, e2, _⟩ := good_int Tryd.underlying34 g2
    obtain ⟨i3, e3, hs⟩ := good_str Tryd.underlying9 g3
    simp only [List.drop_zero, List.drop_succ_cons, List.take_succ_cons, List.take_zero, List.cons.injEq, and_true] at e0 e1 e2 e3
    exact ⟨⟨i0, i1, i2, i3⟩, by simp [ValA.cells, e0, e1, e2, e3], hs⟩
theorem attr_of {B n : Nat} {G : Heap} {l : List V} (h : GoodT PP B G (n + 3) 73 l) : ∃ a : AttrA, l = a.cells ∧ a.val.s.size ≤ B := by
  obtain ⟨hl, hf⟩ := good_struct Tryd.underlying73 h
  rw [cl73] at hl
  match l, hl with
  | a :: vs, hl =>
    have g0 : GoodT PP B G (n + 2) 3 (((a :: vs).drop 0).take (PP.cellsOf 3)) := hf ⟨ "Key", 3, 0, false, "", "", 0⟩ (by simp)
    have g1 : GoodT PP B G (n + 2) 71 (((a :: vs).drop 1).take (PP.cellsOf 71)) := hf ⟨ "Value", 71, 1, false, "", "", 8⟩ (by simp)
    rw [cl3] at g0
    rw [cl71] at g1
    obtain ⟨i0, e0, _⟩ := good_int Tryd.underlying3 g0
    obtain ⟨v, e1, hs⟩ := val_of g1
    simp only [List.drop_zero, List.drop_succ_cons, List.take_succ_cons, List.take_zero, List.cons.injEq, and_true] at e0 e1
    rw [List.take_of_length_le (by simp at hl; omega)] at e1
    exact ⟨⟨i0, v⟩, by rw [e0, e1]; rfl, hs⟩
theorem chg_of {B n : Nat} {G : Heap} {l : List V} (h : GoodT PP B G (n + 3) 93 l) : ∃ c : ChgA, l = c.cells ∧ c.val.s.size ≤ B := by
  obtain ⟨hl, hf⟩ := good_struct Tryd.underlying93 h
  rw [cl93] at hl
  match l, hl with
  | a :: b :: vs, hl =>
    have g0 : GoodT PP B G (n + 2) 3 (((a :: b :: vs).drop 0).take (PP.cellsOf 3)) := hf ⟨ "Key", 3, 0, false, "", "", 0⟩ (by simp)
    have g1 : GoodT PP B G (n + 2) 4 (((a :: b :: vs).drop 1).take (PP.cellsOf 4)) := hf ⟨ "Gone", 4, 1, false, "", "", 8⟩ (by simp)
    have g2 : GoodT PP B G (n + 2) 71 (((a :: b :: vs).drop 2).take (PP.cellsOf 71)) := hf ⟨ "Value", 71, 2, false, "", "", 16⟩ (by simp)
    rw [cl3] at g0
    rw [cl4] at g1
    rw [cl71] at g2
    obtain ⟨i0, e0, _⟩ := good_int Tryd.underlying3 g0
    obtain ⟨i1, e1⟩ := good_bool Tryd.underlying4 g1
    obtain ⟨v, e2, hs⟩ := val_of g2
    simp only [List.drop_zero, List.drop_succ_cons, List.take_succ_cons, List.take_zero, List.cons.injEq, and_true] at e0 e1 e2
    rw [List.take_of_length_le (by simp at hl; omega)] at e2
    exact ⟨⟨i0, i1, v⟩, by rw [e0, e1, e2]; rfl, hs⟩
theorem list_of {α : Type} {G : List V → Prop} {cells : α → List V} {R : α → Prop} (h : ∀ l, G l → ∃ a, l = cells a ∧ R a) : ∀ {ls : List (List V)}, (∀ l ∈ ls, G l) → ∃ xs : List α, ls = xs.map cells ∧ ∀ a ∈ xs, R a
  | [], _ => ⟨[], rfl, by simp⟩
  | l :: ls, hl => by
    obtain ⟨a, rfl, ha⟩ := h l (hl l (by simp))
    obtain ⟨b, rfl, hb⟩ := list_of h (ls := ls) fun q hq => hl q (List.mem_cons_of_mem _ hq)
    exact ⟨a :: b, rfl, fun q hq => by
      rcases List.mem_cons.1 hq with rfl | hq
      · exact ha
      · exact hb q hq⟩
theorem op_of {n : Nat} {G : Heap} {l : List V} (h : GoodT PP big G (n + 5) 41 l) : ∃ o : OpA, l = o.cells ∧ o.In G := by
  obtain ⟨hl, hf⟩ := good_struct Tryd.underlying41 h
  rw [cl41] at hl
  match l, hl with
  | [a, b, c, d, e], _ =>
    have g0 : GoodT PP big G (n + 4) 5 (([a, b, c, d, e].drop 0).take (PP.cellsOf 5)) := hf ⟨ "Kind", 5, 0, false, "", "", 0⟩ (by simp)
    have g1 : GoodT PP big G (n + 4) 3 (([a, b, c, d, e].drop 1).take (PP.cellsOf 3)) := hf ⟨ "N", 3, 1, false, "", "", 8⟩ (by simp)
    have g2 : GoodT PP big G (n + 4) 37 (([a, b, c, d, e].drop 2).take (PP.cellsOf 37)) := hf ⟨ "Runes", 37, 2, false, "", "", 16⟩ (by simp)
    have g3 : GoodT PP big G (n + 4) 38 (([a, b, c, d, e].drop 3).take (PP.cellsOf 38)) := hf ⟨ "Set", 38, 3, false, "", "", 40⟩ (by simp)
    have g4 : GoodT PP big G (n + 4) 39 (([a, b, c, d, e].drop 4).take (PP.cellsOf 39)) := hf ⟨ "Patch", 39, 4, false, "", "", 64⟩ (by simp)
    rw [cl5] at g0
    rw [cl3] at g1
    rw [cl37] at g2
    rw [cl38] at g3
    rw [cl39] at g4
    obtain ⟨i0, e0, _⟩ := good_int Tryd.underlying5 g0
    obtain ⟨i1, e1, w1⟩ := good_int Tryd.underlying3 g1
    obtain ⟨v2, l2, e2, s2, n2, k2⟩ := good_slice Tryd.underlying37 g2
    obtain ⟨v3, l3, e3, s3, n3, k3⟩ := good_slice Tryd.underlying38 g3
    obtain ⟨v4, l4, e4, s4, n4, k4⟩ := good_slice Tryd.underlying39 g4
    simp only [List.drop_zero, List.drop_succ_cons, List.take_succ_cons, List.take_zero, List.cons.injEq, and_true] at e0 e1 e2 e3 e4
    obtain ⟨rs, rfl, _⟩ := list_of (α := Int) (cells := fun r => [V.int .i32 r]) (R := fun _ => True) (fun l hl => by obtain ⟨i, hi, _⟩ := good_int Tryd.underlying21 hl; exact ⟨i, hi, trivial⟩) k2
    obtain ⟨ats, rfl, ra⟩ := list_of (fun l hl => attr_of (n := n) hl) k3
    obtain ⟨chs, rfl, rc⟩ := list_of (fun l hl => chg_of (n := n) hl) k4
    rw [cl21] at s2
    rw [cl73] at s3
    rw [cl93] at s4
    rw [List.length_map] at n2 n3 n4
    have hw : -9223372036854775808 ≤ i1 ∧ i1 ≤ 9223372036854775807 := by
      simp only [Lit.wf, Bool.and_eq_true, decide_eq_true_eq] at w1
      have h1 : IntKind.i64.min = -9223372036854775808 := by decide
      have h2 : IntKind.i64.max = 9223372036854775807 := by decide
      rw [h1, h2] at w1
      exact w1
    exact ⟨⟨i0, i1, v2, v3, v4, rs, ats, chs⟩, by simp [OpA.cells, e0, e1, e2, e3, e4], ⟨s2, s3, s4, n2, n3, n4, ra, rc, hw.1, hw.2⟩⟩
end Go.Proofs.YtbadbkdpnbacnaaDoor.Fw

/- OpsFits: the call at what a reading of the arguments tells. No condition but what utf8.Valid answers, what slices.SortFunc leaves and the tables, which are hypotheses here. -/
namespace Go.Proofs.YtbadbkdpnbacnaaDoor.Fw
open Go
set_option linter.unusedSimpArgs false
set_option linter.unusedVariables false
set_option maxRecDepth 100000
theorem opsFits_main {vU : ByteArray → Bool} (hU : ValidIs vU) (hS : SortIs) {G : Heap} (hT : Tabs G) {keys x : V} {ks os : List (List V)} (hk : SL G keys 6 ks) (hkl : ks.length ≤ big) (hkg : ∀ l ∈ ks, GoodT PP big G 9 53 l)
    (hx : SL G x 5 os) (hxl : os.length ≤ big) (hxg : ∀ l ∈ os, GoodT PP big G 9 41 l) (n most more : Int) :
    SCalls PP 3 [keys, x, .int .i64 n, .int .i64 most, .int .i64 more] G fun r H' => r = .bool true := by
  obtain ⟨ks, rfl⟩ := keys_of (n := 7) hkg
  obtain ⟨os, rfl, hin⟩ := list_of (fun l hl => op_of (n := 4) hl) hxg
  rw [List.length_map] at hkl hxl
  exact opsFits_calls hU hS hT hk hkl ⟨hx, hin, hxl⟩ n most more
end Go.Proofs.YtbadbkdpnbacnaaDoor.Fw

/- OpsFits: the frame. No condition. -/
namespace Go.Proofs.YtbadbkdpnbacnaaDoor.opsFits
open Go Go.ChangeShapes Go.WideShapes Go.ChangeAt Go.RowKit Go.Proofs.YtbadbkdpnbacnaaDoor.Fw
set_option linter.unusedSimpArgs false
set_option linter.unusedVariables false

set_option maxRecDepth 100000 in
theorem main {W : World} {B : Nat} (hB : B = 1048576) {keys x : V} {ks os : List (List V)} (hk : SL (hOf W) keys 6 ks) (hkl : ks.length ≤ B) (hkg : ∀ l ∈ ks, GoodT PP B (hOf W) 9 53 l)
    (hx : SL (hOf W) x 5 os) (hxl : os.length ≤ B) (hxg : ∀ l ∈ os, GoodT PP B (hOf W) 9 41 l) (n most more : Int) (wn : (Lit.int .i64 n).wf = true) (wm : (Lit.int .i64 most).wf = true) (wr : (Lit.int .i64 more).wf = true) (hL : laidMetH PP Rows.opsFitsRow.laid W) :
    SCalls PP 3 [keys, x, .int .i64 n, .int .i64 most, .int .i64 more] (hOf W) fun r H' => r = .bool true := by
  subst hB
  exact opsFits_main validIs sortIs (tabs_of hL) hk hkl hkg hx hxl hxg n most more

set_option maxRecDepth 100000 in
theorem contract (H : Type) (enc : TypeId × Value → H) (W : World) (base : Nat) (args : Array Value) (ds gs : List (DataW H)) (before : List MemPlace)
    (hval : ∀ (j : Nat) t v, Tryd.f3.params[j]? = some t → args[j]? = some v → Value.okWide Tryd.prog W .any base t v)
    (hW : DataW.Whole enc Tryd.prog Tryd.f3.params.toList Rows.opsFitsSpec.vars false W args.toList ds gs before) (hb : Rows.uptoBulkAll (ds ++ gs) ≤ 1048576) (hL : laidMetH Tryd.prog Rows.opsFitsRow.laid W) :
    Calls Tryd.prog 3 args W fun e W' => ∃ v, e = .returned v ∧ Rows.opsFitsSpec.post enc Tryd.prog Tryd.f3 false true false false W args v W' := by
  have hW' := hW
  obtain ⟨p, q, hA0, hV, rfl, hfz, hnd⟩ := hW
  have hA : DataW.TrodAll enc Tryd.prog W 0 (fun _ => true) true Tryd.f3.params.toList args.toList ds p := hA0
  rw [Tryd.params3] at hA hval
  obtain ⟨v0, vs0, d0, ds0, p0, q0, hargs, rfl, rfl, h0, r0⟩ := trodAll_cons hA
  obtain ⟨v1, vs1, d1, ds1, p1, q1, rfl, rfl, rfl, h1, r1⟩ := trodAll_cons r0
  obtain ⟨v2, vs2, d2, ds2, p2, q2, rfl, rfl, rfl, h2, r2⟩ := trodAll_cons r1
  obtain ⟨v3, vs3, d3, ds3, p3, q3, rfl, rfl, rfl, h3, r3⟩ := trodAll_cons r2
  obtain ⟨v4, vs4, d4, ds4, p4, q4, rfl, rfl, rfl, h4, r4⟩ := trodAll_cons r3
  obtain ⟨rfl, rfl, rfl⟩ := trodAll_nil r4
  obtain rfl : args = #[v0, v1, v2, v3, v4] := by cases args; simp_all
  obtain ⟨rfl, rfl⟩ := trodVars_none hV
  simp only [Rows.uptoBulkAll, List.append_nil] at hb
  have hlt : ∀ x ∈ p0 ++ (p1 ++ (p2 ++ (p3 ++ (p4 ++ [])))) ++ [], x.block < W.heap.size := fun x hx => by simpa using hW'.lt x hx
  obtain ⟨keys, ks, hkv, hks, hkl, hkg⟩ := arg_slice (n := 9) Tryd.underlying22 (by kernel_rfl) (hval 0 22 v0 rfl rfl) h0 (B := 1048576) (by omega)
  obtain ⟨x, os, hxv, hos, hol, hog⟩ := arg_slice (n := 9) Tryd.underlying23 (by kernel_rfl) (hval 1 23 v1 rfl rfl) h1 (B := 1048576) (by omega)
  have h0k := h0
  have h1k := h1
  obtain ⟨n, rfl, rfl, rfl, wn⟩ := open_int Tryd.underlying3 (hval 2 3 v2 rfl rfl) h2
  obtain ⟨most, rfl, rfl, rfl, wm⟩ := open_int Tryd.underlying3 (hval 3 3 v3 rfl rfl) h3
  obtain ⟨more, rfl, rfl, rfl, wr⟩ := open_int Tryd.underlying3 (hval 4 3 v4 rfl rfl) h4
  have walk := calls_of (main (W := W) rfl (keys := keys) (x := x) (ks := ks) (os := os) (by rw [show (6 : Nat) = PP.cellsOf 53 by kernel_rfl]; exact hks) hkl hkg (by rw [show (5 : Nat) = PP.cellsOf 41 by kernel_rfl]; exact hos) hol hog n most more wn wm wr hL)
    (.mk_cons hkv (.mk_cons hxv (.mk_cons (.mk_int _ _) (.mk_cons (.mk_int _ _) (.mk_cons (.mk_int _ _) .mk_nil)))))
  refine walk.mono fun e W' ⟨he, hB⟩ => ?_
  subst he
  refine ⟨_, rfl, _, _, _, [], p0 ++ (p1 ++ ([] ++ ([] ++ ([] ++ [])))), [], hW', trodAll_cons_mk (shut_bool Tryd.underlying4 _) trodAll_mk0, ?_, rfl, hB.frame _, fun h => by cases h⟩
  exact trodAll_cons_mk (Below.trod laidOut (by kernel_rfl) (of_decide_eq_true (by kernel_rfl)) h0k hB (fun x hx => hlt x (by simp [hx])))
    (trodAll_cons_mk (Below.trod laidOut (by kernel_rfl) (of_decide_eq_true (by kernel_rfl)) h1k hB (fun x hx => hlt x (by simp [hx])))
    (trodAll_cons_mk (shut_int Tryd.underlying3 wn) (trodAll_cons_mk (shut_int Tryd.underlying3 wm) (trodAll_cons_mk (shut_int Tryd.underlying3 wr) trodAll_mk0))))

/-- A WORLD FOR THE WITNESS. -/
def flatD : DataW Unit → List Value
  | .lit (.int k n) => [.int k n]
  | .agg l => flatDL l
  | _ => []
  where flatDL : List (DataW Unit) → List Value
  | [] => []
  | d :: l => flatD d ++ flatDL l
def setCells (l : List Value) : Obj → Obj
  | .cells _ t frozen => .cells l.toArray t frozen
  | o => o
noncomputable def laidWorld (os : Os) : World :=
  { World.holding Tryd.prog os ⟨#[], #[], []⟩ with heap := ((World.holding Tryd.prog os ⟨#[], #[], []⟩).heap.modify 1 (setCells (flatD Rows.laid_unicode_utf8_first))).modify 2 (setCells (flatD Rows.laid_unicode_utf8_acceptRanges)) }
def wargs : Array Value := #[.slice none 0 0, .slice none 0 0, .int .i64 0, .int .i64 0, .int .i64 0]
theorem laid_met (os : Os) : laidMet Tryd.prog Rows.opsFitsRow.laid ((laidWorld os).forCall (fun _ _ => 0) ⟨#[], wargs, []⟩).memory :=
  laidMet_of_run' 8 (by kernel_rfl) (by kernel_rfl)
theorem reads (os : Os) {H : Type} (enc : TypeId × Value → H) : ∃ places, DataW.whole enc Tryd.prog ((laidWorld os).forCall (fun _ _ => 0) ⟨#[], wargs, []⟩).memory Tryd.f3.params.toList Rows.opsFitsSpec.vars false wargs.toList 8 = some ([.nil, .nil, .lit (.int .i64 0), .lit (.int .i64 0), .lit (.int .i64 0)], [], places) :=
  ⟨[], by kernel_rfl⟩

set_option maxRecDepth 100000 in
theorem liftedUpto (os : Os) (started : os.Started) (H : Type) (enc : TypeId × Value → H) (F : Stop.Interp) :
    ReturnsInHanded {} Tryd.checked os 3 .any ((Rows.OpenSpec.upto Rows.opsFitsSpec).preRow enc Tryd.prog Tryd.f3 Rows.opsFitsUptoRow.domain false Rows.opsFitsUptoRow.laid) (((Rows.OpenSpec.upto Rows.opsFitsSpec).at F).post enc Tryd.prog Tryd.f3 false true false false) := by
  obtain ⟨places, hx⟩ := reads os enc
  refine returnsInHanded_of_row (C := Tryd.checked) (s := Rows.OpenSpec.upto Rows.opsFitsSpec) own started (by kernel_rfl) Tryd.func3
    (witness_row_at (enc := enc) (C := Tryd.checked) false (laidWorld os) wargs rfl (by kernel_rfl) (by kernel_rfl) (by kernel_rfl)
      (OpenSpec.preRow_of_cond 8 hx (by kernel_rfl) (fun k hk => (by cases hk; kernel_rfl)) (by kernel_rfl) (laid_met os))) ?_
  intro W base args ds gs before hval hW _ hcond _ hL _ _
  exact contract H enc W base args ds gs before hval hW (of_decide_eq_true (hcond _ rfl)) hL

theorem saidUpto : Rows.OpsFitsUptoSaid :=
  OpenClaim.holds_of_cond 3 Tryd.f3 rfl rfl rfl rfl rfl rfl rfl ⟨rfl, rfl, rfl, rfl, rfl⟩ rfl rfl rfl rfl rfl (by kernel_rfl) Tryd.func3 (by kernel_rfl)
    (of_decide_eq_true (by kernel_rfl)) (by unfold Func.isWrapper; first | (rw [if_pos (by decide +kernel)]; kernel_rfl) | (rw [if_neg (by decide +kernel)]; exact ⟨rfl, rfl⟩))
    (fun os started H enc _ F => by rw [OpenClaim.pre_eq_preRow]; exact liftedUpto os started H enc F)

theorem plain (f : FuncId) (fn : Func) (hf : Tryd.pinned.checked.prog.funcNamed "rubric/rubriclaw15.OpsFits" = some f) (hfn : Tryd.pinned.checked.prog.funcs[f]? = some fn) :
    false = Tryd.pinned.checked.prog.looks [] ∧ ∀ (j : Nat) t, fn.params[j]? = some t → Tryd.pinned.checked.prog.wantsStandIn t = false := by
  obtain rfl : f = 3 := Option.some.inj ((show Tryd.prog.funcNamed "rubric/rubriclaw15.OpsFits" = some 3 by kernel_rfl).symm.trans hf) |>.symm
  obtain rfl : fn = Tryd.f3 := (Option.some.inj (Tryd.func3.symm.trans hfn)).symm
  refine ⟨by kernel_rfl, fun j t ht => ?_⟩
  rw [Tryd.params3] at ht
  have hm : t ∈ #[22, 23, 3, 3, 3] := Array.mem_of_getElem? ht
  simp at hm
  rcases hm with rfl | rfl | rfl
  · exact (show Tryd.prog.wantsStandIn 22 = false by kernel_rfl)
  · exact (show Tryd.prog.wantsStandIn 23 = false by kernel_rfl)
  · exact (show Tryd.prog.wantsStandIn 3 = false by kernel_rfl)

/-- THE CARD. -/
theorem cardUpto : Rows.OpsFitsUptoCardSaid :=
  Claim7.holds_tied_plain_at .later [] _ _ _ _ saidUpto (fun _ h => by cases h) (by kernel_rfl) (fun _ h => by cases h) opsFitsUpto_row_tie rfl ⟨rfl, rfl⟩ (by kernel_rfl) rfl plain (by kernel_rfl)
end Go.Proofs.YtbadbkdpnbacnaaDoor.opsFits

