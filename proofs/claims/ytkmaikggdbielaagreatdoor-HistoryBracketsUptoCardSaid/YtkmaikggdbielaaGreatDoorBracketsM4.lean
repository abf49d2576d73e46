/- Part 4 of the proof. HistoryBrackets: what is pushed in a bracket is one group; a bracket with nothing is none, and leaves what can be done again; undo and redo are refused within; on the one condition that the arguments hold together at most 2^20 data, as the statement's own bound says. -/
import Derived.Test.YtkmaikggdbielaaGreatDoorBracketsM3

/- slices.Grow, slices.Concat, ops.Copy. No condition. Parts printed. -/
namespace Go.Proofs.YtkmaikggdbielaaGreatDoor.Fw
open Go
set_option linter.unusedSimpArgs false
set_option linter.unusedVariables false

theorem x_cap0 (H : Heap) : exec .cap [.nils] H = some (.int .i64 0, H) := rfl
theorem x_len0 (H : Heap) : exec .len [.nils] H = some (.int .i64 0, H) := rfl
theorem x_appz {n : Int} (h0 : 0 < n) (h1 : n ≤ 1048576) (H : Heap) : exec (.appz 5 88 zo) [.nils, .int .i64 n] H = some (.slice H.next 0 n.toNat none, H.new (.row false 5 (List.replicate n.toNat zo).flatten)) := by
  simp only [exec]
  rw [if_pos ⟨h0, by omega, by omega, rfl, rfl, by decide⟩]
set_option maxRecDepth 20000 in
theorem grow_calls {H : Heap} {n : Int} (h0 : 0 ≤ n) (h1 : n ≤ 1048576) : SCalls PP 124 [.nils, .int .i64 n] H fun r H' => Ext H H' ∧ WF H' ∧ ∃ k, Vec H' r 5 [] k ∧ ∀ j, k = some j → H.next ≤ j := by
  refine SCalls.go c124 (by simp [fn124]) fun hw => ?_
  have hlt : ¬ n < 0 := by omega
  have hs0 : ∀ G, exec (.slc 5 false true false) [.nils, .int .i64 0] G = some (.nils, G) := fun _ => rfl
  have w0 : IntKind.i64.wrap (0 - 0) = 0 := by decide
  have w1 : IntKind.i64.wrap (n - 0) = n := by rw [Int.sub_zero]; exact wrap_i64 (by omega) (by omega)
  by_cases hn : n > 0
  · have hz := x_appz (n := n) (by omega) h1 H
    have hg := new_get H (.row false 5 (List.replicate n.toNat zo).flatten)
    have hs := x_slc_hi (n := n.toNat) (i := 0) hg (Nat.zero_le _)
    have hs' : exec (.slc 5 false true false) [.slice H.next 0 n.toNat none, .int .i64 0] (H.new (.row false 5 (List.replicate n.toNat zo).flatten)) = some (.slice H.next 0 0 none, H.new (.row false 5 (List.replicate n.toNat zo).flatten)) := hs
    simp (maxSteps := 1000000) (implicitDefEqProofs := false) only [stp, if_true, if_false, Int.reduceEq, Int.reduceLT, Int.reduceLE, Int.reduceGT, Int.reduceGE, reduceCtorEq, Nat.reduceEqDiff, List.getElem?_cons_zero, List.getElem?_cons_succ, Option.map_some, fn124, enterFr, List.length, List.range, List.range.loop, List.zip, List.zipWith, hlt, x_cap0, x_len0, w0, w1, hn, hs0, hz, hs']
    refine ⟨(Ext.refl H).new _, hw.new _, some H.next, ⟨by simp, .inr (.inr (.inr ⟨rfl, H.next, _, rfl, Nat.lt_succ_self _, hg, ?_, rfl⟩))⟩, fun j e => by cases e; exact Nat.le_refl _⟩
    exact flatAll fun e he => by rw [List.eq_of_mem_replicate he]; rfl
  · simp (maxSteps := 1000000) (implicitDefEqProofs := false) only [stp, if_true, if_false, Int.reduceEq, Int.reduceLT, Int.reduceLE, Int.reduceGT, Int.reduceGE, reduceCtorEq, Nat.reduceEqDiff, List.getElem?_cons_zero, List.getElem?_cons_succ, Option.map_some, fn124, enterFr, List.length, List.range, List.range.loop, List.zip, List.zipWith, hlt, x_cap0, x_len0, w0, w1, hn]
    exact ⟨Ext.refl H, hw, none, Vec.nil _ _, fun j e => by cases e⟩

def lens (vs : List (V × List (List V))) : Nat := (vs.map fun q => q.2.length).sum
def joined (vs : List (V × List (List V))) : List (List V) := (vs.map fun q => q.2).flatten
theorem joined_len (vs : List (V × List (List V))) : (joined vs).length = lens vs := by simp [joined, lens, List.length_flatten, Function.comp_def]
theorem lens_take (vs : List (V × List (List V))) (k : Nat) : lens (vs.take k) ≤ lens vs := by
  have : lens vs = lens (vs.take k) + lens (vs.drop k) := by
    unfold lens
    rw [← List.sum_append, ← List.map_append, List.take_append_drop]
  omega
set_option maxRecDepth 20000 in
set_option maxHeartbeats 2000000 in
theorem concat_calls {H : Heap} {s : V} {vs : List (V × List (List V))} (hs : SL H s 1 (vs.map fun q => [q.1])) (hv : ∀ q ∈ vs, SL H q.1 5 q.2) (hl : lens vs ≤ big) (hl2 : vs.length ≤ big) :
    SCalls PP 107 [s] H fun r H' => Ext H H' ∧ WF H' ∧ ∃ k, Vec H' r 5 (joined vs) k ∧ (∀ j, k = some j → H.next ≤ j) ∧ (k = none → joined vs = []) := by
  refine SCalls.go c107 (by simp [fn107]) fun hw => ?_
  unfold big at hl hl2
  have hlen : ∀ G, exec .len [s] G = some (.int .i64 vs.length, G) := fun G => by have := hs.len (H' := G); rwa [List.length_map] at this
  simp (maxSteps := 1000000) (implicitDefEqProofs := false) only [stp, if_true, if_false, Int.reduceEq, Int.reduceLT, Int.reduceLE, Int.reduceGT, Int.reduceGE, reduceCtorEq, Nat.reduceEqDiff, List.getElem?_cons_zero, List.getElem?_cons_succ, Option.map_some, fn107, enterFr, List.length, List.range, List.range.loop, List.zip, List.zipWith, hlen]
  refine wp_range (len := vs.length) SCalls.scMono (by omega) (fun acc : Int => [(9, s), (0, s), (3, .int .i64 acc)]) (fun k acc H' => H' = H ∧ acc = lens (vs.take k)) 0 ⟨rfl, by simp [lens]⟩
    (.cons rfl (.cons rfl (.cons rfl (.cons rfl (.cons rfl .nil))))) (by decide) (fun s => ⟨rfl, rfl, rfl⟩) ?_ ?_
  · rintro k acc H' hk ⟨rfl, rfl⟩
    obtain ⟨i1, o1, ha1, ht1⟩ := hs.ia (H' := H') (i := k) (e := [vs[k].1]) (by rw [List.getElem?_map, List.getElem?_eq_getElem hk]; rfl) .i64
    have l1 := ht1.ld (j := 0) (v := vs[k].1) rfl 1
    rw [Nat.add_zero] at l1
    have hlk := (hv vs[k] (List.getElem_mem hk)).len (H' := H')
    have hsum : lens (vs.take (k + 1)) = lens (vs.take k) + vs[k].2.length := by
      rw [List.take_succ_eq_append_getElem hk]; unfold lens; rw [List.map_append, List.sum_append]; simp only [List.map_cons, List.map_nil, List.sum_cons, List.sum_nil, Nat.add_zero]
    have hle := lens_take vs (k + 1)
    have hwr : IntKind.i64.wrap ((lens (vs.take k) : Int) + vs[k].2.length) = ((lens (vs.take (k + 1)) : Nat) : Int) := by rw [wrap_i64 (by omega) (by omega)]; omega
    have hnn : ¬ (((lens (vs.take (k + 1)) : Nat) : Int) < 0) := by omega
    simp (maxSteps := 1000000) (implicitDefEqProofs := false) only [stp, if_true, if_false, Int.reduceEq, Int.reduceLT, Int.reduceLE, Int.reduceGT, Int.reduceGE, reduceCtorEq, Nat.reduceEqDiff, List.getElem?_cons_zero, List.getElem?_cons_succ, Option.map_some, ha1, l1, hlk, hwr, hnn]
    exact ⟨_, ⟨by trivial, rfl⟩, .cons rfl (.cons rfl (.cons rfl (.cons rfl (.cons rfl .nil))))⟩
  · rintro acc H' ⟨rfl, rfl⟩
    rw [List.take_length]
    simp (maxSteps := 1000000) (implicitDefEqProofs := false) only [stp, if_true, if_false, Int.reduceEq, Int.reduceLT, Int.reduceLE, Int.reduceGT, Int.reduceGE, reduceCtorEq, Nat.reduceEqDiff, List.getElem?_cons_zero, List.getElem?_cons_succ, Option.map_some, if_true]
    refine SCalls.mono (grow_calls (n := (lens vs : Int)) (by omega) (by omega)) ?_
    rintro r G ⟨hx, hwG, k0, hv0, hk0⟩
    simp (maxSteps := 1000000) (implicitDefEqProofs := false) only [stp, if_true, if_false, Int.reduceEq, Int.reduceLT, Int.reduceLE, Int.reduceGT, Int.reduceGE, reduceCtorEq, Nat.reduceEqDiff, List.getElem?_cons_zero, List.getElem?_cons_succ, Option.map_some, hlen]
    refine wp_range (len := vs.length) SCalls.scMono (by omega) (fun r : V => [(25, s), (6, r)]) (fun k r G => Ext H' G ∧ WF G ∧ ∃ kk, Vec G r 5 (joined (vs.take k)) kk ∧ (∀ j, kk = some j → H'.next ≤ j) ∧ (kk = none → joined (vs.take k) = [])) r ⟨hx, hwG, k0, by simpa [joined] using hv0, hk0, fun _ => by simp [joined]⟩
      (.cons rfl (.cons rfl (.cons rfl (.cons rfl .nil)))) (by decide) (fun s => ⟨rfl, rfl, rfl⟩) ?_ ?_
    · rintro k r G hk ⟨hx, hwG, kk, hvv, hkk, hk00⟩
      obtain ⟨i1, o1, ha1, ht1⟩ := (hs.ext hx).ia (H' := G) (i := k) (e := [vs[k].1]) (by rw [List.getElem?_map, List.getElem?_eq_getElem hk]; rfl) .i64
      have l1 := ht1.ld (j := 0) (v := vs[k].1) rfl 1
      rw [Nat.add_zero] at l1
      have hsk := (hv vs[k] (List.getElem_mem hk)).ext hx
      have hj : joined (vs.take (k + 1)) = joined (vs.take k) ++ vs[k].2 := by
        rw [List.take_succ_eq_append_getElem hk]; unfold joined; rw [List.map_append, List.flatten_append]; simp only [List.map_cons, List.map_nil, List.flatten_cons, List.flatten_nil, List.append_nil]
      have hle := lens_take vs (k + 1)
      rw [← joined_len, hj, List.length_append] at hle
      by_cases he : vs[k].2 = []
      · rw [he] at hsk
        obtain ⟨s1, s2⟩ := hsk.src0
        have ha := x_app0 (bytes := 88) hvv.shape s1 s2 (by decide)
        simp (maxSteps := 1000000) (implicitDefEqProofs := false) only [stp, if_true, if_false, Int.reduceEq, Int.reduceLT, Int.reduceLE, Int.reduceGT, Int.reduceGE, reduceCtorEq, Nat.reduceEqDiff, List.getElem?_cons_zero, List.getElem?_cons_succ, Option.map_some, ha1, l1, ha]
        exact ⟨r, ⟨hx, hwG, kk, by rw [hj, he, List.append_nil]; exact hvv, hkk, fun e => by rw [hj, he, List.append_nil]; exact hk00 e⟩, .cons rfl (.cons rfl (.cons rfl (.cons rfl .nil)))⟩
      · obtain ⟨s1, s2⟩ := hsk.src he
        obtain ⟨G2, a1, a2, a3, a4, a5, a6, a7⟩ := hvv.app (bytes := 88) (n := vs[k].2.length) (news := vs[k].2) hwG (by decide) rfl (fun q => he (List.length_eq_zero_iff.1 q)) s1 s2 hsk.1 (by omega) (by omega)
        simp (maxSteps := 1000000) (implicitDefEqProofs := false) only [stp, if_true, if_false, Int.reduceEq, Int.reduceLT, Int.reduceLE, Int.reduceGT, Int.reduceGE, reduceCtorEq, Nat.reduceEqDiff, List.getElem?_cons_zero, List.getElem?_cons_succ, Option.map_some, ha1, l1, a1]
        have hxn := hx.next
        refine ⟨_, ⟨⟨a6.trans hx.gn, by omega, fun j hj' => ?_⟩, a4, _, by rw [hj]; exact a2, fun j e => (by cases e; omega), fun e => (by cases e)⟩, .cons rfl (.cons rfl (.cons rfl (.cons rfl .nil)))⟩
        rw [a7 j (by omega) (fun q => by have := hkk j q; omega), hx.get j hj']
    · rintro r G ⟨hx, hwG, kk, hvv, hkk, hk00⟩
      rw [List.take_length] at hvv hk00
      simp (maxSteps := 1000000) (implicitDefEqProofs := false) only [stp, if_true, if_false, Int.reduceEq, Int.reduceLT, Int.reduceLE, Int.reduceGT, Int.reduceGE, reduceCtorEq, Nat.reduceEqDiff, List.getElem?_cons_zero, List.getElem?_cons_succ, Option.map_some, if_true]
      exact ⟨hx, hwG, kk, hvv, hkk, hk00⟩

/-! ### ops.Copy -/
def copyRound : ACode :=
 (.draw (.op ⟨some 12, none, .ex (.mov) [.s 3]⟩ (.op ⟨some 13, none, .ex (.mov) [.s 4]⟩ (.op ⟨some 14, none, .ex (.mov) [.s 3]⟩ (.op ⟨some 15, none, .ex (.mov) [.s 4]⟩ (.op ⟨some 16, none, .ex (.mov) [.s 3]⟩ (.op ⟨some 17, none, .ex (.mov) [.s 4]⟩ (.op ⟨some 18, none, .ex (.mov) [.s 3]⟩ (.op ⟨some 19, none, .ex (.mov) [.s 4]⟩ (.op ⟨some 20, none, .ex (.ia 5) [.s 18, .s 19]⟩ (.op ⟨some 21, none, .ex (.fa 2) [.s 20]⟩ (.op ⟨some 22, none, .ex (.ld 1) [.s 21]⟩ (.op ⟨some 24, none, .ex (.mov) [.s 3]⟩ (.op ⟨some 25, none, .ex (.mov) [.s 4]⟩ (.op ⟨some 26, none, .ex (.ia 5) [.s 24, .s 25]⟩ (.op ⟨some 27, none, .ex (.fa 3) [.s 26]⟩ (.op ⟨some 30, none, .ex (.mov) [.s 3]⟩ (.op ⟨some 31, none, .ex (.mov) [.s 4]⟩ (.op ⟨some 32, none, .ex (.ia 5) [.s 30, .s 31]⟩ (.op ⟨some 33, none, .ex (.fa 4) [.s 32]⟩ (.fork (.op ⟨some 23, none, .callf 51 [.s 22]⟩ (.op ⟨some 28, none, .ex (.ld 1) [.s 27]⟩ (.fork (.op ⟨some 29, none, .callf 52 [.s 28]⟩ (.op ⟨some 34, none, .ex (.ld 1) [.s 33]⟩ (.op ⟨some 35, none, .callf 53 [.s 34]⟩ (.op ⟨some 36, none, .ex (.ia 5) [.s 12, .s 13]⟩ (.op ⟨some 37, none, .ex (.fa 2) [.s 36]⟩ (.op ⟨none, none, .ex (.st 1) [.s 37, .s 23]⟩ (.op ⟨some 38, none, .ex (.ia 5) [.s 14, .s 15]⟩ (.op ⟨some 39, none, .ex (.fa 3) [.s 38]⟩ (.op ⟨none, none, .ex (.st 1) [.s 39, .s 29]⟩ (.op ⟨some 40, none, .ex (.ia 5) [.s 16, .s 17]⟩ (.op ⟨some 41, none, .ex (.fa 4) [.s 40]⟩ (.op ⟨none, none, .ex (.st 1) [.s 41, .s 35]⟩ .done)))))))))))) (.op ⟨some 34, none, .ex (.ld 1) [.s 33]⟩ (.op ⟨some 29, none, .callf 52 [.s 28]⟩ (.op ⟨some 35, none, .callf 53 [.s 34]⟩ (.op ⟨some 36, none, .ex (.ia 5) [.s 12, .s 13]⟩ (.op ⟨some 37, none, .ex (.fa 2) [.s 36]⟩ (.op ⟨none, none, .ex (.st 1) [.s 37, .s 23]⟩ (.op ⟨some 38, none, .ex (.ia 5) [.s 14, .s 15]⟩ (.op ⟨some 39, none, .ex (.fa 3) [.s 38]⟩ (.op ⟨none, none, .ex (.st 1) [.s 39, .s 29]⟩ (.op ⟨some 40, none, .ex (.ia 5) [.s 16, .s 17]⟩ (.op ⟨some 41, none, .ex (.fa 4) [.s 40]⟩ (.op ⟨none, none, .ex (.st 1) [.s 41, .s 35]⟩ .done))))))))))))))) (.fork (.op ⟨some 28, none, .ex (.ld 1) [.s 27]⟩ (.fork (.op ⟨some 23, none, .callf 51 [.s 22]⟩ (.fork (.op ⟨some 29, none, .callf 52 [.s 28]⟩ (.op ⟨some 34, none, .ex (.ld 1) [.s 33]⟩ (.op ⟨some 35, none, .callf 53 [.s 34]⟩ (.op ⟨some 36, none, .ex (.ia 5) [.s 12, .s 13]⟩ (.op ⟨some 37, none, .ex (.fa 2) [.s 36]⟩ (.op ⟨none, none, .ex (.st 1) [.s 37, .s 23]⟩ (.op ⟨some 38, none, .ex (.ia 5) [.s 14, .s 15]⟩ (.op ⟨some 39, none, .ex (.fa 3) [.s 38]⟩ (.op ⟨none, none, .ex (.st 1) [.s 39, .s 29]⟩ (.op ⟨some 40, none, .ex (.ia 5) [.s 16, .s 17]⟩ (.op ⟨some 41, none, .ex (.fa 4) [.s 40]⟩ (.op ⟨none, none, .ex (.st 1) [.s 41, .s 35]⟩ .done)))))))))))) (.op ⟨some 34, none, .ex (.ld 1) [.s 33]⟩ (.op ⟨some 29, none, .callf 52 [.s 28]⟩ (.op ⟨some 35, none, .callf 53 [.s 34]⟩ (.op ⟨some 36, none, .ex (.ia 5) [.s 12, .s 13]⟩ (.op ⟨some 37, none, .ex (.fa 2) [.s 36]⟩ (.op ⟨none, none, .ex (.st 1) [.s 37, .s 23]⟩ (.op ⟨some 38, none, .ex (.ia 5) [.s 14, .s 15]⟩ (.op ⟨some 39, none, .ex (.fa 3) [.s 38]⟩ (.op ⟨none, none, .ex (.st 1) [.s 39, .s 29]⟩ (.op ⟨some 40, none, .ex (.ia 5) [.s 16, .s 17]⟩ (.op ⟨some 41, none, .ex (.fa 4) [.s 40]⟩ (.op ⟨none, none, .ex (.st 1) [.s 41, .s 35]⟩ .done)))))))))))))) (.op ⟨some 34, none, .ex (.ld 1) [.s 33]⟩ (.op ⟨some 23, none, .callf 51 [.s 22]⟩ (.op ⟨some 29, none, .callf 52 [.s 28]⟩ (.op ⟨some 35, none, .callf 53 [.s 34]⟩ (.op ⟨some 36, none, .ex (.ia 5) [.s 12, .s 13]⟩ (.op ⟨some 37, none, .ex (.fa 2) [.s 36]⟩ (.op ⟨none, none, .ex (.st 1) [.s 37, .s 23]⟩ (.op ⟨some 38, none, .ex (.ia 5) [.s 14, .s 15]⟩ (.op ⟨some 39, none, .ex (.fa 3) [.s 38]⟩ (.op ⟨none, none, .ex (.st 1) [.s 39, .s 29]⟩ (.op ⟨some 40, none, .ex (.ia 5) [.s 16, .s 17]⟩ (.op ⟨some 41, none, .ex (.fa 4) [.s 40]⟩ (.op ⟨none, none, .ex (.st 1) [.s 41, .s 35]⟩ .done))))))))))))))) (.op ⟨some 34, none, .ex (.ld 1) [.s 33]⟩ (.fork (.op ⟨some 23, none, .callf 51 [.s 22]⟩ (.op ⟨some 28, none, .ex (.ld 1) [.s 27]⟩ (.op ⟨some 29, none, .callf 52 [.s 28]⟩ (.op ⟨some 35, none, .callf 53 [.s 34]⟩ (.op ⟨some 36, none, .ex (.ia 5) [.s 12, .s 13]⟩ (.op ⟨some 37, none, .ex (.fa 2) [.s 36]⟩ (.op ⟨none, none, .ex (.st 1) [.s 37, .s 23]⟩ (.op ⟨some 38, none, .ex (.ia 5) [.s 14, .s 15]⟩ (.op ⟨some 39, none, .ex (.fa 3) [.s 38]⟩ (.op ⟨none, none, .ex (.st 1) [.s 39, .s 29]⟩ (.op ⟨some 40, none, .ex (.ia 5) [.s 16, .s 17]⟩ (.op ⟨some 41, none, .ex (.fa 4) [.s 40]⟩ (.op ⟨none, none, .ex (.st 1) [.s 41, .s 35]⟩ .done))))))))))))) (.op ⟨some 28, none, .ex (.ld 1) [.s 27]⟩ (.op ⟨some 23, none, .callf 51 [.s 22]⟩ (.op ⟨some 29, none, .callf 52 [.s 28]⟩ (.op ⟨some 35, none, .callf 53 [.s 34]⟩ (.op ⟨some 36, none, .ex (.ia 5) [.s 12, .s 13]⟩ (.op ⟨some 37, none, .ex (.fa 2) [.s 36]⟩ (.op ⟨none, none, .ex (.st 1) [.s 37, .s 23]⟩ (.op ⟨some 38, none, .ex (.ia 5) [.s 14, .s 15]⟩ (.op ⟨some 39, none, .ex (.fa 3) [.s 38]⟩ (.op ⟨none, none, .ex (.st 1) [.s 39, .s 29]⟩ (.op ⟨some 40, none, .ex (.ia 5) [.s 16, .s 17]⟩ (.op ⟨some 41, none, .ex (.fa 4) [.s 40]⟩ (.op ⟨none, none, .ex (.st 1) [.s 41, .s 35]⟩ .done)))))))))))))))))))))))))))))))))))))
def fn37' : AFn := ⟨44,
 (.seq
  (.region [⟨some 2, none, .ex (.mov) [.k .nils]⟩])
  (.seq
   (.region [⟨some 5, none, .ex (.mov) [.s 0]⟩,
     ⟨some 6, none, .callf 50 [.s 5]⟩,
     ⟨some 3, none, .ex (.mov) [.s 6]⟩])
   (.seq
    (.seq
     (.region [⟨some 7, none, .ex (.mov) [.s 3]⟩,
       ⟨some 8, none, .ex (.len) [.s 7]⟩,
       ⟨some 9, none, .ex (.mov) [.k (.int .i64 0)]⟩])
     (.block 0
      (.loop
       (.seq
        (.region [⟨some 10, none, .ex (.ibin .lss) [.s 9, .s 8]⟩])
        (.seq
         (.cond (.s 10)
          .skip
          (.exit 0))
         (.seq
          (.block 1
           (.seq
            (.region [⟨some 11, none, .ex (.mov) [.s 9]⟩,
              ⟨some 4, none, .ex (.mov) [.s 11]⟩])
            copyRound))
          (.region [⟨some 42, none, .ex (.ibin .add) [.s 9, .k (.int .i64 1)]⟩,
            ⟨some 9, none, .ex (.mov) [.s 42]⟩])))))))
    (.seq
     (.region [⟨some 43, none, .ex (.mov) [.s 3]⟩,
       ⟨some 2, none, .ex (.mov) [.s 43]⟩])
     .ret)))),
 [.t 2]⟩
theorem c37' : compFn Go.Proofs.Tryz.prog 37 = some fn37' := c37

/-- A delta in memory of its own: it stays, whatever happens to what was there before. -/
def Fresh (n : Nat) (H : Heap) (r : V) (os : List OpA) : Prop := Fz (fun j => j < n) H fun G => OpsZ G r os
theorem Fresh.here {n : Nat} {H : Heap} {r : V} {os : List OpA} (h : Fresh n H r os) : OpsIn H r os := (Fz.here h).ops
set_option maxRecDepth 40000 in
set_option maxHeartbeats 8000000 in
theorem copy_calls {H : Heap} {x : V} {os : List OpA} (hx : OpsIn H x os) : SCalls PP 37 [x] H fun r H' => Ext H H' ∧ WF H' ∧ ∃ os', Fresh H.next H' r os' ∧ os'.map OpA.con = os.map OpA.con := by
  refine SCalls.go c37' (by simp [fn37']) fun hw => ?_
  have hol := hx.len
  unfold big at hol
  simp (maxSteps := 1000000) (implicitDefEqProofs := false) only [stp, if_true, if_false, Int.reduceEq, Int.reduceLT, Int.reduceLE, Int.reduceGT, Int.reduceGE, reduceCtorEq, Nat.reduceEqDiff, List.getElem?_cons_zero, List.getElem?_cons_succ, Option.map_some, fn37', enterFr, List.length, List.range, List.range.loop, List.zip, List.zipWith]
  refine SCalls.mono (cloneO_calls hx.sl (by rw [List.length_map]; exact hx.len)) ?_
  rintro r G ⟨hxG, hwG, k, hv, hk, hne, hk0⟩
  have hlen : ∀ F, exec .len [r] F = some (.int .i64 os.length, F) := fun F => by have := hv.len F; rwa [List.length_map] at this
  simp (maxSteps := 1000000) (implicitDefEqProofs := false) only [stp, if_true, if_false, Int.reduceEq, Int.reduceLT, Int.reduceLE, Int.reduceGT, Int.reduceGE, reduceCtorEq, Nat.reduceEqDiff, List.getElem?_cons_zero, List.getElem?_cons_succ, Option.map_some, hlen]
  by_cases hos : os = []
  · subst hos
    refine wp_range (len := 0) SCalls.scMono (by omega) (fun _ : Unit => [(3, r)]) (fun k _ F => F = G) () rfl (.cons rfl (.cons rfl (.cons rfl .nil))) (by decide) (fun s => ⟨rfl, rfl, rfl⟩) (fun k _ F hk => by omega) ?_
    rintro _ F rfl
    simp (maxSteps := 1000000) (implicitDefEqProofs := false) only [stp, if_true, if_false, Int.reduceEq, Int.reduceLT, Int.reduceLE, Int.reduceGT, Int.reduceGE, reduceCtorEq, Nat.reduceEqDiff, List.getElem?_cons_zero, List.getElem?_cons_succ, Option.map_some, if_true]
    refine ⟨hxG, hwG, [], fun G' hx' => ⟨⟨?_, by simp, by simp⟩, hv.fzCut (M := fun j => j < H.next) (Nat.le_refl _) (fun j e => by have := hk j e; exact ⟨by omega, rfl⟩) G' hx', by simp⟩, rfl⟩
    have := hv.sl
    simp only [List.map_nil] at this ⊢
    exact this.empty hx'.next
  obtain ⟨id, rfl, ho, rfl⟩ := hne (by simpa using hos)
  rw [List.length_map] at hlen ⊢
  have hid := hk id rfl
  have hidl := ho.lt
  have hxn := hxG.next
  refine wp_range (len := os.length) SCalls.scMono (by omega) (fun _ : Unit => [(3, .slice id 0 os.length none)]) (fun k _ F => ExtM (fun j => j = id) G F ∧ WF F ∧ ∃ os' : List OpA, os'.length = os.length ∧ Own F id 5 (os'.map OpA.cells) ∧ os'.map OpA.con = os.map OpA.con ∧
      (∀ j : Nat, k ≤ j → os'[j]? = os[j]?) ∧ ∀ (j : Nat) o, j < k → os'[j]? = some o → Fz (fun j => j < H.next ∨ j = id) F fun G => o.In G ∧ o.Cut G) ()
    ⟨ExtM.refl _ _, hwG, os, rfl, ho, rfl, fun _ _ => rfl, fun j o h => by omega⟩ (.cons rfl (.cons rfl (.cons rfl .nil))) (by decide) (fun s => ⟨rfl, rfl, rfl⟩) ?_ ?_
  · rintro k _ F hk ⟨hF, hwF, os', hol', hown, hcon, hback, hfz⟩
    have hk' : k < os'.length := by omega
    have hok : os'[k]? = some os[k] := by rw [hback k (Nat.le_refl _)]; exact List.getElem?_eq_getElem hk
    have hkk : os'[k] = os[k] := by
      have := List.getElem?_eq_getElem hk'
      rw [hok] at this
      exact (Option.some.inj this).symm
    have hFH : Ext H F := ⟨hF.gn.trans hxG.gn, by have := hF.next; omega, fun j hj => by rw [hF.get j (by omega) (by omega), hxG.get j hj]⟩
    have hin := (hx.ins os[k] (List.getElem_mem hk)).ext hFH
    have hFn := hF.next
    have hia : ∀ F', exec (.ia 5) [.slice id 0 os.length none, .int .i64 k] F' = some (.ptr id (0 + k * 5), F') := fun F' => x_iax hk
    have hat : At F id (0 + k * 5) os[k].cells := by
      obtain ⟨_, ⟨e, _⟩ | ⟨id', off', cap', e1, e2, e3⟩⟩ := hown.sl none
      · cases e
      · simp only [V.slice.injEq] at e1
        obtain ⟨rfl, rfl, _, _⟩ := e1
        exact e3 k os[k].cells (by rw [List.getElem?_map, hok]; rfl)
    have l2 : ∀ F', Ext F F' → exec (.ld 1) [.ptr id (0 + k * 5 + 2)] F' = some (os[k].runes, F') := fun F' h => (hat.ext h).ld (j := 2) (v := os[k].runes) rfl 1
    have l3 : ∀ F', Ext F F' → exec (.ld 1) [.ptr id (0 + k * 5 + 3)] F' = some (os[k].set, F') := fun F' h => (hat.ext h).ld (j := 3) (v := os[k].set) rfl 1
    have l4 : ∀ F', Ext F F' → exec (.ld 1) [.ptr id (0 + k * 5 + 4)] F' = some (os[k].patch, F') := fun F' h => (hat.ext h).ld (j := 4) (v := os[k].patch) rfl 1
    have l20 := l2 F (Ext.refl F)
    have l30 := l3 F (Ext.refl F)
    have l40 := l4 F (Ext.refl F)
    -- the three stores
    have fin : ∀ (F3 : Heap) (rv sv pv : V) (k1 k2 k3 : Option Nat), Ext F F3 → WF F3 → Vec F3 rv 1 (os[k].rs.map fun r => [V.int .i32 r]) k1 → (∀ j, k1 = some j → F.next ≤ j) → (k1 = none → os[k].rs = []) → Vec F3 sv 5 (os[k].ats.map AttrA.cells) k2 → (∀ j, k2 = some j → F.next ≤ j) → (k2 = none → os[k].ats = []) →
        Vec F3 pv 6 (os[k].chs.map ChgA.cells) k3 → (∀ j, k3 = some j → F.next ≤ j) → (k3 = none → os[k].chs = []) →
        ∃ F4 F5 F6, exec (.st 1) [.ptr id (0 + k * 5 + 2), rv] F3 = some (.undef, F4) ∧ exec (.st 1) [.ptr id (0 + k * 5 + 3), sv] F4 = some (.undef, F5) ∧ exec (.st 1) [.ptr id (0 + k * 5 + 4), pv] F5 = some (.undef, F6) ∧
          ExtM (fun j => j = id) G F6 ∧ WF F6 ∧ ∃ os' : List OpA, os'.length = os.length ∧ Own F6 id 5 (os'.map OpA.cells) ∧ os'.map OpA.con = os.map OpA.con ∧ (∀ j : Nat, k + 1 ≤ j → os'[j]? = os[j]?) ∧ ∀ (j : Nat) o, j < k + 1 → os'[j]? = some o → Fz (fun j => j < H.next ∨ j = id) F6 fun G => o.In G ∧ o.Cut G := by
      intro F3 rv sv pv k1 k2 k3 h3 hw3 v1 f1 z1 v2 f2 z2 v3 f3 z3
      have h3n := h3.next
      have ho3 := hown.ext h3
      have hkm : k < (os'.map OpA.cells).length := by rw [List.length_map]; exact hk'
      obtain ⟨s1, w1⟩ := ho3.cell (k := k) (c := 2) hkm (by decide) v1.one.2 v1.one.1
      obtain ⟨s2, w2⟩ := w1.cell (k := k) (c := 3) (by simpa using hkm) (by decide) v2.one.2 v2.one.1
      obtain ⟨s3, w3⟩ := w2.cell (k := k) (c := 4) (by simpa using hkm) (by decide) v3.one.2 v3.one.1
      have hlist : (((os'.map OpA.cells).set k ((os'.map OpA.cells)[k].set 2 rv)).set k ((((os'.map OpA.cells).set k ((os'.map OpA.cells)[k].set 2 rv)))[k]'(by simpa using hkm) |>.set 3 sv)).set k (((((os'.map OpA.cells).set k ((os'.map OpA.cells)[k].set 2 rv)).set k ((((os'.map OpA.cells).set k ((os'.map OpA.cells)[k].set 2 rv)))[k]'(by simpa using hkm) |>.set 3 sv)))[k]'(by simpa using hkm) |>.set 4 pv) =
          (os'.set k ⟨os[k].kind, os[k].n, rv, sv, pv, os[k].rs, os[k].ats, os[k].chs⟩).map OpA.cells := by
        simp only [List.set_set, List.getElem_set_self, List.getElem_map, List.map_set, hkk]
        rfl
      rw [hlist] at s3 w3
      have hx6 : ∀ j, j ≠ id → ((((F3.set id (.row false 5 ((os'.map OpA.cells).set k ((os'.map OpA.cells)[k].set 2 rv)).flatten)).set id (.row false 5 (((os'.map OpA.cells).set k ((os'.map OpA.cells)[k].set 2 rv)).set k ((((os'.map OpA.cells).set k ((os'.map OpA.cells)[k].set 2 rv)))[k]'(by simpa using hkm) |>.set 3 sv)).flatten)).set id (.row false 5 ((os'.set k ⟨os[k].kind, os[k].n, rv, sv, pv, os[k].rs, os[k].ats, os[k].chs⟩).map OpA.cells).flatten))).get j = F3.get j := fun j hj => by
        rw [Heap.set_get, if_neg hj, Heap.set_get, if_neg hj, Heap.set_get, if_neg hj]
      have hw6 := ((hw3.set ho3.get (.row false 5 ((os'.map OpA.cells).set k ((os'.map OpA.cells)[k].set 2 rv)).flatten)).set w1.get (.row false 5 (((os'.map OpA.cells).set k ((os'.map OpA.cells)[k].set 2 rv)).set k ((((os'.map OpA.cells).set k ((os'.map OpA.cells)[k].set 2 rv)))[k]'(by simpa using hkm) |>.set 3 sv)).flatten)).set w2.get (.row false 5 ((os'.set k ⟨os[k].kind, os[k].n, rv, sv, pv, os[k].rs, os[k].ats, os[k].chs⟩).map OpA.cells).flatten)
      refine ⟨_, _, _, s1, s2, s3, ?_, hw6, os'.set k ⟨os[k].kind, os[k].n, rv, sv, pv, os[k].rs, os[k].ats, os[k].chs⟩, by simpa using hol', w3, ?_, ?_, ?_⟩
      · refine ⟨by simp only [Heap.set_gn]; rw [h3.gn, hF.gn], by simp only [Heap.set_next]; omega, fun j hj hm => ?_⟩
        rw [hx6 j hm, h3.get j (by omega), hF.get j hj hm]
      · rw [List.map_set, ← hcon]
        apply List.ext_getElem?
        intro j
        rw [List.getElem?_set]
        split
        · rename_i e
          subst e
          rw [if_pos (by simpa using hk'), List.getElem?_map, hok]
          rfl
        · rfl
      · intro j hj
        rw [List.getElem?_set_ne (by omega)]
        exact hback j (by omega)
      · intro j o hj hjo
        have hn6 : ((((F3.set id (.row false 5 ((os'.map OpA.cells).set k ((os'.map OpA.cells)[k].set 2 rv)).flatten)).set id (.row false 5 (((os'.map OpA.cells).set k ((os'.map OpA.cells)[k].set 2 rv)).set k ((((os'.map OpA.cells).set k ((os'.map OpA.cells)[k].set 2 rv)))[k]'(by simpa using hkm) |>.set 3 sv)).flatten)).set id (.row false 5 ((os'.set k ⟨os[k].kind, os[k].n, rv, sv, pv, os[k].rs, os[k].ats, os[k].chs⟩).map OpA.cells).flatten))).next = F3.next := rfl
        have hg6 : ((((F3.set id (.row false 5 ((os'.map OpA.cells).set k ((os'.map OpA.cells)[k].set 2 rv)).flatten)).set id (.row false 5 (((os'.map OpA.cells).set k ((os'.map OpA.cells)[k].set 2 rv)).set k ((((os'.map OpA.cells).set k ((os'.map OpA.cells)[k].set 2 rv)))[k]'(by simpa using hkm) |>.set 3 sv)).flatten)).set id (.row false 5 ((os'.set k ⟨os[k].kind, os[k].n, rv, sv, pv, os[k].rs, os[k].ats, os[k].chs⟩).map OpA.cells).flatten))).gn = F3.gn := rfl
        generalize ((((F3.set id (.row false 5 ((os'.map OpA.cells).set k ((os'.map OpA.cells)[k].set 2 rv)).flatten)).set id (.row false 5 (((os'.map OpA.cells).set k ((os'.map OpA.cells)[k].set 2 rv)).set k ((((os'.map OpA.cells).set k ((os'.map OpA.cells)[k].set 2 rv)))[k]'(by simpa using hkm) |>.set 3 sv)).flatten)).set id (.row false 5 ((os'.set k ⟨os[k].kind, os[k].n, rv, sv, pv, os[k].rs, os[k].ats, os[k].chs⟩).map OpA.cells).flatten))) = F6 at *
        have hFF : ExtM (fun j => j < H.next ∨ j = id) F F6 := ⟨by rw [hg6, h3.gn], by omega, fun j hj hm => by rw [hx6 j (fun q => hm (.inr q)), h3.get j hj]⟩
        by_cases hjk : j = k
        · subst hjk
          rw [List.getElem?_set_self hk'] at hjo
          cases hjo
          have fresh : ∀ {r : V} {sz : Nat} {es : List (List V)} {kk : Option Nat}, Vec F3 r sz es kk → (∀ j, kk = some j → F.next ≤ j) → (kk = none → es = []) → Fz (fun j => j < H.next ∨ j = id) F6 fun G => SL G r sz es := fun v f z =>
            v.fz z (by omega) fun i e => by
              have := f i e
              exact ⟨by omega, hx6 i (by omega)⟩
          have cut : ∀ {r : V} {sz : Nat} {es : List (List V)} {kk : Option Nat}, Vec F3 r sz es kk → (∀ j, kk = some j → F.next ≤ j) → Fz (fun j => j < H.next ∨ j = id) F6 fun G => CutOk G r sz := fun v f =>
            v.fzCut (by omega) fun i e => by
              have := f i e
              exact ⟨by omega, hx6 i (by omega)⟩
          have qc1 := cut v1 f1
          have qc2 := cut v2 f2
          have qc3 := cut v3 f3
          have q1 := fresh v1 f1 (fun e => by rw [z1 e]; rfl)
          have q2 := fresh v2 f2 (fun e => by rw [z2 e]; rfl)
          have q3 := fresh v3 f3 (fun e => by rw [z3 e]; rfl)
          exact fun G' hx' => ⟨⟨q1 _ hx', q2 _ hx', q3 _ hx', hin.rl, hin.al, hin.cl, hin.sa, hin.sc, hin.nlo, hin.nhi⟩, qc1 _ hx', qc2 _ hx', qc3 _ hx'⟩
        · rw [List.getElem?_set_ne (by omega)] at hjo
          exact (hfz j o (by omega) hjo).step hFF (MGrow.refl _ _)
    have crs : ∀ F', Ext F F' → SCalls PP 51 [os[k].runes] F' fun r F2 => Ext F' F2 ∧ WF F2 ∧ ∃ k1, Vec F2 r 1 (os[k].rs.map fun r => [V.int .i32 r]) k1 ∧ (∀ j, k1 = some j → F.next ≤ j) ∧ (k1 = none → os[k].rs = []) := fun F' h =>
      SCalls.mono (cloneR_calls (hin.runes.ext h) hin.rl) fun r F2 ⟨q1, q2, k1, q3, q4, _, q5⟩ => ⟨q1, q2, k1, q3, fun j e => by have := q4 j e; have := h.next; omega, fun e => by simpa using q5 e⟩
    have cas : ∀ F', Ext F F' → SCalls PP 52 [os[k].set] F' fun r F2 => Ext F' F2 ∧ WF F2 ∧ ∃ k1, Vec F2 r 5 (os[k].ats.map AttrA.cells) k1 ∧ (∀ j, k1 = some j → F.next ≤ j) ∧ (k1 = none → os[k].ats = []) := fun F' h =>
      SCalls.mono (attrsCopy_calls (hin.set.ext h) hin.al) fun r F2 ⟨q1, q2, k1, q3, q4, q5⟩ => ⟨q1, q2, k1, q3, fun j e => by have := q4 j e; have := h.next; omega, q5⟩
    have cps : ∀ F', Ext F F' → SCalls PP 53 [os[k].patch] F' fun r F2 => Ext F' F2 ∧ WF F2 ∧ ∃ k1, Vec F2 r 6 (os[k].chs.map ChgA.cells) k1 ∧ (∀ j, k1 = some j → F.next ≤ j) ∧ (k1 = none → os[k].chs = []) := fun F' h =>
      SCalls.mono (patchCopy_calls (hin.patch.ext h) hin.cl) fun r F2 ⟨q1, q2, k1, q3, q4, q5⟩ => ⟨q1, q2, k1, q3, fun j e => by have := q4 j e; have := h.next; omega, q5⟩
    simp (maxSteps := 1000000) (implicitDefEqProofs := false) only [stp, if_true, if_false, Int.reduceEq, Int.reduceLT, Int.reduceLE, Int.reduceGT, Int.reduceGE, reduceCtorEq, Nat.reduceEqDiff, List.getElem?_cons_zero, List.getElem?_cons_succ, Option.map_some, copyRound, hia, l20, l30, l40]
    repeat' (with_reducible refine And.intro ?_ ?_)
    all_goals
      refine SCalls.mono (crs F (Ext.refl F)) ?_
      rintro rv F1 ⟨h1, hw1, k1, v1, f1, z1⟩
      have l31 := l3 F1 h1
      have l41 := l4 F1 h1
      simp (maxSteps := 1000000) (implicitDefEqProofs := false) only [stp, if_true, if_false, Int.reduceEq, Int.reduceLT, Int.reduceLE, Int.reduceGT, Int.reduceGE, reduceCtorEq, Nat.reduceEqDiff, List.getElem?_cons_zero, List.getElem?_cons_succ, Option.map_some, l31, l41]
      repeat' (with_reducible refine And.intro ?_ ?_)
      all_goals
        refine SCalls.mono (cas F1 h1) ?_
        rintro sv F2 ⟨h2, hw2, k2, v2, f2, z2⟩
        have l42 := l4 F2 (h1.trans h2)
        simp (maxSteps := 1000000) (implicitDefEqProofs := false) only [stp, if_true, if_false, Int.reduceEq, Int.reduceLT, Int.reduceLE, Int.reduceGT, Int.reduceGE, reduceCtorEq, Nat.reduceEqDiff, List.getElem?_cons_zero, List.getElem?_cons_succ, Option.map_some, l42]
        refine SCalls.mono (cps F2 (h1.trans h2)) ?_
        rintro pv F3 ⟨h3, hw3, k3, v3, f3, z3⟩
        obtain ⟨F4, F5, F6, e1, e2, e3, hJ⟩ := fin F3 rv sv pv k1 k2 k3 ((h1.trans h2).trans h3) hw3 ((v1.ext h2).ext h3) f1 z1 (v2.ext h3) f2 z2 v3 f3 z3
        simp (maxSteps := 1000000) (implicitDefEqProofs := false) only [stp, if_true, if_false, Int.reduceEq, Int.reduceLT, Int.reduceLE, Int.reduceGT, Int.reduceGE, reduceCtorEq, Nat.reduceEqDiff, List.getElem?_cons_zero, List.getElem?_cons_succ, Option.map_some, hia, e1, e2, e3]
        exact ⟨(), hJ, .cons rfl (.cons rfl (.cons rfl .nil))⟩
  · rintro _ F ⟨hF, hwF, os', hol', hown, hcon, hback, hfz⟩
    simp (maxSteps := 1000000) (implicitDefEqProofs := false) only [stp, if_true, if_false, Int.reduceEq, Int.reduceLT, Int.reduceLE, Int.reduceGT, Int.reduceGE, reduceCtorEq, Nat.reduceEqDiff, List.getElem?_cons_zero, List.getElem?_cons_succ, Option.map_some, if_true]
    have hFn := hF.next
    refine ⟨⟨hF.gn.trans hxG.gn, by omega, fun j hj => by rw [hF.get j (by omega) (by omega), hxG.get j hj]⟩, hwF, os', fun G' hx' => ?_, hcon⟩
    have hx2 : ExtM (fun j => j < H.next ∨ j = id) F G' := ⟨hx'.gn, hx'.next, fun j hj hm => hx'.get j hj (fun q => hm (.inl q))⟩
    have how := hown.extM hx' (by omega)
    have hmem : ∀ o ∈ os', o.In G' ∧ o.Cut G' := fun o ho => by
      obtain ⟨j, hj⟩ := List.getElem?_of_mem ho
      have hjl := (List.getElem?_eq_some_iff.1 hj).1
      exact hfz j o (by omega) hj _ hx2
    refine ⟨⟨?_, fun o ho => (hmem o ho).1, by rw [hol']; exact hx.len⟩, ?_, fun o ho => (hmem o ho).2⟩
    · have := how.sl none
      rwa [List.length_map, hol'] at this
    · exact fun id' off' n' cap' e => by
        cases e
        exact ⟨how.lt, fun c e => (by cases e), by simp [slcOk, how.get]⟩
end Go.Proofs.YtkmaikggdbielaaGreatDoor.Fw

/- A history undoes and does again. No condition. -/
namespace Go.Proofs.YtkmaikggdbielaaGreatDoor.Fw
open Go
set_option linter.unusedSimpArgs false
set_option linter.unusedVariables false

theorem Fresh.le {n m : Nat} {H : Heap} {r : V} {os : List OpA} (h : Fresh n H r os) (k : m ≤ n) : Fresh m H r os :=
  fun G x => h G ⟨x.gn, x.next, fun j hj hm => x.get j hj fun e => hm (Nat.lt_of_lt_of_le e k)⟩
theorem Fresh.grow {n : Nat} {H H' : Heap} {r : V} {os : List OpA} (h : Fresh n H r os) (k : Ext H H') : Fresh n H' r os := Fz.step h (k.toM _) (MGrow.refl _ _)
theorem Fresh.one {n : Nat} {H : Heap} {r : V} {os : List OpA} (h : Fresh n H r os) : r.one = true ∧ r.cells = [r] := by
  obtain ⟨_, ⟨rfl, _⟩ | ⟨id, off, cap, rfl, _⟩⟩ := h.here.sl <;> exact ⟨rfl, rfl⟩
/-- A box is written. -/
theorem x_fill {H : Heap} {id : Nat} (hw : WF H) (hl : id < H.next) (hg : H.get id = some (.row false 2 [.nils, .nils])) {e : List V} (hn : e.length = 2) (ho : e.all V.one = true) :
    ∃ G, exec (.st 2) [.ptr id 0, .agg e] H = some (.undef, G) ∧ WF G ∧ At G id 0 e ∧ G.next = H.next ∧ G.gn = H.gn ∧ ∀ j, j ≠ id → G.get j = H.get j :=
  ⟨H.set id (.row false 2 e), x_st hg hn rfl ho, hw.set hg _, ⟨hl, false, 2, e, set_get' _ _ _, by omega, fun j v hj => by rw [Nat.zero_add]; exact hj⟩, rfl, rfl, fun j hj => by rw [Heap.set_get, if_neg hj]⟩

set_option maxRecDepth 20000 in
set_option maxHeartbeats 2000000 in
theorem undoH_no {H : Heap} {M : Nat → Prop} {p : Nat} {s : V} {h : HistC} (q : HistI H M p s h) (hn : h.opened = true ∨ h.undo = []) :
    SCalls PP 14 [.ptr p 0] H fun r H' => WF H' ∧ Ext H H' ∧ ∃ x, r = .tup [x, .int .i64 (if h.opened then 9 else 10)] ∧ Fresh H.next H' x [] := by
  refine SCalls.go c14 (by simp [fn14]) fun hw => ?_
  simp (maxSteps := 1000000) (implicitDefEqProofs := false) only [stp, if_true, if_false, Int.reduceEq, Int.reduceLT, Int.reduceLE, Int.reduceGT, Int.reduceGE, reduceCtorEq, Nat.reduceEqDiff, List.getElem?_cons_zero, List.getElem?_cons_succ, Option.map_some, fn14, enterFr, List.length, List.range, List.range.loop, List.zip, List.zipWith]
  refine SCalls.mono (readyH q) ?_
  rintro r0 G0 ⟨rfl, rfl⟩
  have al := x_alloc G0 [.nils, .nils] rfl
  have hx1 : Ext G0 (G0.new (.row false 2 [.nils, .nils])) := (Ext.refl G0).new _
  have hw1 : WF (G0.new (.row false 2 [.nils, .nils])) := hw.new _
  have hg1 := new_get G0 (.row false 2 [.nils, .nils])
  have hn1 : (G0.new (.row false 2 [.nils, .nils])).next = G0.next + 1 := rfl
  rw [show ([V.nils, .nils] : List V).length = 2 from rfl] at al
  have q1 : HistI (G0.new (.row false 2 [.nils, .nils])) M p s h := by
    obtain ⟨uv, rv, ov, ue, re, oe, uk, rk, ok, q⟩ := q
    exact (HistD.grow (N := fun _ => False) ⟨uv, rv, ov, ue, re, oe, uk, rk, ok, q, fun j e => e.elim⟩ hx1).toI
  have fin : ∀ (a : Nat) (G2 : Heap), Ext G0 G2 → WF G2 → At G2 a 0 [.nils, .nils] → ∀ K : V → Heap → Prop, (∀ x H', WF H' ∧ Ext G0 H' ∧ Fresh G0.next H' x [] → K x H') → SCalls PP 37 [.nils] G2 K := by
    intro a G2 hx hw2 hat K hK
    refine SCalls.mono (copy_calls (x := .nils) (os := []) ⟨⟨by simp, .inl ⟨rfl, rfl⟩⟩, by simp, by simp⟩) ?_
    rintro x G3 ⟨hx3, hw3, os', hf, hc⟩
    have : os' = [] := by simpa using hc
    subst this
    exact hK x G3 ⟨hw3, hx.trans hx3, hf.le hx.next⟩
  simp (maxSteps := 1000000) (implicitDefEqProofs := false) only [stp, if_true, if_false, Int.reduceEq, Int.reduceLT, Int.reduceLE, Int.reduceGT, Int.reduceGE, reduceCtorEq, Nat.reduceEqDiff, List.getElem?_cons_zero, List.getElem?_cons_succ, Option.map_some, Bool.false_eq_true, al]
  refine ⟨?_, ?_⟩
  · refine SCalls.mono (moveU_no q hn) ?_
    rintro r1 G1 ⟨hx, hwG, rfl⟩
    obtain ⟨G2, hx2, hw2, hat2, c1, c2⟩ := x_copy (Ext.refl G1) hwG (z := [.nils, .nils]) (e := [.nils, .nils]) (n := 2) rfl rfl rfl rfl
    have l := hat2.ld (j := 1) (v := .nils) rfl 1
    simp (maxSteps := 1000000) (implicitDefEqProofs := false) only [stp, if_true, if_false, Int.reduceEq, Int.reduceLT, Int.reduceLE, Int.reduceGT, Int.reduceGE, reduceCtorEq, Nat.reduceEqDiff, List.getElem?_cons_zero, List.getElem?_cons_succ, Option.map_some, c1, c2, l]
    refine fin _ G2 (hx.trans hx2) hw2 hat2 _ fun x G3 hq => ?_
    simp (maxSteps := 1000000) (implicitDefEqProofs := false) only [stp, if_true, if_false, Int.reduceEq, Int.reduceLT, Int.reduceLE, Int.reduceGT, Int.reduceGE, reduceCtorEq, Nat.reduceEqDiff, List.getElem?_cons_zero, List.getElem?_cons_succ, Option.map_some, if_true]
    exact ⟨hq.1, hq.2.1, x, by trivial, hq.2.2⟩
  · refine SCalls.mono (moveU_no q1 hn) ?_
    rintro r1 G1 ⟨hx, hwG, rfl⟩
    have hxn := hx.next
    obtain ⟨G2, c2, hw2, hat2, n2, gn2, k2⟩ := x_fill (id := G0.next) hwG (by omega) (by rw [hx.get _ (by omega)]; exact hg1) (e := [.nils, .nils]) rfl rfl
    have l := hat2.ld (j := 1) (v := .nils) rfl 1
    simp (maxSteps := 1000000) (implicitDefEqProofs := false) only [stp, if_true, if_false, Int.reduceEq, Int.reduceLT, Int.reduceLE, Int.reduceGT, Int.reduceGE, reduceCtorEq, Nat.reduceEqDiff, List.getElem?_cons_zero, List.getElem?_cons_succ, Option.map_some, c2, l]
    refine fin _ G2 ⟨by rw [gn2, hx.gn, hx1.gn], by omega, fun j hj => by rw [k2 j (by omega), hx.get j (by omega), hx1.get j hj]⟩ hw2 hat2 _ fun x G3 hq => ?_
    simp (maxSteps := 1000000) (implicitDefEqProofs := false) only [stp, if_true, if_false, Int.reduceEq, Int.reduceLT, Int.reduceLE, Int.reduceGT, Int.reduceGE, reduceCtorEq, Nat.reduceEqDiff, List.getElem?_cons_zero, List.getElem?_cons_succ, Option.map_some, if_true]
    exact ⟨hq.1, hq.2.1, x, by trivial, hq.2.2⟩
set_option maxRecDepth 20000 in
set_option maxHeartbeats 2000000 in
theorem undoH_ok {H : Heap} {M N : Nat → Prop} {p : Nat} {s : V} {h : HistC} (q : HistD H M N p s h) (ho : h.opened = false) {gi : List GrpC} {g : GrpC} (hg : h.undo = gi ++ [g]) (hl : h.undo.length ≤ big) (hr : h.redo.length + 1 ≤ big) :
    SCalls PP 14 [.ptr p 0] H fun r H' => WF H' ∧ ∃ M', HistD H' M' N p s { h with undo := gi, redo := h.redo ++ [g] } ∧ ExtM (fun j => M j ∧ ¬ N j) H H' ∧ MGrow M M' H ∧ ∃ x os, r = .tup [x, .int .i64 0] ∧ (Fz (fun j => M' j ∨ j < H.next) H' fun G => OpsIn G x os) ∧ os.map OpA.con = g.un := by
  refine SCalls.go c14 (by simp [fn14]) fun hw => ?_
  simp (maxSteps := 1000000) (implicitDefEqProofs := false) only [stp, if_true, if_false, Int.reduceEq, Int.reduceLT, Int.reduceLE, Int.reduceGT, Int.reduceGE, reduceCtorEq, Nat.reduceEqDiff, List.getElem?_cons_zero, List.getElem?_cons_succ, Option.map_some, fn14, enterFr, List.length, List.range, List.range.loop, List.zip, List.zipWith]
  refine SCalls.mono (readyH q.toI) ?_
  rintro r0 G0 ⟨rfl, rfl⟩
  have al := x_alloc G0 [.nils, .nils] rfl
  have hx1 : Ext G0 (G0.new (.row false 2 [.nils, .nils])) := (Ext.refl G0).new _
  have hw1 : WF (G0.new (.row false 2 [.nils, .nils])) := hw.new _
  have hg1 := new_get G0 (.row false 2 [.nils, .nils])
  have hn1 : (G0.new (.row false 2 [.nils, .nils])).next = G0.next + 1 := rfl
  rw [show ([V.nils, .nils] : List V).length = 2 from rfl] at al
  have q1 : HistD (G0.new (.row false 2 [.nils, .nils])) (fun j => M j ∨ j = G0.next) (fun j => N j ∨ j = G0.next) p s h :=
    q.ext hx1 (fun _ e => .inl e) (fun j e => e.imp id fun k => by omega) (fun j e => by
      rcases e with e | e
      · have := q.mb e; omega
      · omega) fun j e => by
      rcases e with e | e
      · exact ⟨.inl (by obtain ⟨_, _, _, _, _, _, _, _, _, _, hn⟩ := q; exact (hn j e).1), .inl e⟩
      · exact ⟨.inr e, .inr (by omega)⟩
  generalize G0.new (.row false 2 [.nils, .nils]) = Ga at *
  have fin : ∀ (y : V) (us : List OpA) (G2 : Heap), G0.next ≤ G2.next → WF G2 → HistS G0 M N p s G2 { h with undo := gi, redo := h.redo ++ [g] } → OpsIn G2 y us → us.map OpA.con = g.un → ∀ K : V → Heap → Prop, (∀ x H', (WF H' ∧ ∃ M', HistD H' M' N p s { h with undo := gi, redo := h.redo ++ [g] } ∧ ExtM (fun j => M j ∧ ¬ N j) G0 H' ∧ MGrow M M' G0 ∧ ∃ os, (Fz (fun j => M' j ∨ j < G0.next) H' fun G => OpsIn G x os) ∧ os.map OpA.con = g.un) → K x H') → SCalls PP 37 [y] G2 K := by
    intro y us G2 hn hw2 hS hop hc K hK
    refine SCalls.mono (copy_calls hop) ?_
    rintro x G3 ⟨hx3, hw3, os', hf, hc'⟩
    obtain ⟨M1, q1, e1, g1⟩ := hS
    exact hK x G3 ⟨hw3, M1, q1.grow hx3, e1.trans (hx3.toM _), g1, os', Fz.mono (Q := fun F => OpsIn F x os') (Fz.step hf (ExtM.refl _ _) (fun j e => .inl (by
      rcases e with e | e
      · exact q1.mb e
      · omega))) (fun _ q => q.ops), hc'.trans hc⟩
  simp (maxSteps := 1000000) (implicitDefEqProofs := false) only [stp, if_true, if_false, Int.reduceEq, Int.reduceLT, Int.reduceLE, Int.reduceGT, Int.reduceGE, reduceCtorEq, Nat.reduceEqDiff, List.getElem?_cons_zero, List.getElem?_cons_succ, Option.map_some, Bool.false_eq_true, al]
  refine ⟨?_, ?_⟩
  · refine SCalls.mono (moveU_ok q ho hg hl hr) ?_
    rintro r1 G1 ⟨hwG, M1, d, u, rfl, hone, hz, hD, hM, hG⟩
    obtain ⟨G2, hx2, hw2, hat2, c1, c2⟩ := x_copy (Ext.refl G1) hwG (z := [.nils, .nils]) (e := [d, u]) (n := 2) rfl rfl rfl hone
    have l := hat2.ld (j := 1) (v := u) rfl 1
    simp (maxSteps := 1000000) (implicitDefEqProofs := false) only [stp, if_true, if_false, Int.reduceEq, Int.reduceLT, Int.reduceLE, Int.reduceGT, Int.reduceGE, reduceCtorEq, Nat.reduceEqDiff, List.getElem?_cons_zero, List.getElem?_cons_succ, Option.map_some, c1, c2, l]
    obtain ⟨d', u', os, us, e1, e2, e3, e4, e5⟩ := hz
    cases e1
    refine fin _ us G2 (Nat.le_trans hM.next hx2.next) hw2 (HistS.grow ⟨M1, hD, hM, hG⟩ hx2) (e5.here.ops.ext hx2) e3 _ fun x G3 hq => ?_
    simp (maxSteps := 1000000) (implicitDefEqProofs := false) only [stp, if_true, if_false, Int.reduceEq, Int.reduceLT, Int.reduceLE, Int.reduceGT, Int.reduceGE, reduceCtorEq, Nat.reduceEqDiff, List.getElem?_cons_zero, List.getElem?_cons_succ, Option.map_some, if_true]
    obtain ⟨a1, M2, b1, b2, b3, os', a3, a4⟩ := hq
    exact ⟨a1, M2, b1, b2, b3, x, os', by trivial, a3, a4⟩
  · refine SCalls.mono (moveU_ok q1 ho hg hl hr) ?_
    rintro r1 G1 ⟨hwG, M1, d, u, rfl, hone, hz, hD, hM, hG⟩
    have hMn := hM.next
    obtain ⟨G2, c2, hw2, hat2, n2, gn2, k2⟩ := x_fill (id := G0.next) hwG (by omega) (by rw [hM.get _ (by omega) (fun e => e.2 (.inr rfl))]; exact hg1) (e := [d, u]) rfl hone
    have l := hat2.ld (j := 1) (v := u) rfl 1
    simp (maxSteps := 1000000) (implicitDefEqProofs := false) only [stp, if_true, if_false, Int.reduceEq, Int.reduceLT, Int.reduceLE, Int.reduceGT, Int.reduceGE, reduceCtorEq, Nat.reduceEqDiff, List.getElem?_cons_zero, List.getElem?_cons_succ, Option.map_some, c2, l]
    have hxN : ExtM (fun j => N j ∨ j = G0.next) G1 G2 := ⟨gn2, by omega, fun j hj hm => k2 j fun e => hm (.inr e)⟩
    have hxM : ExtM M1 G1 G2 := ⟨gn2, by omega, fun j hj hm => k2 j fun e => hm (by
      obtain ⟨_, _, _, _, _, _, _, _, _, _, hn⟩ := hD
      exact (hn j (.inr e)).1)⟩
    have hD2 := (hD.poke hxN).less (N' := N) fun j e => .inl e
    have hS : HistS G0 M N p s G2 { h with undo := gi, redo := h.redo ++ [g] } := by
      refine ⟨M1, hD2, ⟨by rw [gn2, hM.gn, hx1.gn], by omega, fun j hj hm => ?_⟩, fun j e => ?_⟩
      · rw [k2 j (by omega), hM.get j (by omega) (fun e => ?_), hx1.get j hj]
        rcases e with ⟨e | e, e2⟩
        · exact hm ⟨e, fun k => e2 (.inl k)⟩
        · omega
      · rcases hG j e with (k | k) | k
        · exact .inl k
        · exact .inr (by omega)
        · exact .inr (by omega)
    obtain ⟨d', u', os, us, e1, e2, e3, e4, e5⟩ := hz.step hxM (MGrow.refl _ _)
    cases e1
    refine fin _ us G2 (by omega) hw2 hS e5.here.ops e3 _ fun x G3 hq => ?_
    simp (maxSteps := 1000000) (implicitDefEqProofs := false) only [stp, if_true, if_false, Int.reduceEq, Int.reduceLT, Int.reduceLE, Int.reduceGT, Int.reduceGE, reduceCtorEq, Nat.reduceEqDiff, List.getElem?_cons_zero, List.getElem?_cons_succ, Option.map_some, if_true]
    obtain ⟨a1, M2, b1, b2, b3, os', a3, a4⟩ := hq
    exact ⟨a1, M2, b1, b2, b3, x, os', by trivial, a3, a4⟩

set_option maxRecDepth 20000 in
set_option maxHeartbeats 2000000 in
theorem redoH_no {H : Heap} {M : Nat → Prop} {p : Nat} {s : V} {h : HistC} (q : HistI H M p s h) (hn : h.opened = true ∨ h.redo = []) :
    SCalls PP 16 [.ptr p 0] H fun r H' => WF H' ∧ Ext H H' ∧ ∃ x, r = .tup [x, .int .i64 (if h.opened then 9 else 10)] ∧ Fresh H.next H' x [] := by
  refine SCalls.go c16 (by simp [fn16]) fun hw => ?_
  simp (maxSteps := 1000000) (implicitDefEqProofs := false) only [stp, if_true, if_false, Int.reduceEq, Int.reduceLT, Int.reduceLE, Int.reduceGT, Int.reduceGE, reduceCtorEq, Nat.reduceEqDiff, List.getElem?_cons_zero, List.getElem?_cons_succ, Option.map_some, fn16, enterFr, List.length, List.range, List.range.loop, List.zip, List.zipWith]
  refine SCalls.mono (readyH q) ?_
  rintro r0 G0 ⟨rfl, rfl⟩
  have al := x_alloc G0 [.nils, .nils] rfl
  have hx1 : Ext G0 (G0.new (.row false 2 [.nils, .nils])) := (Ext.refl G0).new _
  have hw1 : WF (G0.new (.row false 2 [.nils, .nils])) := hw.new _
  have hg1 := new_get G0 (.row false 2 [.nils, .nils])
  have hn1 : (G0.new (.row false 2 [.nils, .nils])).next = G0.next + 1 := rfl
  rw [show ([V.nils, .nils] : List V).length = 2 from rfl] at al
  have q1 : HistI (G0.new (.row false 2 [.nils, .nils])) M p s h := by
    obtain ⟨uv, rv, ov, ue, re, oe, uk, rk, ok, q⟩ := q
    exact (HistD.grow (N := fun _ => False) ⟨uv, rv, ov, ue, re, oe, uk, rk, ok, q, fun j e => e.elim⟩ hx1).toI
  have fin : ∀ (a : Nat) (G2 : Heap), Ext G0 G2 → WF G2 → At G2 a 0 [.nils, .nils] → ∀ K : V → Heap → Prop, (∀ x H', WF H' ∧ Ext G0 H' ∧ Fresh G0.next H' x [] → K x H') → SCalls PP 37 [.nils] G2 K := by
    intro a G2 hx hw2 hat K hK
    refine SCalls.mono (copy_calls (x := .nils) (os := []) ⟨⟨by simp, .inl ⟨rfl, rfl⟩⟩, by simp, by simp⟩) ?_
    rintro x G3 ⟨hx3, hw3, os', hf, hc⟩
    have : os' = [] := by simpa using hc
    subst this
    exact hK x G3 ⟨hw3, hx.trans hx3, hf.le hx.next⟩
  simp (maxSteps := 1000000) (implicitDefEqProofs := false) only [stp, if_true, if_false, Int.reduceEq, Int.reduceLT, Int.reduceLE, Int.reduceGT, Int.reduceGE, reduceCtorEq, Nat.reduceEqDiff, List.getElem?_cons_zero, List.getElem?_cons_succ, Option.map_some, Bool.false_eq_true, al]
  refine ⟨?_, ?_⟩
  · refine SCalls.mono (moveR_no q hn) ?_
    rintro r1 G1 ⟨hx, hwG, rfl⟩
    obtain ⟨G2, hx2, hw2, hat2, c1, c2⟩ := x_copy (Ext.refl G1) hwG (z := [.nils, .nils]) (e := [.nils, .nils]) (n := 2) rfl rfl rfl rfl
    have l := hat2.ld (j := 0) (v := .nils) rfl 1
    simp (maxSteps := 1000000) (implicitDefEqProofs := false) only [stp, if_true, if_false, Int.reduceEq, Int.reduceLT, Int.reduceLE, Int.reduceGT, Int.reduceGE, reduceCtorEq, Nat.reduceEqDiff, List.getElem?_cons_zero, List.getElem?_cons_succ, Option.map_some, c1, c2, l]
    refine fin _ G2 (hx.trans hx2) hw2 hat2 _ fun x G3 hq => ?_
    simp (maxSteps := 1000000) (implicitDefEqProofs := false) only [stp, if_true, if_false, Int.reduceEq, Int.reduceLT, Int.reduceLE, Int.reduceGT, Int.reduceGE, reduceCtorEq, Nat.reduceEqDiff, List.getElem?_cons_zero, List.getElem?_cons_succ, Option.map_some, if_true]
    exact ⟨hq.1, hq.2.1, x, by trivial, hq.2.2⟩
  · refine SCalls.mono (moveR_no q1 hn) ?_
    rintro r1 G1 ⟨hx, hwG, rfl⟩
    have hxn := hx.next
    obtain ⟨G2, c2, hw2, hat2, n2, gn2, k2⟩ := x_fill (id := G0.next) hwG (by omega) (by rw [hx.get _ (by omega)]; exact hg1) (e := [.nils, .nils]) rfl rfl
    have l := hat2.ld (j := 0) (v := .nils) rfl 1
    simp (maxSteps := 1000000) (implicitDefEqProofs := false) only [stp, if_true, if_false, Int.reduceEq, Int.reduceLT, Int.reduceLE, Int.reduceGT, Int.reduceGE, reduceCtorEq, Nat.reduceEqDiff, List.getElem?_cons_zero, List.getElem?_cons_succ, Option.map_some, c2, l]
    refine fin _ G2 ⟨by rw [gn2, hx.gn, hx1.gn], by omega, fun j hj => by rw [k2 j (by omega), hx.get j (by omega), hx1.get j hj]⟩ hw2 hat2 _ fun x G3 hq => ?_
    simp (maxSteps := 1000000) (implicitDefEqProofs := false) only [stp, if_true, if_false, Int.reduceEq, Int.reduceLT, Int.reduceLE, Int.reduceGT, Int.reduceGE, reduceCtorEq, Nat.reduceEqDiff, List.getElem?_cons_zero, List.getElem?_cons_succ, Option.map_some, if_true]
    exact ⟨hq.1, hq.2.1, x, by trivial, hq.2.2⟩
set_option maxRecDepth 20000 in
set_option maxHeartbeats 2000000 in
theorem redoH_ok {H : Heap} {M N : Nat → Prop} {p : Nat} {s : V} {h : HistC} (q : HistD H M N p s h) (ho : h.opened = false) {gi : List GrpC} {g : GrpC} (hg : h.redo = gi ++ [g]) (hl : h.redo.length ≤ big) (hr : h.undo.length + 1 ≤ big) :
    SCalls PP 16 [.ptr p 0] H fun r H' => WF H' ∧ ∃ M', HistD H' M' N p s { h with redo := gi, undo := h.undo ++ [g] } ∧ ExtM (fun j => M j ∧ ¬ N j) H H' ∧ MGrow M M' H ∧ ∃ x os, r = .tup [x, .int .i64 0] ∧ (Fz (fun j => M' j ∨ j < H.next) H' fun G => OpsIn G x os) ∧ os.map OpA.con = g.dn := by
  refine SCalls.go c16 (by simp [fn16]) fun hw => ?_
  simp (maxSteps := 1000000) (implicitDefEqProofs := false) only [stp, if_true, if_false, Int.reduceEq, Int.reduceLT, Int.reduceLE, Int.reduceGT, Int.reduceGE, reduceCtorEq, Nat.reduceEqDiff, List.getElem?_cons_zero, List.getElem?_cons_succ, Option.map_some, fn16, enterFr, List.length, List.range, List.range.loop, List.zip, List.zipWith]
  refine SCalls.mono (readyH q.toI) ?_
  rintro r0 G0 ⟨rfl, rfl⟩
  have al := x_alloc G0 [.nils, .nils] rfl
  have hx1 : Ext G0 (G0.new (.row false 2 [.nils, .nils])) := (Ext.refl G0).new _
  have hw1 : WF (G0.new (.row false 2 [.nils, .nils])) := hw.new _
  have hg1 := new_get G0 (.row false 2 [.nils, .nils])
  have hn1 : (G0.new (.row false 2 [.nils, .nils])).next = G0.next + 1 := rfl
  rw [show ([V.nils, .nils] : List V).length = 2 from rfl] at al
  have q1 : HistD (G0.new (.row false 2 [.nils, .nils])) (fun j => M j ∨ j = G0.next) (fun j => N j ∨ j = G0.next) p s h :=
    q.ext hx1 (fun _ e => .inl e) (fun j e => e.imp id fun k => by omega) (fun j e => by
      rcases e with e | e
      · have := q.mb e; omega
      · omega) fun j e => by
      rcases e with e | e
      · exact ⟨.inl (by obtain ⟨_, _, _, _, _, _, _, _, _, _, hn⟩ := q; exact (hn j e).1), .inl e⟩
      · exact ⟨.inr e, .inr (by omega)⟩
  generalize G0.new (.row false 2 [.nils, .nils]) = Ga at *
  have fin : ∀ (y : V) (us : List OpA) (G2 : Heap), G0.next ≤ G2.next → WF G2 → HistS G0 M N p s G2 { h with redo := gi, undo := h.undo ++ [g] } → OpsIn G2 y us → us.map OpA.con = g.dn → ∀ K : V → Heap → Prop, (∀ x H', (WF H' ∧ ∃ M', HistD H' M' N p s { h with redo := gi, undo := h.undo ++ [g] } ∧ ExtM (fun j => M j ∧ ¬ N j) G0 H' ∧ MGrow M M' G0 ∧ ∃ os, (Fz (fun j => M' j ∨ j < G0.next) H' fun G => OpsIn G x os) ∧ os.map OpA.con = g.dn) → K x H') → SCalls PP 37 [y] G2 K := by
    intro y us G2 hn hw2 hS hop hc K hK
    refine SCalls.mono (copy_calls hop) ?_
    rintro x G3 ⟨hx3, hw3, os', hf, hc'⟩
    obtain ⟨M1, q1, e1, g1⟩ := hS
    exact hK x G3 ⟨hw3, M1, q1.grow hx3, e1.trans (hx3.toM _), g1, os', Fz.mono (Q := fun F => OpsIn F x os') (Fz.step hf (ExtM.refl _ _) (fun j e => .inl (by
      rcases e with e | e
      · exact q1.mb e
      · omega))) (fun _ q => q.ops), hc'.trans hc⟩
  simp (maxSteps := 1000000) (implicitDefEqProofs := false) only [stp, if_true, if_false, Int.reduceEq, Int.reduceLT, Int.reduceLE, Int.reduceGT, Int.reduceGE, reduceCtorEq, Nat.reduceEqDiff, List.getElem?_cons_zero, List.getElem?_cons_succ, Option.map_some, Bool.false_eq_true, al]
  refine ⟨?_, ?_⟩
  · refine SCalls.mono (moveR_ok q ho hg hl hr) ?_
    rintro r1 G1 ⟨hwG, M1, d, u, rfl, hone, hz, hD, hM, hG⟩
    obtain ⟨G2, hx2, hw2, hat2, c1, c2⟩ := x_copy (Ext.refl G1) hwG (z := [.nils, .nils]) (e := [d, u]) (n := 2) rfl rfl rfl hone
    have l := hat2.ld (j := 0) (v := d) rfl 1
    simp (maxSteps := 1000000) (implicitDefEqProofs := false) only [stp, if_true, if_false, Int.reduceEq, Int.reduceLT, Int.reduceLE, Int.reduceGT, Int.reduceGE, reduceCtorEq, Nat.reduceEqDiff, List.getElem?_cons_zero, List.getElem?_cons_succ, Option.map_some, c1, c2, l]
    obtain ⟨d', u', os, us, e1, e2, e3, e4, e5⟩ := hz
    cases e1
    refine fin _ os G2 (Nat.le_trans hM.next hx2.next) hw2 (HistS.grow ⟨M1, hD, hM, hG⟩ hx2) (e4.here.ops.ext hx2) e2 _ fun x G3 hq => ?_
    simp (maxSteps := 1000000) (implicitDefEqProofs := false) only [stp, if_true, if_false, Int.reduceEq, Int.reduceLT, Int.reduceLE, Int.reduceGT, Int.reduceGE, reduceCtorEq, Nat.reduceEqDiff, List.getElem?_cons_zero, List.getElem?_cons_succ, Option.map_some, if_true]
    obtain ⟨a1, M2, b1, b2, b3, os', a3, a4⟩ := hq
    exact ⟨a1, M2, b1, b2, b3, x, os', by trivial, a3, a4⟩
  · refine SCalls.mono (moveR_ok q1 ho hg hl hr) ?_
    rintro r1 G1 ⟨hwG, M1, d, u, rfl, hone, hz, hD, hM, hG⟩
    have hMn := hM.next
    obtain ⟨G2, c2, hw2, hat2, n2, gn2, k2⟩ := x_fill (id := G0.next) hwG (by omega) (by rw [hM.get _ (by omega) (fun e => e.2 (.inr rfl))]; exact hg1) (e := [d, u]) rfl hone
    have l := hat2.ld (j := 0) (v := d) rfl 1
    simp (maxSteps := 1000000) (implicitDefEqProofs := false) only [stp, if_true, if_false, Int.reduceEq, Int.reduceLT, Int.reduceLE, Int.reduceGT, Int.reduceGE, reduceCtorEq, Nat.reduceEqDiff, List.getElem?_cons_zero, List.getElem?_cons_succ, Option.map_some, c2, l]
    have hxN : ExtM (fun j => N j ∨ j = G0.next) G1 G2 := ⟨gn2, by omega, fun j hj hm => k2 j fun e => hm (.inr e)⟩
    have hxM : ExtM M1 G1 G2 := ⟨gn2, by omega, fun j hj hm => k2 j fun e => hm (by
      obtain ⟨_, _, _, _, _, _, _, _, _, _, hn⟩ := hD
      exact (hn j (.inr e)).1)⟩
    have hD2 := (hD.poke hxN).less (N' := N) fun j e => .inl e
    have hS : HistS G0 M N p s G2 { h with redo := gi, undo := h.undo ++ [g] } := by
      refine ⟨M1, hD2, ⟨by rw [gn2, hM.gn, hx1.gn], by omega, fun j hj hm => ?_⟩, fun j e => ?_⟩
      · rw [k2 j (by omega), hM.get j (by omega) (fun e => ?_), hx1.get j hj]
        rcases e with ⟨e | e, e2⟩
        · exact hm ⟨e, fun k => e2 (.inl k)⟩
        · omega
      · rcases hG j e with (k | k) | k
        · exact .inl k
        · exact .inr (by omega)
        · exact .inr (by omega)
    obtain ⟨d', u', os, us, e1, e2, e3, e4, e5⟩ := hz.step hxM (MGrow.refl _ _)
    cases e1
    refine fin _ os G2 (by omega) hw2 hS e4.here.ops e2 _ fun x G3 hq => ?_
    simp (maxSteps := 1000000) (implicitDefEqProofs := false) only [stp, if_true, if_false, Int.reduceEq, Int.reduceLT, Int.reduceLE, Int.reduceGT, Int.reduceGE, reduceCtorEq, Nat.reduceEqDiff, List.getElem?_cons_zero, List.getElem?_cons_succ, Option.map_some, if_true]
    obtain ⟨a1, M2, b1, b2, b3, os', a3, a4⟩ := hq
    exact ⟨a1, M2, b1, b2, b3, x, os', by trivial, a3, a4⟩
end Go.Proofs.YtkmaikggdbielaaGreatDoor.Fw

/- A history pushes; begins; is made. No condition. -/
namespace Go.Proofs.YtkmaikggdbielaaGreatDoor.Fw
open Go
set_option linter.unusedSimpArgs false
set_option linter.unusedVariables false

theorem HistD.gs {M N : Nat → Prop} {H : Heap} {p : Nat} {s : V} {h : HistC} (q : HistD H M N p s h) {j : Nat} (e : N j) : M j := by
  obtain ⟨_, _, _, _, _, _, _, _, _, _, hn⟩ := q
  exact (hn j e).1
theorem OpsIn.one {H : Heap} {r : V} {os : List OpA} (h : OpsIn H r os) : r.one = true ∧ r.cells = [r] := by
  obtain ⟨_, ⟨rfl, _⟩ | ⟨id, off, cap, rfl, _⟩⟩ := h.sl <;> exact ⟨rfl, rfl⟩
/-- An empty stack. -/
theorem StZ.nil (M : Nat → Prop) (H : Heap) : StZ M H .nils [] [] none := ⟨Vec.nil _ _, fun _ F _ => ⟨by simp, .inl ⟨rfl, rfl⟩⟩, (fun j e => by cases e), trivial⟩
/-- What can be done again is dropped. -/
theorem HistD.noRedo {M N : Nat → Prop} {H : Heap} (hw : WF H) {p : Nat} {s : V} {h : HistC} (q : HistD H M N p s h) :
    ∃ H', exec (.st 1) [.ptr p (0 + 4), .nils] H = some (.undef, H') ∧ WF H' ∧ HistS H M N p s H' { h with redo := [] } := by
  obtain ⟨uv, rv, ov, ue, re, oe, uk, rk, ok, q, hn⟩ := q
  obtain ⟨G, e, w, g, n, gn, k⟩ := st_row hw (k := 0 + 4) (v := .nils) q.at' (by simp) rfl rfl rfl
  have hM : ExtM M H G := ⟨gn, by omega, fun j hj hm => k j fun e => hm (by rw [e]; exact q.mp)⟩
  refine ⟨G, e, w, M, ⟨uv, .nils, ov, ue, [], oe, uk, none, ok, ⟨by have := q.lt; omega, q.mp, fun j e => by have := q.mb j e; omega, g, ?_, StZ.nil _ _, ?_, ?_, fun j e => ⟨by simp, (q.ur j e).2⟩, by simp⟩, fun j e => ?_⟩, hM.minus fun j hj e => k j (hn j e).2.1, MGrow.refl M H⟩
  · exact q.us.step hM (MGrow.refl M H) fun j e => ⟨k j (q.kp j (.inl e)), q.us.own j e⟩
  · exact q.os.step hM (MGrow.refl M H) fun j e => ⟨k j (q.kp j (.inr (.inr e))), q.os.own j e⟩
  · rintro j (e | e | e)
    · exact q.kp j (.inl e)
    · cases e
    · exact q.kp j (.inr (.inr e))
  · obtain ⟨a1, a2, a3, a4, a5⟩ := hn j e
    exact ⟨a1, a2, a3, by simp, a5⟩
/-- A bracket is opened or closed, and is empty. -/
theorem HistD.setOpen {M N : Nat → Prop} {H : Heap} (hw : WF H) {p : Nat} {s : V} {h : HistC} (q : HistD H M N p s h) (b : Bool) :
    ∃ H1 H', exec (.st 1) [.ptr p (0 + 5), .bool b] H = some (.undef, H1) ∧ exec (.st 1) [.ptr p (0 + 6), .nils] H1 = some (.undef, H') ∧ WF H' ∧ HistS H M N p s H' { h with opened := b, own := [] } := by
  obtain ⟨uv, rv, ov, ue, re, oe, uk, rk, ok, q, hn⟩ := q
  obtain ⟨G1, e1, w1, g1, n1, gn1, k1⟩ := st_row hw (k := 0 + 5) (v := .bool b) q.at' (by simp) rfl rfl rfl
  obtain ⟨G, e, w, g, n, gn, k⟩ := st_row w1 (k := 0 + 6) (v := .nils) g1 (by simp) rfl rfl rfl
  have kk : ∀ j, j ≠ p → G.get j = H.get j := fun j hj => by rw [k j hj, k1 j hj]
  have hM : ExtM M H G := ⟨by rw [gn, gn1], by omega, fun j hj hm => kk j fun e => hm (by rw [e]; exact q.mp)⟩
  refine ⟨G1, G, e1, e, w, M, ⟨uv, rv, .nils, ue, re, [], uk, rk, none, ⟨by have := q.lt; omega, q.mp, fun j e => by have := q.mb j e; omega, g, ?_, ?_, StZ.nil _ _, ?_, fun j e => ⟨(q.ur j e).1, by simp⟩, by simp⟩, fun j e => ?_⟩, hM.minus fun j hj e => kk j (hn j e).2.1, MGrow.refl M H⟩
  · exact q.us.step hM (MGrow.refl M H) fun j e => ⟨kk j (q.kp j (.inl e)), q.us.own j e⟩
  · exact q.rs.step hM (MGrow.refl M H) fun j e => ⟨kk j (q.kp j (.inr (.inl e))), q.rs.own j e⟩
  · rintro j (e | e | e)
    · exact q.kp j (.inl e)
    · exact q.kp j (.inr (.inl e))
    · cases e
  · obtain ⟨a1, a2, a3, a4, a5⟩ := hn j e
    exact ⟨a1, a2, a3, a4, by simp⟩
theorem HistD.lo {M N : Nat → Prop} {H : Heap} {p : Nat} {s : V} {h : HistC} (q : HistD H M N p s h) : exec (.ld 1) [.ptr p (0 + 5)] H = some (.bool h.opened, H) := by
  obtain ⟨uv, rv, ov, ue, re, oe, uk, rk, ok, q, hn⟩ := q
  exact q.at7.ld (j := 5) (v := .bool h.opened) rfl 1
theorem x_build2 {a b : V} (ha : a.cells = [a]) (hb : b.cells = [b]) (H : Heap) : exec (.build [.nils, .nils] [(0, 1), (1, 1)]) [a, b] H = some (.agg [a, b], H) := by
  have hf : fillA [V.nils, .nils] [((0, 1), a), ((1, 1), b)] = some [a, b] := by
    simp only [fillA, ha, hb]
    rfl
  simp only [exec, List.length_cons, List.length_nil, if_true, List.zip_cons_cons, List.zip_nil_right, hf, Option.map_some, Option.bind_some]
set_option maxRecDepth 20000 in
set_option maxHeartbeats 2000000 in
theorem pushH {H : Heap} {M N : Nat → Prop} {p : Nat} {s : V} {h : HistC} (q : HistD H M N p s h) (ho : h.opened = false) {x y : V} {os us : List OpA} (hx : OpsIn H x os) (hy : OpsIn H y us) (hl : h.undo.length + 1 ≤ big) (hm : 0 ≤ h.max) (hmb : h.max ≤ 65536) :
    SCalls PP 13 [.ptr p 0, x, y] H fun r H' => WF H' ∧ r = .int .i64 0 ∧ HistS H M N p s H' { h with undo := keepL h.max (h.undo ++ [⟨os.map OpA.con, us.map OpA.con⟩]), redo := [] } := by
  refine SCalls.go c13 (by simp [fn13]) fun hw => ?_
  simp (maxSteps := 1000000) (implicitDefEqProofs := false) only [stp, if_true, if_false, Int.reduceEq, Int.reduceLT, Int.reduceLE, Int.reduceGT, Int.reduceGE, reduceCtorEq, Nat.reduceEqDiff, List.getElem?_cons_zero, List.getElem?_cons_succ, Option.map_some, fn13, enterFr, List.length, List.range, List.range.loop, List.zip, List.zipWith]
  refine SCalls.mono (readyH q.toI) ?_
  rintro r0 G0 ⟨rfl, rfl⟩
  simp (maxSteps := 1000000) (implicitDefEqProofs := false) only [stp, if_true, if_false, Int.reduceEq, Int.reduceLT, Int.reduceLE, Int.reduceGT, Int.reduceGE, reduceCtorEq, Nat.reduceEqDiff, List.getElem?_cons_zero, List.getElem?_cons_succ, Option.map_some, Bool.not_true, Bool.false_eq_true]
  refine SCalls.mono (copy_calls hx) ?_
  rintro a G1 ⟨hx1, hw1, os', fa, ca⟩
  simp (maxSteps := 1000000) (implicitDefEqProofs := false) only [stp, if_true, if_false, Int.reduceEq, Int.reduceLT, Int.reduceLE, Int.reduceGT, Int.reduceGE, reduceCtorEq, Nat.reduceEqDiff, List.getElem?_cons_zero, List.getElem?_cons_succ, Option.map_some, if_true]
  refine SCalls.mono (copy_calls (hy.ext hx1)) ?_
  rintro b G2 ⟨hx2, hw2, us', fb, cb⟩
  have hb := x_build2 fa.one.2 fb.one.2 G2
  have hone : ([a, b] : List V).all V.one = true := by simp [fa.one.1, fb.one.1]
  obtain ⟨G3, hx3, hw3, ht3, c1, c2⟩ := x_copy (Ext.refl G2) hw2 (z := [.nils, .nils]) (e := [a, b]) (n := 2) rfl rfl rfl hone
  have h13 := hx1.trans (hx2.trans hx3)
  have q3 := q.grow h13
  have lo := q3.lo
  rw [ho] at lo
  have la := ht3.lda (n := 2) rfl
  simp (maxSteps := 1000000) (implicitDefEqProofs := false) only [stp, if_true, if_false, Int.reduceEq, Int.reduceLT, Int.reduceLE, Int.reduceGT, Int.reduceGE, reduceCtorEq, Nat.reduceEqDiff, List.getElem?_cons_zero, List.getElem?_cons_succ, Option.map_some, hb, c1, c2, lo, la]
  have n1 := hx1.next
  have n2 := hx2.next
  have hz : GrpZ M G3 [a, b] ⟨os.map OpA.con, us.map OpA.con⟩ := by
    have mm : ∀ n, G0.next ≤ n → MGrow (fun j => j < n) M G3 := fun n hn j e => .inl (Nat.lt_of_lt_of_le (q.mb e) hn)
    refine ⟨a, b, os', us', rfl, ca, cb, ?_, ?_⟩
    · exact (Fz.step fa ((hx2.trans hx3).toM _) (MGrow.refl _ _)).step (ExtM.refl _ _) (mm _ (Nat.le_refl _))
    · exact (Fz.step fb (hx3.toM _) (MGrow.refl _ _)).step (ExtM.refl _ _) (mm _ n1)
  refine SCalls.mono (keep_calls q3 hz hone hl hm hmb) ?_
  rintro r4 G4 ⟨hw4, hS4⟩
  obtain ⟨M4, q4, e4, g4⟩ := hS4
  obtain ⟨G5, st, hw5, hS5⟩ := q4.noRedo hw4
  simp (maxSteps := 1000000) (implicitDefEqProofs := false) only [stp, if_true, if_false, Int.reduceEq, Int.reduceLT, Int.reduceLE, Int.reduceGT, Int.reduceGE, reduceCtorEq, Nat.reduceEqDiff, List.getElem?_cons_zero, List.getElem?_cons_succ, Option.map_some, st]
  refine ⟨hw5, by trivial, ?_⟩
  exact HistD.before h13 (HistS.then ⟨M4, q4, e4, g4⟩ fun M' q' => by
    obtain ⟨G5', st', _, hS'⟩ := q'.noRedo hw4
    rw [st] at st'
    cases st'
    exact hS') fun j e => q.mb e
theorem beginH_no {H : Heap} {M N : Nat → Prop} {p : Nat} {s : V} {h : HistC} (q : HistD H M N p s h) (ho : h.opened = true) :
    SCalls PP 22 [.ptr p 0] H fun r H' => H' = H ∧ r = .int .i64 9 := by
  refine SCalls.go c22 (by simp [fn22]) fun hw => ?_
  simp (maxSteps := 1000000) (implicitDefEqProofs := false) only [stp, if_true, if_false, Int.reduceEq, Int.reduceLT, Int.reduceLE, Int.reduceGT, Int.reduceGE, reduceCtorEq, Nat.reduceEqDiff, List.getElem?_cons_zero, List.getElem?_cons_succ, Option.map_some, fn22, enterFr, List.length, List.range, List.range.loop, List.zip, List.zipWith]
  refine SCalls.mono (readyH q.toI) ?_
  rintro r0 G0 ⟨rfl, rfl⟩
  have lo := q.lo
  rw [ho] at lo
  simp (maxSteps := 1000000) (implicitDefEqProofs := false) only [stp, if_true, if_false, Int.reduceEq, Int.reduceLT, Int.reduceLE, Int.reduceGT, Int.reduceGE, reduceCtorEq, Nat.reduceEqDiff, List.getElem?_cons_zero, List.getElem?_cons_succ, Option.map_some, Bool.not_true, Bool.false_eq_true, lo]
  exact ⟨by trivial, by trivial⟩
theorem beginH_ok {H : Heap} {M N : Nat → Prop} {p : Nat} {s : V} {h : HistC} (q : HistD H M N p s h) (ho : h.opened = false) :
    SCalls PP 22 [.ptr p 0] H fun r H' => WF H' ∧ r = .int .i64 0 ∧ HistS H M N p s H' { h with opened := true, own := [] } := by
  refine SCalls.go c22 (by simp [fn22]) fun hw => ?_
  simp (maxSteps := 1000000) (implicitDefEqProofs := false) only [stp, if_true, if_false, Int.reduceEq, Int.reduceLT, Int.reduceLE, Int.reduceGT, Int.reduceGE, reduceCtorEq, Nat.reduceEqDiff, List.getElem?_cons_zero, List.getElem?_cons_succ, Option.map_some, fn22, enterFr, List.length, List.range, List.range.loop, List.zip, List.zipWith]
  refine SCalls.mono (readyH q.toI) ?_
  rintro r0 G0 ⟨rfl, rfl⟩
  have lo := q.lo
  rw [ho] at lo
  obtain ⟨H1, H', s1, s2, hw', hS⟩ := q.setOpen hw true
  simp (maxSteps := 1000000) (implicitDefEqProofs := false) only [stp, if_true, if_false, Int.reduceEq, Int.reduceLT, Int.reduceLE, Int.reduceGT, Int.reduceGE, reduceCtorEq, Nat.reduceEqDiff, List.getElem?_cons_zero, List.getElem?_cons_succ, Option.map_some, Bool.not_true, Bool.false_eq_true, lo, s1, s2]
  exact ⟨hw', by trivial, hS⟩
theorem newH_no {H : Heap} {s : V} {mx : Int} (hm : mx < 0 ∨ mx > 65536) : SCalls PP 10 [s, .int .i64 mx] H fun r H' => H' = H ∧ r = .tup [.nilp, .int .i64 2] := by
  refine SCalls.go c10 (by simp [fn10]) fun hw => ?_
  by_cases h1 : mx < 0
  · simp (maxSteps := 1000000) (implicitDefEqProofs := false) only [stp, if_true, if_false, Int.reduceEq, Int.reduceLT, Int.reduceLE, Int.reduceGT, Int.reduceGE, reduceCtorEq, Nat.reduceEqDiff, List.getElem?_cons_zero, List.getElem?_cons_succ, Option.map_some, fn10, enterFr, List.length, List.range, List.range.loop, List.zip, List.zipWith, h1, Bool.false_eq_true]
    exact ⟨by trivial, by trivial⟩
  have h2 := hm.resolve_left h1
  simp (maxSteps := 1000000) (implicitDefEqProofs := false) only [stp, if_true, if_false, Int.reduceEq, Int.reduceLT, Int.reduceLE, Int.reduceGT, Int.reduceGE, reduceCtorEq, Nat.reduceEqDiff, List.getElem?_cons_zero, List.getElem?_cons_succ, Option.map_some, fn10, enterFr, List.length, List.range, List.range.loop, List.zip, List.zipWith, h1, h2, Bool.false_eq_true]
  exact ⟨by trivial, by trivial⟩
theorem newH_ok {H : Heap} {s : V} (hs : s.cells = [s] ∧ s.one = true) {mx : Int} (h0 : 0 ≤ mx) (h0' : mx ≤ 65536) : SCalls PP 10 [s, .int .i64 mx] H fun r H' => WF H' ∧ Ext H H' ∧
    r = .tup [.ptr H.next 0, .int .i64 0] ∧ ∀ M N : Nat → Prop, (∀ j, M j → j < H.next) → (∀ j, N j → M j) → HistD H' (fun j => M j ∨ j = H.next) N H.next s ⟨mx, [], [], false, []⟩ := by
  refine SCalls.go c10 (by simp [fn10]) fun hw => ?_
  have h1 : ¬ mx < 0 := by omega
  have h2 : ¬ mx > 65536 := by omega
  have hb : ∀ G, exec (.build [.nilp, .int .i64 0, .bool false, .nils, .nils, .bool false, .nils] [(0, 1), (1, 1), (2, 1)]) [s, .int .i64 mx, .bool true] G = some (.agg [s, .int .i64 mx, .bool true, .nils, .nils, .bool false, .nils], G) := fun G => by
    have hf : fillA [V.nilp, .int .i64 0, .bool false, .nils, .nils, .bool false, .nils] [((0, 1), s), ((1, 1), .int .i64 mx), ((2, 1), .bool true)] = some [s, .int .i64 mx, .bool true, .nils, .nils, .bool false, .nils] := by
      simp only [fillA, hs.1]
      rfl
    simp only [exec, List.length_cons, List.length_nil, if_true, List.zip_cons_cons, List.zip_nil_right, hf, Option.map_some, Option.bind_some]
  have hone : ([s, .int .i64 mx, .bool true, .nils, .nils, .bool false, .nils] : List V).all V.one = true := by
    simp only [List.all_cons, List.all_nil, Bool.and_true, hs.2]
    rfl
  obtain ⟨H2, hx2, hw2, ha2, hb2⟩ := x_boxed (Ext.refl H) hw (e := [s, .int .i64 mx, .bool true, .nils, .nils, .bool false, .nils]) hone
  have hget : H2.get H.next = some (.row false 7 [s, .int .i64 mx, .bool true, .nils, .nils, .bool false, .nils]) ∧ H2.next = H.next + 1 := by
    have := x_box H (.agg [s, .int .i64 mx, .bool true, .nils, .nils, .bool false, .nils]) hone
    rw [this] at hb2
    cases hb2
    exact ⟨new_get _ _, rfl⟩
  simp (maxSteps := 1000000) (implicitDefEqProofs := false) only [stp, if_true, if_false, Int.reduceEq, Int.reduceLT, Int.reduceLE, Int.reduceGT, Int.reduceGE, reduceCtorEq, Nat.reduceEqDiff, List.getElem?_cons_zero, List.getElem?_cons_succ, Option.map_some, fn10, enterFr, List.length, List.range, List.range.loop, List.zip, List.zipWith, h1, h2, hb, hb2, Bool.false_eq_true]
  refine ⟨hw2, hx2, by trivial, fun M N hM hN => ⟨.nils, .nils, .nils, [], [], [], none, none, none, ⟨by omega, .inr rfl, fun j e => ?_, hget.1, StZ.nil _ _, StZ.nil _ _, StZ.nil _ _, by simp, by simp, by simp⟩, fun j e => ⟨.inl (hN j e), ?_, by simp, by simp, by simp⟩⟩⟩
  · rcases e with e | e
    · have := hM j e; omega
    · omega
  · have := hM j (hN j e); omega
/-- The delete that in tells. -/
abbrev delCells (n : Int) : List V := [.int .u8 3, .int .i64 n, .nils, .nils, .nils]
theorem del_ops {G : Heap} {id : Nat} {n : Int} (hl : id < G.next) (hg : G.get id = some (.row false 5 (delCells n))) (h1 : -9223372036854775808 ≤ n) (h2 : n ≤ 9223372036854775807) : OpsIn G (.slice id 0 1 (some 1)) [⟨3, n, .nils, .nils, .nils, [], [], []⟩] := by
  have ow : Own G id 5 [delCells n] := ⟨hl, by simpa using hg, fun e he => by simp only [List.mem_cons, List.not_mem_nil, or_false] at he; subst he; exact ⟨rfl, rfl⟩⟩
  have nl : ∀ sz, SL G .nils sz [] := fun sz => ⟨by simp, .inl ⟨rfl, rfl⟩⟩
  refine ⟨ow.sl (some 1), fun o ho => ?_, by simp [big]⟩
  simp only [List.mem_cons, List.not_mem_nil, or_false] at ho
  subst ho
  exact ⟨nl 1, nl 5, nl 6, by simp [big], by simp [big], by simp [big], by simp, by simp, h1, h2⟩
/-- An insert of one rune, and what takes it away. -/
theorem in_calls (c : Int) (H : Heap) : SCalls PP 12 [.int .i32 c] H fun r H' => WF H' ∧ Ext H H' ∧ ∃ x id o, r = .tup [x, .slice id 0 1 (some 1)] ∧ H.next ≤ id ∧ id < H'.next ∧ H'.get id = some (.row false 5 (delCells 1)) ∧ o.con = ⟨2, 0, [c], [], []⟩ ∧
    ∀ G, ExtM (fun j => j = id ∨ j < H.next) H' G → OpsIn G x [o] := by
  refine SCalls.go c12 (by simp [fn12]) fun hw => ?_
  have e1 : exec (.bsl 1 1 [.int .i32 0] [(0, 1)]) [.int .i32 c] H = some (.slice H.next 0 1 (some 1), H.new (.row false 1 [.int .i32 c])) := rfl
  have hx1 : Ext H (H.new (.row false 1 [.int .i32 c])) := (Ext.refl H).new _
  have hw1 : WF (H.new (.row false 1 [.int .i32 c])) := hw.new _
  have g1 := new_get H (.row false 1 [.int .i32 c])
  have n1 : (H.new (.row false 1 [.int .i32 c])).next = H.next + 1 := rfl
  generalize H.new (.row false 1 [.int .i32 c]) = H1 at *
  have b1 : ∀ G, exec (.build [.int .u8 0, .int .i64 0, .nils, .nils, .nils] [(0, 1), (2, 1)]) [.int .u8 2, .slice H.next 0 1 (some 1)] G = some (.agg [.int .u8 2, .int .i64 0, .slice H.next 0 1 (some 1), .nils, .nils], G) := fun _ => rfl
  have b2 : ∀ G, exec (.build [.int .u8 0, .int .i64 0, .nils, .nils, .nils] [(0, 1), (1, 1)]) [.int .u8 3, .int .i64 1] G = some (.agg (delCells 1), G) := fun _ => rfl
  have e2 : exec (.bsl 5 1 [.int .u8 0, .int .i64 0, .nils, .nils, .nils] [(0, 5)]) [.agg [.int .u8 2, .int .i64 0, .slice H.next 0 1 (some 1), .nils, .nils]] H1 = some (.slice H1.next 0 1 (some 1), H1.new (.row false 5 [.int .u8 2, .int .i64 0, .slice H.next 0 1 (some 1), .nils, .nils])) := rfl
  have hx2 : Ext H1 (H1.new (.row false 5 [.int .u8 2, .int .i64 0, .slice H.next 0 1 (some 1), .nils, .nils])) := (Ext.refl H1).new _
  have hw2 : WF (H1.new (.row false 5 [.int .u8 2, .int .i64 0, .slice H.next 0 1 (some 1), .nils, .nils])) := hw1.new _
  have g2 := new_get H1 (.row false 5 [.int .u8 2, .int .i64 0, .slice H.next 0 1 (some 1), .nils, .nils])
  have n2 : (H1.new (.row false 5 [.int .u8 2, .int .i64 0, .slice H.next 0 1 (some 1), .nils, .nils])).next = H1.next + 1 := rfl
  generalize H1.new (.row false 5 [.int .u8 2, .int .i64 0, .slice H.next 0 1 (some 1), .nils, .nils]) = H2 at *
  have e3 : exec (.bsl 5 1 [.int .u8 0, .int .i64 0, .nils, .nils, .nils] [(0, 5)]) [.agg (delCells 1)] H2 = some (.slice H2.next 0 1 (some 1), H2.new (.row false 5 (delCells 1))) := rfl
  have hx3 : Ext H2 (H2.new (.row false 5 (delCells 1))) := (Ext.refl H2).new _
  have hw3 : WF (H2.new (.row false 5 (delCells 1))) := hw2.new _
  have g3 := new_get H2 (.row false 5 (delCells 1))
  have n3 : (H2.new (.row false 5 (delCells 1))).next = H2.next + 1 := rfl
  generalize H2.new (.row false 5 (delCells 1)) = H3 at *
  simp (maxSteps := 1000000) (implicitDefEqProofs := false) only [stp, if_true, if_false, Int.reduceEq, Int.reduceLT, Int.reduceLE, Int.reduceGT, Int.reduceGE, reduceCtorEq, Nat.reduceEqDiff, List.getElem?_cons_zero, List.getElem?_cons_succ, Option.map_some, fn12, enterFr, List.length, List.range, List.range.loop, List.zip, List.zipWith, e1, b1, e2, b2, e3]
  refine ⟨hw3, hx1.trans (hx2.trans hx3), _, H2.next, ⟨2, 0, .slice H.next 0 1 (some 1), .nils, .nils, [c], [], []⟩, by trivial, by omega, by omega, g3, rfl, fun G hG => ?_⟩
  have nl : ∀ sz, SL G .nils sz [] := fun sz => ⟨by simp, .inl ⟨rfl, rfl⟩⟩
  have hGn := hG.next
  have r1 : Own G H.next 1 [[V.int .i32 c]] := ⟨by omega, by rw [hG.get _ (by omega) (by omega), hx3.get _ (by omega), hx2.get _ (by omega)]; simpa using g1, fun e he => by simp only [List.mem_cons, List.not_mem_nil, or_false] at he; subst he; exact ⟨rfl, rfl⟩⟩
  have r2 : Own G H1.next 5 [[.int .u8 2, .int .i64 0, .slice H.next 0 1 (some 1), .nils, .nils]] := ⟨by omega, by rw [hG.get _ (by omega) (by omega), hx3.get _ (by omega)]; simpa using g2, fun e he => by simp only [List.mem_cons, List.not_mem_nil, or_false] at he; subst he; exact ⟨rfl, rfl⟩⟩
  refine ⟨r2.sl (some 1), fun o ho => ?_, by simp [big]⟩
  simp only [List.mem_cons, List.not_mem_nil, or_false] at ho
  subst ho
  exact ⟨r1.sl (some 1), nl 5, nl 6, by simp [big], by simp [big], by simp [big], by simp, by simp, by simp, by simp⟩
end Go.Proofs.YtkmaikggdbielaaGreatDoor.Fw

/- The document's Same of two deltas. No condition. -/
namespace Go.Proofs.YtkmaikggdbielaaGreatDoor.Fw
open Go
set_option linter.unusedSimpArgs false
set_option linter.unusedVariables false

def refEqFn (sz : Nat) (ld cmp : AK) : AFn := ⟨26,
 (.seq
  (.region [⟨some 4, none, .ex (.mov) [.k (.bool false)]⟩])
  (.seq
   (.seq
    (.region [⟨some 6, none, .ex (.mov) [.s 0]⟩,
      ⟨some 7, none, .ex (.len) [.s 6]⟩,
      ⟨some 8, none, .ex (.mov) [.s 1]⟩,
      ⟨some 9, none, .ex (.len) [.s 8]⟩,
      ⟨some 10, none, .ex (.ibin .neq) [.s 7, .s 9]⟩])
    (.cond (.s 10)
     (.seq
      (.region [⟨some 4, none, .ex (.mov) [.k (.bool false)]⟩])
      .ret)
     .skip))
   (.seq
    (.seq
     (.region [⟨some 5, none, .ex (.mov) [.k (.int .i64 0)]⟩])
     (.block 0
      (.loop
       (.seq
        (.seq
         (.region [⟨some 11, none, .ex (.mov) [.s 5]⟩,
           ⟨some 12, none, .ex (.mov) [.s 0]⟩,
           ⟨some 13, none, .ex (.len) [.s 12]⟩,
           ⟨some 14, none, .ex (.ibin .lss) [.s 11, .s 13]⟩])
         (.cond (.s 14)
          .skip
          (.exit 0)))
        (.seq
         (.block 1
          (.seq
           (.draw (.op ⟨some 17, none, .ex (.mov) [.s 0]⟩ (.op ⟨some 18, none, .ex (.mov) [.s 5]⟩ (.op ⟨some 19, none, .ex (.ia sz) [.s 17, .s 18]⟩ (.op ⟨some 20, none, .ex ld [.s 19]⟩ (.op ⟨some 21, none, .ex (.mov) [.s 1]⟩ (.op ⟨some 22, none, .ex (.mov) [.s 5]⟩ (.op ⟨some 23, none, .ex (.ia sz) [.s 21, .s 22]⟩ (.op ⟨some 24, none, .ex ld [.s 23]⟩ (.op ⟨some 25, none, .ex cmp [.s 20, .s 24]⟩ .done))))))))))
           (.cond (.s 25)
            (.seq
             (.region [⟨some 4, none, .ex (.mov) [.k (.bool false)]⟩])
             .ret)
            .skip)))
         (.region [⟨some 15, none, .ex (.mov) [.s 5]⟩,
           ⟨some 16, none, .ex (.ibin .add) [.s 15, .k (.int .i64 1)]⟩,
           ⟨some 5, none, .ex (.mov) [.s 16]⟩]))))))
    (.seq
     (.region [⟨some 4, none, .ex (.mov) [.k (.bool true)]⟩])
     .ret)))),
 [.t 4]⟩
set_option maxRecDepth 20000 in
set_option maxHeartbeats 2000000 in
theorem refEq_gen {f : FuncId} {sz : Nat} {ld cmp : AK} {α : Type} {enc : α → List V} {ldv : α → V} {eq : α → α → Bool} (hc : compFn PP f = some (refEqFn sz ld cmp))
    (hld : ∀ a H id o, At H id o (enc a) → exec ld [.ptr id o] H = some (ldv a, H)) {x y : V} {H : Heap} {us bs : List α} (hcmp : ∀ a ∈ us, ∀ b ∈ bs, ∀ H, exec cmp [ldv a, ldv b] H = some (.bool (!eq a b), H))
    (hx : SL H x sz (us.map enc)) (hy : SL H y sz (bs.map enc)) (hl : us.length ≤ big) : SCalls PP f [x, y] H fun r H' => H' = H ∧ r = .bool (listEq eq us bs) := by
  refine SCalls.go hc (by simp [refEqFn]) fun hw => ?_
  unfold big at hl
  have hlx : ∀ G, exec .len [x] G = some (.int .i64 us.length, G) := fun G => by have := hx.len (H' := G); rwa [List.length_map] at this
  have hly : ∀ G, exec .len [y] G = some (.int .i64 bs.length, G) := fun G => by have := hy.len (H' := G); rwa [List.length_map] at this
  by_cases hne : (us.length : Int) = bs.length
  rotate_left
  · simp (maxSteps := 1000000) (implicitDefEqProofs := false) only [stp, if_true, if_false, Int.reduceEq, Int.reduceLT, Int.reduceLE, Int.reduceGT, Int.reduceGE, reduceCtorEq, Nat.reduceEqDiff, List.getElem?_cons_zero, List.getElem?_cons_succ, Option.map_some, refEqFn, enterFr, List.length, List.range, List.range.loop, List.zip, List.zipWith, hlx, hly, hne]
    exact ⟨by trivial, by rw [listEq_len (by omega)]⟩
  have hne' : us.length = bs.length := by omega
  simp (maxSteps := 1000000) (implicitDefEqProofs := false) only [stp, if_true, if_false, Int.reduceEq, Int.reduceLT, Int.reduceLE, Int.reduceGT, Int.reduceGE, reduceCtorEq, Nat.reduceEqDiff, List.getElem?_cons_zero, List.getElem?_cons_succ, Option.map_some, refEqFn, enterFr, List.length, List.range, List.range.loop, List.zip, List.zipWith, hlx, hly, hne]
  refine wp_loopI (fun m fr G => ∃ k : Nat, m = us.length - k ∧ k ≤ us.length ∧ G = H ∧ listEq eq (us.drop k) (bs.drop k) = listEq eq us bs ∧ FrSub [(5, .int .i64 k), (0, x), (1, y)] fr) us.length ⟨0, rfl, Nat.zero_le _, rfl, rfl, .cons rfl (.cons rfl (.cons rfl .nil))⟩ ?_
  rintro m fr G ⟨k, rfl, hk, rfl, hacc, hsub⟩
  refine ⟨_, hsub, ?_⟩
  by_cases hlt : (k : Int) < us.length
  · have hk1 : k < us.length := by omega
    have hk2 : k < bs.length := by omega
    obtain ⟨i1, o1, ha1, ht1⟩ := hx.ia (H' := G) (i := k) (e := enc us[k]) (by rw [List.getElem?_map, List.getElem?_eq_getElem hk1]; rfl) .i64
    obtain ⟨i2, o2, ha2, ht2⟩ := hy.ia (H' := G) (i := k) (e := enc bs[k]) (by rw [List.getElem?_map, List.getElem?_eq_getElem hk2]; rfl) .i64
    rw [List.drop_eq_getElem_cons hk1, List.drop_eq_getElem_cons hk2] at hacc
    simp only [listEq] at hacc
    have hcm := hcmp us[k] (List.getElem_mem hk1) bs[k] (List.getElem_mem hk2) G
    have hw1 : IntKind.i64.wrap ((k : Int) + 1) = ((k + 1 : Nat) : Int) := by rw [wrap_i64 (by omega) (by omega)]; omega
    cases he : eq us[k] bs[k] with
    | true =>
      rw [he] at hacc hcm
      simp (maxSteps := 1000000) (implicitDefEqProofs := false) only [stp, if_true, if_false, Int.reduceEq, Int.reduceLT, Int.reduceLE, Int.reduceGT, Int.reduceGE, reduceCtorEq, Nat.reduceEqDiff, List.getElem?_cons_zero, List.getElem?_cons_succ, Option.map_some, hlx, ← hne, hlt, ha1, ha2, hld _ _ _ _ ht1, hld _ _ _ _ ht2, hcm, hw1]
      exact ⟨us.length - (k + 1), by omega, k + 1, rfl, by omega, by trivial, by simpa using hacc, .cons rfl (.cons rfl (.cons rfl .nil))⟩
    | false =>
      rw [he] at hacc hcm
      simp (maxSteps := 1000000) (implicitDefEqProofs := false) only [stp, if_true, if_false, Int.reduceEq, Int.reduceLT, Int.reduceLE, Int.reduceGT, Int.reduceGE, reduceCtorEq, Nat.reduceEqDiff, List.getElem?_cons_zero, List.getElem?_cons_succ, Option.map_some, hlx, ← hne, hlt, ha1, ha2, hld _ _ _ _ ht1, hld _ _ _ _ ht2, hcm]
      exact ⟨by trivial, by rw [← hacc]; rfl⟩
  · obtain rfl : k = us.length := by omega
    simp (maxSteps := 1000000) (implicitDefEqProofs := false) only [stp, if_true, if_false, Int.reduceEq, Int.reduceLT, Int.reduceLE, Int.reduceGT, Int.reduceGE, reduceCtorEq, Nat.reduceEqDiff, List.getElem?_cons_zero, List.getElem?_cons_succ, Option.map_some, hlx, ← hne, hlt]
    rw [List.drop_length, List.drop_of_length_le (by omega)] at hacc
    exact ⟨by trivial, by rw [← hacc]; rfl⟩
theorem refSameR {x y : V} {H : Heap} {us bs : List Int} (hx : SL H x 1 (us.map fun r => [V.int .i32 r])) (hy : SL H y 1 (bs.map fun r => [V.int .i32 r])) (hl : us.length ≤ big) :
    SCalls PP 41 [x, y] H fun r H' => H' = H ∧ r = .bool (listEq runeEq us bs) :=
  refEq_gen (enc := fun r => [V.int .i32 r]) (ldv := fun r => .int .i32 r) (eq := runeEq) (show compFn PP 41 = some (refEqFn 1 (.ld 1) (.ibin .neq)) from c41)
    (fun a H id o h => by have := h.ld (j := 0) (v := .int .i32 a) rfl 1; rwa [Nat.add_zero] at this) (fun a _ b _ H => by rw [x_neq]; rfl) hx hy hl
theorem refSameA {x y : V} {H : Heap} {us bs : List AttrA} (hx : SL H x 5 (us.map AttrA.cells)) (hy : SL H y 5 (bs.map AttrA.cells)) (hl : us.length ≤ big) :
    SCalls PP 42 [x, y] H fun r H' => H' = H ∧ r = .bool (listEq attrEq us bs) :=
  refEq_gen (enc := AttrA.cells) (ldv := fun a => .agg a.cells) (eq := attrEq) (show compFn PP 42 = some (refEqFn 5 (.lda 5) (.eqagg true [0, 0, 0, 0, 2])) from c42)
    (fun a H id o h => h.lda (n := 5) rfl) (fun a _ b _ H => x_eqattr a b H) hx hy hl
theorem refSameC {x y : V} {H : Heap} {us bs : List ChgA} (hx : SL H x 6 (us.map ChgA.cells)) (hy : SL H y 6 (bs.map ChgA.cells)) (hl : us.length ≤ big) :
    SCalls PP 43 [x, y] H fun r H' => H' = H ∧ r = .bool (listEq chgEq us bs) :=
  refEq_gen (enc := ChgA.cells) (ldv := fun a => .agg a.cells) (eq := chgEq) (show compFn PP 43 = some (refEqFn 6 (.lda 6) (.eqagg true [0, 1, 0, 0, 0, 2])) from c43)
    (fun a H id o h => h.lda (n := 6) rfl) (fun a _ b _ H => x_eqchg a b H) hx hy hl
end Go.Proofs.YtkmaikggdbielaaGreatDoor.Fw

/- The document's Same of two deltas: the whole. No condition. -/
namespace Go.Proofs.YtkmaikggdbielaaGreatDoor.Fw
open Go
set_option linter.unusedSimpArgs false
set_option linter.unusedVariables false

/-- Two copies of elements, made in either order. -/
theorem x_two {H : Heap} (hw : WF H) {e e' : List V} (hn : e.length = 5) (hn' : e'.length = 5) (ho : e.all V.one = true) (ho' : e'.all V.one = true) :
    ∃ H1 H2, exec (.alloc zo) [] H = some (.ptr H.next 0, H1) ∧ exec (.alloc zo) [] H1 = some (.ptr (H.next + 1) 0, H2) ∧ Ext H H1 ∧ Ext H H2 ∧ ∀ (a b : Nat) (hab : (a = H.next ∧ b = H.next + 1) ∨ (b = H.next ∧ a = H.next + 1)), ∃ H3 H4, exec (.st 5) [.ptr a 0, .agg e] H2 = some (.undef, H3) ∧ exec (.st 5) [.ptr b 0, .agg e'] H3 = some (.undef, H4) ∧
      Ext H H3 ∧ Ext H H4 ∧ WF H4 ∧ At H4 a 0 e ∧ At H4 b 0 e' := by
  have x1 : Ext H (H.new (.row false 5 zo)) := (Ext.refl H).new _
  have w1 : WF (H.new (.row false 5 zo)) := hw.new _
  have a1 : exec (.alloc zo) [] H = some (.ptr H.next 0, H.new (.row false 5 zo)) := x_alloc H zo rfl
  have g1 := new_get H (.row false 5 zo)
  have n1 : (H.new (.row false 5 zo)).next = H.next + 1 := rfl
  generalize H.new (.row false 5 zo) = H1 at *
  have x2 : Ext H1 (H1.new (.row false 5 zo)) := (Ext.refl H1).new _
  have w2 : WF (H1.new (.row false 5 zo)) := w1.new _
  have a2 : exec (.alloc zo) [] H1 = some (.ptr H1.next 0, H1.new (.row false 5 zo)) := x_alloc H1 zo rfl
  have g2 := new_get H1 (.row false 5 zo)
  have n2 : (H1.new (.row false 5 zo)).next = H1.next + 1 := rfl
  generalize H1.new (.row false 5 zo) = H2 at *
  have x02 := x1.trans x2
  refine ⟨H1, H2, a1, by rw [a2, n1], x1, x02, fun a b hab => ?_⟩
  have ga : H2.get a = some (.row false 5 zo) := by
    rcases hab with ⟨e, _⟩ | ⟨_, e⟩
    · rw [e, x2.get _ (by omega)]; exact g1
    · rw [e, ← n1]; exact g2
  have gb : H2.get b = some (.row false 5 zo) := by
    rcases hab with ⟨_, e⟩ | ⟨e, _⟩
    · rw [e, ← n1]; exact g2
    · rw [e, x2.get _ (by omega)]; exact g1
  have hne : a ≠ b := by omega
  have s1 := x_st (n := 5) (v := .agg e) ga hn rfl ho
  have s2 := x_st (H := H2.set a (.row false 5 e)) (id := b) (esz := 5) (cells := zo) (n := 5) (v := .agg e') (by rw [Heap.set_get, if_neg (Ne.symm hne)]; exact gb) hn' rfl ho'
  have x3 : Ext H (H2.set a (.row false 5 e)) := x02.set (by omega) _
  have x4 : Ext H ((H2.set a (.row false 5 e)).set b (.row false 5 e')) := x3.set (by omega) _
  refine ⟨_, _, s1, s2, x3, x4, (w2.set ga _).set (by rw [Heap.set_get, if_neg (Ne.symm hne)]; exact gb) _, ?_, ?_⟩
  · exact ⟨by simp only [Heap.set_next]; omega, false, 5, e, by rw [Heap.set_get, if_neg hne, set_get'], by omega, fun j v hj => by rw [Nat.zero_add]; exact hj⟩
  · exact ⟨by simp only [Heap.set_next]; omega, false, 5, e', set_get' _ _ _, by omega, fun j v hj => by rw [Nat.zero_add]; exact hj⟩

def sameRest : ACode :=
 (.seq
  (.region [⟨some 27, none, .ex (.fa 0) [.s 6]⟩,
    ⟨some 28, none, .ex (.ld 1) [.s 27]⟩,
    ⟨some 29, none, .ex (.fa 0) [.s 7]⟩,
    ⟨some 30, none, .ex (.ld 1) [.s 29]⟩,
    ⟨some 31, none, .ex (.ibin .neq) [.s 28, .s 30]⟩,
    ⟨some 32, none, .ex (.mov) [.s 31]⟩,
    ⟨some 33, some (32, false), .ex (.fa 1) [.s 6]⟩,
    ⟨some 34, some (32, false), .ex (.ld 1) [.s 33]⟩,
    ⟨some 35, some (32, false), .ex (.fa 1) [.s 7]⟩,
    ⟨some 36, some (32, false), .ex (.ld 1) [.s 35]⟩,
    ⟨some 37, some (32, false), .ex (.ibin .neq) [.s 34, .s 36]⟩,
    ⟨some 38, none, .ex (.pick) [.s 32, .k (.bool true), .s 37]⟩,
    ⟨some 39, none, .ex (.mov) [.s 38]⟩,
    ⟨some 40, some (39, false), .ex (.fa 2) [.s 6]⟩,
    ⟨some 41, some (39, false), .ex (.ld 1) [.s 40]⟩,
    ⟨some 42, some (39, false), .ex (.fa 2) [.s 7]⟩,
    ⟨some 43, some (39, false), .ex (.ld 1) [.s 42]⟩,
    ⟨some 44, some (39, false), .callf 41 [.s 41, .s 43]⟩,
    ⟨some 45, some (39, false), .ex (.bnot) [.s 44]⟩,
    ⟨some 46, none, .ex (.pick) [.s 39, .k (.bool true), .s 45]⟩,
    ⟨some 47, none, .ex (.mov) [.s 46]⟩,
    ⟨some 48, some (47, false), .ex (.fa 3) [.s 6]⟩,
    ⟨some 49, some (47, false), .ex (.ld 1) [.s 48]⟩,
    ⟨some 50, some (47, false), .ex (.fa 3) [.s 7]⟩,
    ⟨some 51, some (47, false), .ex (.ld 1) [.s 50]⟩,
    ⟨some 52, some (47, false), .callf 42 [.s 49, .s 51]⟩,
    ⟨some 53, some (47, false), .ex (.bnot) [.s 52]⟩,
    ⟨some 54, none, .ex (.pick) [.s 47, .k (.bool true), .s 53]⟩,
    ⟨some 55, none, .ex (.mov) [.s 54]⟩,
    ⟨some 56, some (55, false), .ex (.fa 4) [.s 6]⟩,
    ⟨some 57, some (55, false), .ex (.ld 1) [.s 56]⟩,
    ⟨some 58, some (55, false), .ex (.fa 4) [.s 7]⟩,
    ⟨some 59, some (55, false), .ex (.ld 1) [.s 58]⟩,
    ⟨some 60, some (55, false), .callf 43 [.s 57, .s 59]⟩,
    ⟨some 61, some (55, false), .ex (.bnot) [.s 60]⟩,
    ⟨some 62, none, .ex (.pick) [.s 55, .k (.bool true), .s 61]⟩])
  (.cond (.s 62)
   (.seq
    (.region [⟨some 4, none, .ex (.mov) [.k (.bool false)]⟩])
    .ret)
   .skip))
def fn17' : AFn := ⟨63,
 (.seq
  (.region [⟨some 4, none, .ex (.mov) [.k (.bool false)]⟩])
  (.seq
   (.seq
    (.region [⟨some 8, none, .ex (.mov) [.s 0]⟩,
      ⟨some 9, none, .ex (.len) [.s 8]⟩,
      ⟨some 10, none, .ex (.mov) [.s 1]⟩,
      ⟨some 11, none, .ex (.len) [.s 10]⟩,
      ⟨some 12, none, .ex (.ibin .neq) [.s 9, .s 11]⟩])
    (.cond (.s 12)
     (.seq
      (.region [⟨some 4, none, .ex (.mov) [.k (.bool false)]⟩])
      .ret)
     .skip))
   (.seq
    (.seq
     (.region [⟨some 5, none, .ex (.mov) [.k (.int .i64 0)]⟩])
     (.block 0
      (.loop
       (.seq
        (.seq
         (.region [⟨some 13, none, .ex (.mov) [.s 5]⟩,
           ⟨some 14, none, .ex (.mov) [.s 0]⟩,
           ⟨some 15, none, .ex (.len) [.s 14]⟩,
           ⟨some 16, none, .ex (.ibin .lss) [.s 13, .s 15]⟩])
         (.cond (.s 16)
          .skip
          (.exit 0)))
        (.seq
         (.block 1
          (.seq
           (.draw (.op ⟨some 19, none, .ex (.mov) [.s 0]⟩ (.op ⟨some 20, none, .ex (.mov) [.s 5]⟩ (.op ⟨some 21, none, .ex (.ia 5) [.s 19, .s 20]⟩ (.op ⟨some 22, none, .ex (.lda 5) [.s 21]⟩ (.op ⟨some 23, none, .ex (.mov) [.s 1]⟩ (.op ⟨some 24, none, .ex (.mov) [.s 5]⟩ (.op ⟨some 25, none, .ex (.ia 5) [.s 23, .s 24]⟩ (.fork (.op ⟨some 26, none, .ex (.lda 5) [.s 25]⟩ (.fork (.op ⟨some 6, none, .ex (.alloc [(.int .u8 0), (.int .i64 0), .nils, .nils, .nils]) []⟩ (.op ⟨some 7, none, .ex (.alloc [(.int .u8 0), (.int .i64 0), .nils, .nils, .nils]) []⟩ (.op ⟨none, none, .ex (.st 5) [.s 6, .s 22]⟩ (.op ⟨none, none, .ex (.st 5) [.s 7, .s 26]⟩ .done)))) (.op ⟨some 7, none, .ex (.alloc [(.int .u8 0), (.int .i64 0), .nils, .nils, .nils]) []⟩ (.op ⟨some 6, none, .ex (.alloc [(.int .u8 0), (.int .i64 0), .nils, .nils, .nils]) []⟩ (.op ⟨none, none, .ex (.st 5) [.s 6, .s 22]⟩ (.op ⟨none, none, .ex (.st 5) [.s 7, .s 26]⟩ .done)))))) (.fork (.op ⟨some 6, none, .ex (.alloc [(.int .u8 0), (.int .i64 0), .nils, .nils, .nils]) []⟩ (.fork (.op ⟨some 26, none, .ex (.lda 5) [.s 25]⟩ (.op ⟨some 7, none, .ex (.alloc [(.int .u8 0), (.int .i64 0), .nils, .nils, .nils]) []⟩ (.op ⟨none, none, .ex (.st 5) [.s 6, .s 22]⟩ (.op ⟨none, none, .ex (.st 5) [.s 7, .s 26]⟩ .done)))) (.op ⟨some 7, none, .ex (.alloc [(.int .u8 0), (.int .i64 0), .nils, .nils, .nils]) []⟩ (.fork (.op ⟨some 26, none, .ex (.lda 5) [.s 25]⟩ (.op ⟨none, none, .ex (.st 5) [.s 6, .s 22]⟩ (.op ⟨none, none, .ex (.st 5) [.s 7, .s 26]⟩ .done))) (.op ⟨none, none, .ex (.st 5) [.s 6, .s 22]⟩ (.op ⟨some 26, none, .ex (.lda 5) [.s 25]⟩ (.op ⟨none, none, .ex (.st 5) [.s 7, .s 26]⟩ .done))))))) (.op ⟨some 7, none, .ex (.alloc [(.int .u8 0), (.int .i64 0), .nils, .nils, .nils]) []⟩ (.fork (.op ⟨some 26, none, .ex (.lda 5) [.s 25]⟩ (.op ⟨some 6, none, .ex (.alloc [(.int .u8 0), (.int .i64 0), .nils, .nils, .nils]) []⟩ (.op ⟨none, none, .ex (.st 5) [.s 6, .s 22]⟩ (.op ⟨none, none, .ex (.st 5) [.s 7, .s 26]⟩ .done)))) (.op ⟨some 6, none, .ex (.alloc [(.int .u8 0), (.int .i64 0), .nils, .nils, .nils]) []⟩ (.fork (.op ⟨some 26, none, .ex (.lda 5) [.s 25]⟩ (.op ⟨none, none, .ex (.st 5) [.s 6, .s 22]⟩ (.op ⟨none, none, .ex (.st 5) [.s 7, .s 26]⟩ .done))) (.op ⟨none, none, .ex (.st 5) [.s 6, .s 22]⟩ (.op ⟨some 26, none, .ex (.lda 5) [.s 25]⟩ (.op ⟨none, none, .ex (.st 5) [.s 7, .s 26]⟩ .done)))))))))))))))))
           sameRest))
         (.region [⟨some 17, none, .ex (.mov) [.s 5]⟩,
           ⟨some 18, none, .ex (.ibin .add) [.s 17, .k (.int .i64 1)]⟩,
           ⟨some 5, none, .ex (.mov) [.s 18]⟩]))))))
    (.seq
     (.region [⟨some 4, none, .ex (.mov) [.k (.bool true)]⟩])
     .ret)))),
 [.t 4]⟩
theorem c17' : compFn Go.Proofs.Tryz.prog 17 = some fn17' := c17
set_option maxRecDepth 20000 in
set_option maxHeartbeats 2000000 in
theorem sameRest_ok {G : Heap} {fr : Fr} {Q : Exit → Fr → Heap → Prop} {o o' : OpA} {a b : Nat} (h6 : fr.get 6 = some (.ptr a 0)) (h7 : fr.get 7 = some (.ptr b 0)) (ha : At G a 0 o.cells) (hb : At G b 0 o'.cells) (ho : o.In G) (ho' : o'.In G)
    (hf : ∀ fr', (∀ t, t ≠ 4 → t < 27 → fr'.get t = fr.get t) → fr'.get 4 = some (.bool false) → opEq o.con o'.con = false → Q .ret fr' G) (ht : ∀ fr', (∀ t, t < 27 → fr'.get t = fr.get t) → opEq o.con o'.con = true → Q .normal fr' G) : wpC (SCalls PP) sameRest fr G Q := by
  have l0 := ha.ld (j := 0) (v := .int .u8 o.kind) rfl 1
  have l1 := ha.ld (j := 1) (v := .int .i64 o.n) rfl 1
  have l2 := ha.ld (j := 2) (v := o.runes) rfl 1
  have l3 := ha.ld (j := 3) (v := o.set) rfl 1
  have l4 := ha.ld (j := 4) (v := o.patch) rfl 1
  have k0 := hb.ld (j := 0) (v := .int .u8 o'.kind) rfl 1
  have k1 := hb.ld (j := 1) (v := .int .i64 o'.n) rfl 1
  have k2 := hb.ld (j := 2) (v := o'.runes) rfl 1
  have k3 := hb.ld (j := 3) (v := o'.set) rfl 1
  have k4 := hb.ld (j := 4) (v := o'.patch) rfl 1
  have get4 : ∀ (s t : Nat) (v : V) (f : Fr), t < 27 → 27 ≤ s → Fr.get ((s, v) :: f) t = f.get t := fun s t v f h1 h2 => by rw [Fr.get, if_neg (by omega)]
  have get5 : ∀ (t : Nat) (v : V) (f : Fr), t ≠ 4 → Fr.get ((4, v) :: f) t = f.get t := fun t v f h1 => by rw [Fr.get, if_neg (Ne.symm h1)]
  by_cases e0 : o.kind = o'.kind
  rotate_left
  · simp (maxSteps := 1000000) (implicitDefEqProofs := false) only [stp, if_true, if_false, Int.reduceEq, Int.reduceLT, Int.reduceLE, Int.reduceGT, Int.reduceGE, reduceCtorEq, Nat.reduceEqDiff, List.getElem?_cons_zero, List.getElem?_cons_succ, Option.map_some, sameRest, h6, h7, l0, k0, e0]
    refine hf _ (fun t h1 h2 => ?_) rfl (by simp [opEq, OpA.con, e0])
    simp only [get5 _ _ _ h1]
    repeat rw [get4 _ _ _ _ h2 (by decide)]
  by_cases e1 : o.n = o'.n
  rotate_left
  · simp (maxSteps := 1000000) (implicitDefEqProofs := false) only [stp, if_true, if_false, Int.reduceEq, Int.reduceLT, Int.reduceLE, Int.reduceGT, Int.reduceGE, reduceCtorEq, Nat.reduceEqDiff, List.getElem?_cons_zero, List.getElem?_cons_succ, Option.map_some, sameRest, h6, h7, l0, k0, e0, l1, k1, e1]
    refine hf _ (fun t h1 h2 => ?_) rfl (by simp [opEq, OpA.con, e0, e1])
    simp only [get5 _ _ _ h1]
    repeat rw [get4 _ _ _ _ h2 (by decide)]
  simp (maxSteps := 1000000) (implicitDefEqProofs := false) only [stp, if_true, if_false, Int.reduceEq, Int.reduceLT, Int.reduceLE, Int.reduceGT, Int.reduceGE, reduceCtorEq, Nat.reduceEqDiff, List.getElem?_cons_zero, List.getElem?_cons_succ, Option.map_some, sameRest, h6, h7, l0, k0, e0, l1, k1, e1, l2, k2]
  refine SCalls.mono (refSameR ho.runes ho'.runes ho.rl) ?_
  rintro r G' ⟨rfl, rfl⟩
  cases e2 : listEq runeEq o.rs o'.rs with
  | false =>
    simp (maxSteps := 1000000) (implicitDefEqProofs := false) only [stp, if_true, if_false, Int.reduceEq, Int.reduceLT, Int.reduceLE, Int.reduceGT, Int.reduceGE, reduceCtorEq, Nat.reduceEqDiff, List.getElem?_cons_zero, List.getElem?_cons_succ, Option.map_some, e2]
    refine hf _ (fun t h1 h2 => ?_) rfl (by simp [opEq, OpA.con, e0, e1, e2])
    simp only [get5 _ _ _ h1]
    repeat rw [get4 _ _ _ _ h2 (by decide)]
  | true =>
    simp (maxSteps := 1000000) (implicitDefEqProofs := false) only [stp, if_true, if_false, Int.reduceEq, Int.reduceLT, Int.reduceLE, Int.reduceGT, Int.reduceGE, reduceCtorEq, Nat.reduceEqDiff, List.getElem?_cons_zero, List.getElem?_cons_succ, Option.map_some, e2, h6, h7, l3, k3]
    refine SCalls.mono (refSameA ho.set ho'.set ho.al) ?_
    rintro r G2 ⟨rfl, rfl⟩
    cases e3 : listEq attrEq o.ats o'.ats with
    | false =>
      simp (maxSteps := 1000000) (implicitDefEqProofs := false) only [stp, if_true, if_false, Int.reduceEq, Int.reduceLT, Int.reduceLE, Int.reduceGT, Int.reduceGE, reduceCtorEq, Nat.reduceEqDiff, List.getElem?_cons_zero, List.getElem?_cons_succ, Option.map_some, e3]
      refine hf _ (fun t h1 h2 => ?_) rfl (by simp [opEq, OpA.con, e0, e1, e2, e3])
      simp only [get5 _ _ _ h1]
      repeat rw [get4 _ _ _ _ h2 (by decide)]
    | true =>
      simp (maxSteps := 1000000) (implicitDefEqProofs := false) only [stp, if_true, if_false, Int.reduceEq, Int.reduceLT, Int.reduceLE, Int.reduceGT, Int.reduceGE, reduceCtorEq, Nat.reduceEqDiff, List.getElem?_cons_zero, List.getElem?_cons_succ, Option.map_some, e3, h6, h7, l4, k4]
      refine SCalls.mono (refSameC ho.patch ho'.patch ho.cl) ?_
      rintro r G3 ⟨rfl, rfl⟩
      cases e4 : listEq chgEq o.chs o'.chs with
      | false =>
        simp (maxSteps := 1000000) (implicitDefEqProofs := false) only [stp, if_true, if_false, Int.reduceEq, Int.reduceLT, Int.reduceLE, Int.reduceGT, Int.reduceGE, reduceCtorEq, Nat.reduceEqDiff, List.getElem?_cons_zero, List.getElem?_cons_succ, Option.map_some, e4]
        refine hf _ (fun t h1 h2 => ?_) rfl (by simp [opEq, OpA.con, e0, e1, e2, e3, e4])
        simp only [get5 _ _ _ h1]
        repeat rw [get4 _ _ _ _ h2 (by decide)]
      | true =>
        simp (maxSteps := 1000000) (implicitDefEqProofs := false) only [stp, if_true, if_false, Int.reduceEq, Int.reduceLT, Int.reduceLE, Int.reduceGT, Int.reduceGE, reduceCtorEq, Nat.reduceEqDiff, List.getElem?_cons_zero, List.getElem?_cons_succ, Option.map_some, e4]
        refine ht _ (fun t h2 => ?_) (by simp [opEq, OpA.con, e0, e1, e2, e3, e4])
        repeat rw [get4 _ _ _ _ h2 (by decide)]
set_option maxRecDepth 20000 in
set_option maxHeartbeats 4000000 in
theorem refSameO {x y : V} {H : Heap} {us bs : List OpA} (hx : OpsIn H x us) (hy : OpsIn H y bs) :
    SCalls PP 17 [x, y] H fun r H' => H' = H ∧ r = .bool (listEq opEq (us.map OpA.con) (bs.map OpA.con)) := by
  refine SCalls.keep (R := fun r => r = .bool (listEq opEq (us.map OpA.con) (bs.map OpA.con))) (SCalls.go c17' (by simp [fn17']) fun hw => ?_)
  have hl := hx.len
  unfold big at hl
  have hlx : ∀ G, exec .len [x] G = some (.int .i64 us.length, G) := fun G => by have := hx.sl.len (H' := G); rwa [List.length_map] at this
  have hly : ∀ G, exec .len [y] G = some (.int .i64 bs.length, G) := fun G => by have := hy.sl.len (H' := G); rwa [List.length_map] at this
  by_cases hne : (us.length : Int) = bs.length
  rotate_left
  · simp (maxSteps := 1000000) (implicitDefEqProofs := false) only [stp, if_true, if_false, Int.reduceEq, Int.reduceLT, Int.reduceLE, Int.reduceGT, Int.reduceGE, reduceCtorEq, Nat.reduceEqDiff, List.getElem?_cons_zero, List.getElem?_cons_succ, Option.map_some, fn17', enterFr, List.length, List.range, List.range.loop, List.zip, List.zipWith, hlx, hly, hne]
    exact ⟨Ext.refl H, by rw [listEq_len (by simp; omega)], rfl⟩
  have hne' : us.length = bs.length := by omega
  simp (maxSteps := 1000000) (implicitDefEqProofs := false) only [stp, if_true, if_false, Int.reduceEq, Int.reduceLT, Int.reduceLE, Int.reduceGT, Int.reduceGE, reduceCtorEq, Nat.reduceEqDiff, List.getElem?_cons_zero, List.getElem?_cons_succ, Option.map_some, fn17', enterFr, List.length, List.range, List.range.loop, List.zip, List.zipWith, hlx, hly, hne]
  refine wp_loopI (fun m fr G => ∃ k : Nat, m = us.length - k ∧ k ≤ us.length ∧ Ext H G ∧ WF G ∧ listEq opEq ((us.map OpA.con).drop k) ((bs.map OpA.con).drop k) = listEq opEq (us.map OpA.con) (bs.map OpA.con) ∧ FrSub [(5, .int .i64 k), (0, x), (1, y)] fr) us.length ⟨0, rfl, Nat.zero_le _, Ext.refl H, hw, rfl, .cons rfl (.cons rfl (.cons rfl .nil))⟩ ?_
  rintro m fr G ⟨k, rfl, hk, hxG, hwG, hacc, hsub⟩
  refine ⟨_, hsub, ?_⟩
  by_cases hlt : (k : Int) < us.length
  · have hk1 : k < us.length := by omega
    have hk2 : k < bs.length := by omega
    obtain ⟨i1, o1, ha1, ht1⟩ := (hx.sl.ext hxG).ia (H' := G) (i := k) (e := us[k].cells) (by rw [List.getElem?_map, List.getElem?_eq_getElem hk1]; rfl) .i64
    obtain ⟨i2, o2, ha2, ht2⟩ := (hy.sl.ext hxG).ia (H' := G) (i := k) (e := bs[k].cells) (by rw [List.getElem?_map, List.getElem?_eq_getElem hk2]; rfl) .i64
    have c1 := hx.sl.1 us[k].cells (List.mem_map_of_mem (List.getElem_mem hk1))
    have c2 := hy.sl.1 bs[k].cells (List.mem_map_of_mem (List.getElem_mem hk2))
    have la1 := ht1.lda (n := 5) rfl
    obtain ⟨A1, A2, p1, p2, y1, y2, hab⟩ := x_two hwG c1.1 c2.1 c1.2 c2.2
    obtain ⟨A3, A4, p3, p4, y3, y4, wA, hA, hA'⟩ := hab G.next (G.next + 1) (.inl ⟨rfl, rfl⟩)
    obtain ⟨B3, B4, r3, r4, z3, z4, wB, hB, hB'⟩ := hab (G.next + 1) G.next (.inr ⟨rfl, rfl⟩)
    have lb : ∀ F, Ext G F → exec (.lda 5) [.ptr i2 o2] F = some (.agg bs[k].cells, F) := fun F h => (ht2.ext h).lda (n := 5) rfl
    have lb0 := lb G (Ext.refl G)
    have lb1 := lb A1 y1
    have lb2 := lb A2 y2
    have lb3 := lb A3 y3
    have lc3 := lb B3 z3
    have hd1 : (us.map OpA.con).drop k = us[k].con :: (us.map OpA.con).drop (k + 1) := by rw [List.drop_eq_getElem_cons (by simpa using hk1), List.getElem_map]
    have hd2 : (bs.map OpA.con).drop k = bs[k].con :: (bs.map OpA.con).drop (k + 1) := by rw [List.drop_eq_getElem_cons (by simpa using hk2), List.getElem_map]
    rw [hd1, hd2] at hacc
    simp only [listEq] at hacc
    have hw1 : IntKind.i64.wrap ((k : Int) + 1) = ((k + 1 : Nat) : Int) := by rw [wrap_i64 (by omega) (by omega)]; omega
    have hi1 := hx.ins us[k] (List.getElem_mem hk1)
    have hi2 := hy.ins bs[k] (List.getElem_mem hk2)
    simp (maxSteps := 1000000) (implicitDefEqProofs := false) only [stp, if_true, if_false, Int.reduceEq, Int.reduceLT, Int.reduceLE, Int.reduceGT, Int.reduceGE, reduceCtorEq, Nat.reduceEqDiff, List.getElem?_cons_zero, List.getElem?_cons_succ, Option.map_some, hlx, hlt, ha1, la1, ha2, lb0, p1, p2, lb1, lb2]
    refine ⟨⟨?_, ?_⟩, ⟨⟨?_, ⟨?_, ?_⟩⟩, ⟨?_, ⟨?_, ?_⟩⟩⟩⟩
    · simp (maxSteps := 1000000) (implicitDefEqProofs := false) only [stp, if_true, if_false, Int.reduceEq, Int.reduceLT, Int.reduceLE, Int.reduceGT, Int.reduceGE, reduceCtorEq, Nat.reduceEqDiff, List.getElem?_cons_zero, List.getElem?_cons_succ, Option.map_some, p3, lb3, p4]
      refine sameRest_ok (o := us[k]) (o' := bs[k]) (a := G.next) (b := (G.next + 1)) ?_ ?_ hA hA' (hi1.ext (hxG.trans y4)) (hi2.ext (hxG.trans y4)) (fun fr' h1 h2 h3 => ?_) (fun fr' h1 h3 => ?_)
      · rfl
      · rfl
      · rw [h3] at hacc
        simp (maxSteps := 1000000) (implicitDefEqProofs := false) only [stp, if_true, if_false, Int.reduceEq, Int.reduceLT, Int.reduceLE, Int.reduceGT, Int.reduceGE, reduceCtorEq, Nat.reduceEqDiff, List.getElem?_cons_zero, List.getElem?_cons_succ, Option.map_some, h2]
        exact ⟨hxG.trans y4, by rw [← hacc]; rfl, rfl⟩
      · rw [h3] at hacc
        have g5 : fr'.get 5 = some (.int .i64 k) := (h1 5 (by decide)).trans rfl
        have g0 : fr'.get 0 = some x := (h1 0 (by decide)).trans rfl
        have g1 : fr'.get 1 = some y := (h1 1 (by decide)).trans rfl
        simp (maxSteps := 1000000) (implicitDefEqProofs := false) only [stp, if_true, if_false, Int.reduceEq, Int.reduceLT, Int.reduceLE, Int.reduceGT, Int.reduceGE, reduceCtorEq, Nat.reduceEqDiff, List.getElem?_cons_zero, List.getElem?_cons_succ, Option.map_some, g5, hw1]
        exact ⟨us.length - (k + 1), by omega, k + 1, rfl, by omega, hxG.trans y4, wA, by simpa using hacc, .cons rfl (.cons (by rw [Fr.get, if_neg (by decide), Fr.get, if_neg (by decide), Fr.get, if_neg (by decide)]; exact g0) (.cons (by rw [Fr.get, if_neg (by decide), Fr.get, if_neg (by decide), Fr.get, if_neg (by decide)]; exact g1) .nil))⟩
    · simp (maxSteps := 1000000) (implicitDefEqProofs := false) only [stp, if_true, if_false, Int.reduceEq, Int.reduceLT, Int.reduceLE, Int.reduceGT, Int.reduceGE, reduceCtorEq, Nat.reduceEqDiff, List.getElem?_cons_zero, List.getElem?_cons_succ, Option.map_some, r3, lc3, r4]
      refine sameRest_ok (o := us[k]) (o' := bs[k]) (a := (G.next + 1)) (b := G.next) ?_ ?_ hB hB' (hi1.ext (hxG.trans z4)) (hi2.ext (hxG.trans z4)) (fun fr' h1 h2 h3 => ?_) (fun fr' h1 h3 => ?_)
      · rfl
      · rfl
      · rw [h3] at hacc
        simp (maxSteps := 1000000) (implicitDefEqProofs := false) only [stp, if_true, if_false, Int.reduceEq, Int.reduceLT, Int.reduceLE, Int.reduceGT, Int.reduceGE, reduceCtorEq, Nat.reduceEqDiff, List.getElem?_cons_zero, List.getElem?_cons_succ, Option.map_some, h2]
        exact ⟨hxG.trans z4, by rw [← hacc]; rfl, rfl⟩
      · rw [h3] at hacc
        have g5 : fr'.get 5 = some (.int .i64 k) := (h1 5 (by decide)).trans rfl
        have g0 : fr'.get 0 = some x := (h1 0 (by decide)).trans rfl
        have g1 : fr'.get 1 = some y := (h1 1 (by decide)).trans rfl
        simp (maxSteps := 1000000) (implicitDefEqProofs := false) only [stp, if_true, if_false, Int.reduceEq, Int.reduceLT, Int.reduceLE, Int.reduceGT, Int.reduceGE, reduceCtorEq, Nat.reduceEqDiff, List.getElem?_cons_zero, List.getElem?_cons_succ, Option.map_some, g5, hw1]
        exact ⟨us.length - (k + 1), by omega, k + 1, rfl, by omega, hxG.trans z4, wB, by simpa using hacc, .cons rfl (.cons (by rw [Fr.get, if_neg (by decide), Fr.get, if_neg (by decide), Fr.get, if_neg (by decide)]; exact g0) (.cons (by rw [Fr.get, if_neg (by decide), Fr.get, if_neg (by decide), Fr.get, if_neg (by decide)]; exact g1) .nil))⟩
    · simp (maxSteps := 1000000) (implicitDefEqProofs := false) only [stp, if_true, if_false, Int.reduceEq, Int.reduceLT, Int.reduceLE, Int.reduceGT, Int.reduceGE, reduceCtorEq, Nat.reduceEqDiff, List.getElem?_cons_zero, List.getElem?_cons_succ, Option.map_some, p3, lb3, p4]
      refine sameRest_ok (o := us[k]) (o' := bs[k]) (a := G.next) (b := (G.next + 1)) ?_ ?_ hA hA' (hi1.ext (hxG.trans y4)) (hi2.ext (hxG.trans y4)) (fun fr' h1 h2 h3 => ?_) (fun fr' h1 h3 => ?_)
      · rfl
      · rfl
      · rw [h3] at hacc
        simp (maxSteps := 1000000) (implicitDefEqProofs := false) only [stp, if_true, if_false, Int.reduceEq, Int.reduceLT, Int.reduceLE, Int.reduceGT, Int.reduceGE, reduceCtorEq, Nat.reduceEqDiff, List.getElem?_cons_zero, List.getElem?_cons_succ, Option.map_some, h2]
        exact ⟨hxG.trans y4, by rw [← hacc]; rfl, rfl⟩
      · rw [h3] at hacc
        have g5 : fr'.get 5 = some (.int .i64 k) := (h1 5 (by decide)).trans rfl
        have g0 : fr'.get 0 = some x := (h1 0 (by decide)).trans rfl
        have g1 : fr'.get 1 = some y := (h1 1 (by decide)).trans rfl
        simp (maxSteps := 1000000) (implicitDefEqProofs := false) only [stp, if_true, if_false, Int.reduceEq, Int.reduceLT, Int.reduceLE, Int.reduceGT, Int.reduceGE, reduceCtorEq, Nat.reduceEqDiff, List.getElem?_cons_zero, List.getElem?_cons_succ, Option.map_some, g5, hw1]
        exact ⟨us.length - (k + 1), by omega, k + 1, rfl, by omega, hxG.trans y4, wA, by simpa using hacc, .cons rfl (.cons (by rw [Fr.get, if_neg (by decide), Fr.get, if_neg (by decide), Fr.get, if_neg (by decide)]; exact g0) (.cons (by rw [Fr.get, if_neg (by decide), Fr.get, if_neg (by decide), Fr.get, if_neg (by decide)]; exact g1) .nil))⟩
    · simp (maxSteps := 1000000) (implicitDefEqProofs := false) only [stp, if_true, if_false, Int.reduceEq, Int.reduceLT, Int.reduceLE, Int.reduceGT, Int.reduceGE, reduceCtorEq, Nat.reduceEqDiff, List.getElem?_cons_zero, List.getElem?_cons_succ, Option.map_some, p3, lb3, p4]
      refine sameRest_ok (o := us[k]) (o' := bs[k]) (a := G.next) (b := (G.next + 1)) ?_ ?_ hA hA' (hi1.ext (hxG.trans y4)) (hi2.ext (hxG.trans y4)) (fun fr' h1 h2 h3 => ?_) (fun fr' h1 h3 => ?_)
      · rfl
      · rfl
      · rw [h3] at hacc
        simp (maxSteps := 1000000) (implicitDefEqProofs := false) only [stp, if_true, if_false, Int.reduceEq, Int.reduceLT, Int.reduceLE, Int.reduceGT, Int.reduceGE, reduceCtorEq, Nat.reduceEqDiff, List.getElem?_cons_zero, List.getElem?_cons_succ, Option.map_some, h2]
        exact ⟨hxG.trans y4, by rw [← hacc]; rfl, rfl⟩
      · rw [h3] at hacc
        have g5 : fr'.get 5 = some (.int .i64 k) := (h1 5 (by decide)).trans rfl
        have g0 : fr'.get 0 = some x := (h1 0 (by decide)).trans rfl
        have g1 : fr'.get 1 = some y := (h1 1 (by decide)).trans rfl
        simp (maxSteps := 1000000) (implicitDefEqProofs := false) only [stp, if_true, if_false, Int.reduceEq, Int.reduceLT, Int.reduceLE, Int.reduceGT, Int.reduceGE, reduceCtorEq, Nat.reduceEqDiff, List.getElem?_cons_zero, List.getElem?_cons_succ, Option.map_some, g5, hw1]
        exact ⟨us.length - (k + 1), by omega, k + 1, rfl, by omega, hxG.trans y4, wA, by simpa using hacc, .cons rfl (.cons (by rw [Fr.get, if_neg (by decide), Fr.get, if_neg (by decide), Fr.get, if_neg (by decide)]; exact g0) (.cons (by rw [Fr.get, if_neg (by decide), Fr.get, if_neg (by decide), Fr.get, if_neg (by decide)]; exact g1) .nil))⟩
    · simp (maxSteps := 1000000) (implicitDefEqProofs := false) only [stp, if_true, if_false, Int.reduceEq, Int.reduceLT, Int.reduceLE, Int.reduceGT, Int.reduceGE, reduceCtorEq, Nat.reduceEqDiff, List.getElem?_cons_zero, List.getElem?_cons_succ, Option.map_some, p3, lb3, p4]
      refine sameRest_ok (o := us[k]) (o' := bs[k]) (a := G.next) (b := (G.next + 1)) ?_ ?_ hA hA' (hi1.ext (hxG.trans y4)) (hi2.ext (hxG.trans y4)) (fun fr' h1 h2 h3 => ?_) (fun fr' h1 h3 => ?_)
      · rfl
      · rfl
      · rw [h3] at hacc
        simp (maxSteps := 1000000) (implicitDefEqProofs := false) only [stp, if_true, if_false, Int.reduceEq, Int.reduceLT, Int.reduceLE, Int.reduceGT, Int.reduceGE, reduceCtorEq, Nat.reduceEqDiff, List.getElem?_cons_zero, List.getElem?_cons_succ, Option.map_some, h2]
        exact ⟨hxG.trans y4, by rw [← hacc]; rfl, rfl⟩
      · rw [h3] at hacc
        have g5 : fr'.get 5 = some (.int .i64 k) := (h1 5 (by decide)).trans rfl
        have g0 : fr'.get 0 = some x := (h1 0 (by decide)).trans rfl
        have g1 : fr'.get 1 = some y := (h1 1 (by decide)).trans rfl
        simp (maxSteps := 1000000) (implicitDefEqProofs := false) only [stp, if_true, if_false, Int.reduceEq, Int.reduceLT, Int.reduceLE, Int.reduceGT, Int.reduceGE, reduceCtorEq, Nat.reduceEqDiff, List.getElem?_cons_zero, List.getElem?_cons_succ, Option.map_some, g5, hw1]
        exact ⟨us.length - (k + 1), by omega, k + 1, rfl, by omega, hxG.trans y4, wA, by simpa using hacc, .cons rfl (.cons (by rw [Fr.get, if_neg (by decide), Fr.get, if_neg (by decide), Fr.get, if_neg (by decide)]; exact g0) (.cons (by rw [Fr.get, if_neg (by decide), Fr.get, if_neg (by decide), Fr.get, if_neg (by decide)]; exact g1) .nil))⟩
    · simp (maxSteps := 1000000) (implicitDefEqProofs := false) only [stp, if_true, if_false, Int.reduceEq, Int.reduceLT, Int.reduceLE, Int.reduceGT, Int.reduceGE, reduceCtorEq, Nat.reduceEqDiff, List.getElem?_cons_zero, List.getElem?_cons_succ, Option.map_some, r3, lc3, r4]
      refine sameRest_ok (o := us[k]) (o' := bs[k]) (a := (G.next + 1)) (b := G.next) ?_ ?_ hB hB' (hi1.ext (hxG.trans z4)) (hi2.ext (hxG.trans z4)) (fun fr' h1 h2 h3 => ?_) (fun fr' h1 h3 => ?_)
      · rfl
      · rfl
      · rw [h3] at hacc
        simp (maxSteps := 1000000) (implicitDefEqProofs := false) only [stp, if_true, if_false, Int.reduceEq, Int.reduceLT, Int.reduceLE, Int.reduceGT, Int.reduceGE, reduceCtorEq, Nat.reduceEqDiff, List.getElem?_cons_zero, List.getElem?_cons_succ, Option.map_some, h2]
        exact ⟨hxG.trans z4, by rw [← hacc]; rfl, rfl⟩
      · rw [h3] at hacc
        have g5 : fr'.get 5 = some (.int .i64 k) := (h1 5 (by decide)).trans rfl
        have g0 : fr'.get 0 = some x := (h1 0 (by decide)).trans rfl
        have g1 : fr'.get 1 = some y := (h1 1 (by decide)).trans rfl
        simp (maxSteps := 1000000) (implicitDefEqProofs := false) only [stp, if_true, if_false, Int.reduceEq, Int.reduceLT, Int.reduceLE, Int.reduceGT, Int.reduceGE, reduceCtorEq, Nat.reduceEqDiff, List.getElem?_cons_zero, List.getElem?_cons_succ, Option.map_some, g5, hw1]
        exact ⟨us.length - (k + 1), by omega, k + 1, rfl, by omega, hxG.trans z4, wB, by simpa using hacc, .cons rfl (.cons (by rw [Fr.get, if_neg (by decide), Fr.get, if_neg (by decide), Fr.get, if_neg (by decide)]; exact g0) (.cons (by rw [Fr.get, if_neg (by decide), Fr.get, if_neg (by decide), Fr.get, if_neg (by decide)]; exact g1) .nil))⟩
    · simp (maxSteps := 1000000) (implicitDefEqProofs := false) only [stp, if_true, if_false, Int.reduceEq, Int.reduceLT, Int.reduceLE, Int.reduceGT, Int.reduceGE, reduceCtorEq, Nat.reduceEqDiff, List.getElem?_cons_zero, List.getElem?_cons_succ, Option.map_some, r3, lc3, r4]
      refine sameRest_ok (o := us[k]) (o' := bs[k]) (a := (G.next + 1)) (b := G.next) ?_ ?_ hB hB' (hi1.ext (hxG.trans z4)) (hi2.ext (hxG.trans z4)) (fun fr' h1 h2 h3 => ?_) (fun fr' h1 h3 => ?_)
      · rfl
      · rfl
      · rw [h3] at hacc
        simp (maxSteps := 1000000) (implicitDefEqProofs := false) only [stp, if_true, if_false, Int.reduceEq, Int.reduceLT, Int.reduceLE, Int.reduceGT, Int.reduceGE, reduceCtorEq, Nat.reduceEqDiff, List.getElem?_cons_zero, List.getElem?_cons_succ, Option.map_some, h2]
        exact ⟨hxG.trans z4, by rw [← hacc]; rfl, rfl⟩
      · rw [h3] at hacc
        have g5 : fr'.get 5 = some (.int .i64 k) := (h1 5 (by decide)).trans rfl
        have g0 : fr'.get 0 = some x := (h1 0 (by decide)).trans rfl
        have g1 : fr'.get 1 = some y := (h1 1 (by decide)).trans rfl
        simp (maxSteps := 1000000) (implicitDefEqProofs := false) only [stp, if_true, if_false, Int.reduceEq, Int.reduceLT, Int.reduceLE, Int.reduceGT, Int.reduceGE, reduceCtorEq, Nat.reduceEqDiff, List.getElem?_cons_zero, List.getElem?_cons_succ, Option.map_some, g5, hw1]
        exact ⟨us.length - (k + 1), by omega, k + 1, rfl, by omega, hxG.trans z4, wB, by simpa using hacc, .cons rfl (.cons (by rw [Fr.get, if_neg (by decide), Fr.get, if_neg (by decide), Fr.get, if_neg (by decide)]; exact g0) (.cons (by rw [Fr.get, if_neg (by decide), Fr.get, if_neg (by decide), Fr.get, if_neg (by decide)]; exact g1) .nil))⟩
    · simp (maxSteps := 1000000) (implicitDefEqProofs := false) only [stp, if_true, if_false, Int.reduceEq, Int.reduceLT, Int.reduceLE, Int.reduceGT, Int.reduceGE, reduceCtorEq, Nat.reduceEqDiff, List.getElem?_cons_zero, List.getElem?_cons_succ, Option.map_some, r3, lc3, r4]
      refine sameRest_ok (o := us[k]) (o' := bs[k]) (a := (G.next + 1)) (b := G.next) ?_ ?_ hB hB' (hi1.ext (hxG.trans z4)) (hi2.ext (hxG.trans z4)) (fun fr' h1 h2 h3 => ?_) (fun fr' h1 h3 => ?_)
      · rfl
      · rfl
      · rw [h3] at hacc
        simp (maxSteps := 1000000) (implicitDefEqProofs := false) only [stp, if_true, if_false, Int.reduceEq, Int.reduceLT, Int.reduceLE, Int.reduceGT, Int.reduceGE, reduceCtorEq, Nat.reduceEqDiff, List.getElem?_cons_zero, List.getElem?_cons_succ, Option.map_some, h2]
        exact ⟨hxG.trans z4, by rw [← hacc]; rfl, rfl⟩
      · rw [h3] at hacc
        have g5 : fr'.get 5 = some (.int .i64 k) := (h1 5 (by decide)).trans rfl
        have g0 : fr'.get 0 = some x := (h1 0 (by decide)).trans rfl
        have g1 : fr'.get 1 = some y := (h1 1 (by decide)).trans rfl
        simp (maxSteps := 1000000) (implicitDefEqProofs := false) only [stp, if_true, if_false, Int.reduceEq, Int.reduceLT, Int.reduceLE, Int.reduceGT, Int.reduceGE, reduceCtorEq, Nat.reduceEqDiff, List.getElem?_cons_zero, List.getElem?_cons_succ, Option.map_some, g5, hw1]
        exact ⟨us.length - (k + 1), by omega, k + 1, rfl, by omega, hxG.trans z4, wB, by simpa using hacc, .cons rfl (.cons (by rw [Fr.get, if_neg (by decide), Fr.get, if_neg (by decide), Fr.get, if_neg (by decide)]; exact g0) (.cons (by rw [Fr.get, if_neg (by decide), Fr.get, if_neg (by decide), Fr.get, if_neg (by decide)]; exact g1) .nil))⟩
  · obtain rfl : k = us.length := by omega
    simp (maxSteps := 1000000) (implicitDefEqProofs := false) only [stp, if_true, if_false, Int.reduceEq, Int.reduceLT, Int.reduceLE, Int.reduceGT, Int.reduceGE, reduceCtorEq, Nat.reduceEqDiff, List.getElem?_cons_zero, List.getElem?_cons_succ, Option.map_some, hlx, hlt]
    rw [List.drop_of_length_le (by simp), List.drop_of_length_le (by simp; omega)] at hacc
    exact ⟨hxG, by rw [← hacc]; rfl, rfl⟩
end Go.Proofs.YtkmaikggdbielaaGreatDoor.Fw

/- A schema of no keys. No condition. -/
namespace Go.Proofs.YtkmaikggdbielaaGreatDoor.Fw
open Go
set_option linter.unusedSimpArgs false
set_option linter.unusedVariables false

def tblK : List (Nat × AFn) := [(31, fn31), (33, fn33), (47, fn47), (62, fn62), (48, fn48), (71, fn71)]
theorem tblK_ok : ∀ p ∈ tblK, compFn Go.Proofs.Tryz.prog p.1 = some p.2 :=
  tbl_cons c31 (tbl_cons c33 (tbl_cons c47 (tbl_cons c62 (tbl_cons c48 (tbl_cons c71 tbl_nil)))))
theorem cloneNoKeys (H : Heap) : SCalls PP 31 [.nils] H fun r H' => H' = H ∧ r = .nils :=
  SCalls.worked (fun f af => tblGet_ok tblK_ok) rfl rfl (k := 20) (n := 10) (by kernel_rfl) H
theorem sortNoKeys (H : Heap) : SCalls PP 33 [.nils, .fn (.func 34) [] []] H fun r H' => H' = H ∧ r = .tup [] :=
  SCalls.worked (fun f af => tblGet_ok tblK_ok) rfl rfl (k := 100) (n := 10) (by kernel_rfl) H
theorem newNoKeys (H : Heap) : SCalls PP 9 [.nils] H fun r H' => WF H' ∧ Ext H H' ∧ ∃ id, r = .tup [.ptr id 0, .int .i64 0] := by
  refine SCalls.go c9 (by simp [fn9]) fun hw => ?_
  have hl : ∀ G, exec .len [.nils] G = some (.int .i64 0, G) := fun _ => rfl
  have h64 : ¬ ((0 : Int) > 64) := by decide
  simp (maxSteps := 1000000) (implicitDefEqProofs := false) only [stp, if_true, if_false, Int.reduceEq, Int.reduceLT, Int.reduceLE, Int.reduceGT, Int.reduceGE, reduceCtorEq, Nat.reduceEqDiff, List.getElem?_cons_zero, List.getElem?_cons_succ, Option.map_some, fn9, enterFr, List.length, List.range, List.range.loop, List.zip, List.zipWith, hl, h64]
  refine SCalls.mono (cloneNoKeys H) ?_
  rintro r G ⟨rfl, rfl⟩
  have hmk : exec .mkmap [] G = some (.map G.next, G.new (.mapo [])) := rfl
  have hx1 : Ext G (G.new (.mapo [])) := (Ext.refl G).new _
  have hw1 : WF (G.new (.mapo [])) := hw.new _
  have hb : ∀ F, exec (.build [.nils, .nilm] [(0, 1), (1, 1)]) [.nils, .map G.next] F = some (.agg [.nils, .map G.next], F) := fun _ => rfl
  generalize G.new (.mapo []) = G1 at *
  obtain ⟨G2, hx2, hw2, ha2, hb2⟩ := x_boxed (Ext.refl G1) hw1 (e := [.nils, .map G.next]) rfl
  have l := ha2.ld (j := 0) (v := .nils) rfl 1
  have h00 : ¬ ((0 : Int) < 0) := by decide
  simp (maxSteps := 1000000) (implicitDefEqProofs := false) only [stp, if_true, if_false, Int.reduceEq, Int.reduceLT, Int.reduceLE, Int.reduceGT, Int.reduceGE, reduceCtorEq, Nat.reduceEqDiff, List.getElem?_cons_zero, List.getElem?_cons_succ, Option.map_some, hmk, hb, hb2, hl]
  refine wp_loopI (fun m fr F => F = G2 ∧ FrSub [(19, .int .i64 0), (18, .int .i64 0), (4, .ptr G1.next 0)] fr) 0 ⟨rfl, .cons rfl (.cons rfl (.cons rfl .nil))⟩ ?_
  rintro m fr F ⟨rfl, hsub⟩
  refine ⟨_, hsub, ?_⟩
  simp (maxSteps := 1000000) (implicitDefEqProofs := false) only [stp, if_true, if_false, Int.reduceEq, Int.reduceLT, Int.reduceLE, Int.reduceGT, Int.reduceGE, reduceCtorEq, Nat.reduceEqDiff, List.getElem?_cons_zero, List.getElem?_cons_succ, Option.map_some, h00, l]
  refine SCalls.mono (sortNoKeys _) ?_
  rintro r F ⟨rfl, rfl⟩
  simp (maxSteps := 1000000) (implicitDefEqProofs := false) only [stp, if_true, if_false, Int.reduceEq, Int.reduceLT, Int.reduceLE, Int.reduceGT, Int.reduceGE, reduceCtorEq, Nat.reduceEqDiff, List.getElem?_cons_zero, List.getElem?_cons_succ, Option.map_some, if_true]
  exact ⟨hw2, hx1.trans hx2, _, by trivial⟩
end Go.Proofs.YtkmaikggdbielaaGreatDoor.Fw

/- A history whose memory is the call's own. No condition. -/
namespace Go.Proofs.YtkmaikggdbielaaGreatDoor.Fw
open Go
set_option linter.unusedSimpArgs false
set_option linter.unusedVariables false

/-- A history made behind H0, at G. -/
structure HistT (H0 G : Heap) (M : Nat → Prop) (p : Nat) (s : V) (h : HistC) : Prop where
  wf : WF G
  ext : Ext H0 G
  d : HistD G M (fun _ => False) p s h
  lo : ∀ j, M j → H0.next ≤ j
/-- A step: what it may change, what may be changed behind. -/
structure Nx (M : Nat → Prop) (G : Heap) (M' : Nat → Prop) (G' : Heap) : Prop where
  e : ExtM M G G'
  g : MGrow M M' G
theorem Nx.refl (M : Nat → Prop) (G : Heap) : Nx M G M G := ⟨ExtM.refl _ _, MGrow.refl _ _⟩
theorem Nx.trans {M M1 M2 : Nat → Prop} {G G1 G2 : Heap} (a : Nx M G M1 G1) (b : Nx M1 G1 M2 G2) : Nx M G M2 G2 := ⟨a.e.step a.g b.e, a.g.trans b.g a.e.next⟩
theorem Nx.ofExt {M : Nat → Prop} {G G' : Heap} (x : Ext G G') : Nx M G M G' := ⟨x.toM _, MGrow.refl _ _⟩
theorem Nx.fz {M M' : Nat → Prop} {G G' : Heap} {P : Heap → Prop} (a : Nx M G M' G') (h : Fz M G P) : Fz M' G' P := h.step a.e a.g
theorem HistT.grow {H0 G G' : Heap} {M : Nat → Prop} {p : Nat} {s : V} {h : HistC} (t : HistT H0 G M p s h) (x : Ext G G') (w : WF G') : HistT H0 G' M p s h := ⟨w, t.ext.trans x, t.d.grow x, t.lo⟩
theorem HistT.next {H0 G G' : Heap} {M M' : Nat → Prop} {p : Nat} {s : V} {h h' : HistC} (t : HistT H0 G M p s h) (w : WF G') (d : HistD G' M' (fun _ => False) p s h') (e : ExtM (fun j => M j ∧ ¬ False) G G') (g : MGrow M M' G) : HistT H0 G' M' p s h' ∧ Nx M G M' G' := by
  have e' : ExtM M G G' := ⟨e.gn, e.next, fun j hj hm => e.get j hj fun k => hm k.1⟩
  refine ⟨⟨w, ⟨e'.gn.trans t.ext.gn, Nat.le_trans t.ext.next e'.next, fun j hj => ?_⟩, d, fun j hj => ?_⟩, e', g⟩
  · rw [e'.get j (Nat.lt_of_lt_of_le hj t.ext.next) fun k => by have := t.lo j k; omega, t.ext.get j hj]
  · rcases g j hj with k | k
    · exact t.lo j k
    · exact Nat.le_trans t.ext.next k
theorem newT {H : Heap} {s : V} (hs : s.cells = [s] ∧ s.one = true) {mx : Int} (h0 : 0 ≤ mx) (h0' : mx ≤ 65536) : SCalls PP 10 [s, .int .i64 mx] H fun r H' => ∃ p, r = .tup [.ptr p 0, .int .i64 0] ∧ HistT H H' (fun j => j = p) p s ⟨mx, [], [], false, []⟩ :=
  SCalls.mono (newH_ok hs h0 h0') fun r H' ⟨w, x, e, f⟩ => ⟨H.next, e, w, x, by
    have := f (fun _ => False) (fun _ => False) (fun _ k => k.elim) (fun _ k => k.elim)
    have hm : (fun j => False ∨ j = H.next) = fun j => j = H.next := by funext j; simp
    rwa [hm] at this, fun j e => by omega⟩
section
variable {H0 G : Heap} {M : Nat → Prop} {p : Nat} {s : V} {h : HistC}
theorem HistT.push (t : HistT H0 G M p s h) (ho : h.opened = false) {x y : V} {os us : List OpA} (hx : OpsIn G x os) (hy : OpsIn G y us) (hl : h.undo.length + 1 ≤ big) (hm : 0 ≤ h.max) (hmb : h.max ≤ 65536) :
    SCalls PP 13 [.ptr p 0, x, y] G fun r G' => r = .int .i64 0 ∧ ∃ M', HistT H0 G' M' p s { h with undo := keepL h.max (h.undo ++ [⟨os.map OpA.con, us.map OpA.con⟩]), redo := [] } ∧ Nx M G M' G' :=
  SCalls.mono (pushH t.d ho hx hy hl hm hmb) fun r G' ⟨w, e, M', d, e', g⟩ => ⟨e, M', t.next w d e' g⟩
theorem HistT.undo (t : HistT H0 G M p s h) (ho : h.opened = false) {gi : List GrpC} {g : GrpC} (hg : h.undo = gi ++ [g]) (hl : h.undo.length ≤ big) (hr : h.redo.length + 1 ≤ big) :
    SCalls PP 14 [.ptr p 0] G fun r G' => ∃ M' x os, r = .tup [x, .int .i64 0] ∧ HistT H0 G' M' p s { h with undo := gi, redo := h.redo ++ [g] } ∧ Nx M G M' G' ∧ (Fz M' G' fun F => OpsIn F x os) ∧ os.map OpA.con = g.un :=
  SCalls.mono (undoH_ok t.d ho hg hl hr) fun r G' ⟨w, M', d, e', g, x, os, e, f, c⟩ => by
    obtain ⟨a, b⟩ := t.next w d e' g
    exact ⟨M', x, os, e, a, b, f.step (ExtM.refl _ _) (fun j k => .inl (.inl k)), c⟩
theorem HistT.redo (t : HistT H0 G M p s h) (ho : h.opened = false) {gi : List GrpC} {g : GrpC} (hg : h.redo = gi ++ [g]) (hl : h.redo.length ≤ big) (hr : h.undo.length + 1 ≤ big) :
    SCalls PP 16 [.ptr p 0] G fun r G' => ∃ M' x os, r = .tup [x, .int .i64 0] ∧ HistT H0 G' M' p s { h with redo := gi, undo := h.undo ++ [g] } ∧ Nx M G M' G' ∧ (Fz M' G' fun F => OpsIn F x os) ∧ os.map OpA.con = g.dn :=
  SCalls.mono (redoH_ok t.d ho hg hl hr) fun r G' ⟨w, M', d, e', g, x, os, e, f, c⟩ => by
    obtain ⟨a, b⟩ := t.next w d e' g
    exact ⟨M', x, os, e, a, b, f.step (ExtM.refl _ _) (fun j k => .inl (.inl k)), c⟩
theorem HistT.undoNo (t : HistT H0 G M p s h) (hn : h.opened = true ∨ h.undo = []) :
    SCalls PP 14 [.ptr p 0] G fun r G' => ∃ x, r = .tup [x, .int .i64 (if h.opened then 9 else 10)] ∧ HistT H0 G' M p s h ∧ Ext G G' ∧ Fz M G' fun F => OpsIn F x [] :=
  SCalls.mono (undoH_no t.d.toI hn) fun r G' ⟨w, e, x, f, c⟩ => ⟨x, f, t.grow e w, e, Fz.mono (Fz.step c (ExtM.refl _ _) fun j k => .inl (t.d.mb k)) fun _ q => q.ops⟩
theorem HistT.redoNo (t : HistT H0 G M p s h) (hn : h.opened = true ∨ h.redo = []) :
    SCalls PP 16 [.ptr p 0] G fun r G' => ∃ x, r = .tup [x, .int .i64 (if h.opened then 9 else 10)] ∧ HistT H0 G' M p s h ∧ Ext G G' ∧ Fz M G' fun F => OpsIn F x [] :=
  SCalls.mono (redoH_no t.d.toI hn) fun r G' ⟨w, e, x, f, c⟩ => ⟨x, f, t.grow e w, e, Fz.mono (Fz.step c (ExtM.refl _ _) fun j k => .inl (t.d.mb k)) fun _ q => q.ops⟩
theorem HistT.begin (t : HistT H0 G M p s h) (ho : h.opened = false) : SCalls PP 22 [.ptr p 0] G fun r G' => r = .int .i64 0 ∧ ∃ M', HistT H0 G' M' p s { h with opened := true, own := [] } ∧ Nx M G M' G' :=
  SCalls.mono (beginH_ok t.d ho) fun r G' ⟨w, e, M', d, e', g⟩ => ⟨e, M', t.next w d e' g⟩
end
/-- in, in the call's own memory. -/
theorem inT (c : Int) (M : Nat → Prop) (H : Heap) (hM : ∀ j, M j → j < H.next) : SCalls PP 12 [.int .i32 c] H fun r H' => WF H' ∧ Ext H H' ∧ ∃ x y o u, r = .tup [x, y] ∧ (Fz M H' fun F => OpsIn F x [o]) ∧ (Fz M H' fun F => OpsIn F y [u]) ∧ o.con = ⟨2, 0, [c], [], []⟩ ∧ u.con = ⟨3, 1, [], [], []⟩ :=
  SCalls.mono (in_calls c H) fun r H' ⟨w, x, v, id, o, e, i1, i2, g, c, f⟩ => ⟨w, x, v, .slice id 0 1 (some 1), o, ⟨3, 1, .nils, .nils, .nils, [], [], []⟩, e, (fun F q => f F ⟨q.gn, q.next, fun j hj hm => q.get j hj fun k => hm (.inr (hM j k))⟩), fun F q => by
    have hid : ¬ M id := fun k => by have := hM id k; omega
    exact del_ops (Nat.lt_of_lt_of_le i2 q.next) (by rw [q.get id i2 hid]; exact g) (by decide) (by decide), c, rfl⟩
end Go.Proofs.YtkmaikggdbielaaGreatDoor.Fw

/- The history's known answer. No condition. -/
namespace Go.Proofs.YtkmaikggdbielaaGreatDoor.Fw
open Go
set_option linter.unusedSimpArgs false
set_option linter.unusedVariables false

abbrev insC (c : Int) : OpC := ⟨2, 0, [c], [], []⟩
abbrev delC1 (n : Int) : OpC := ⟨3, n, [], [], []⟩
abbrev gA (c : Int) : GrpC := ⟨[insC c], [delC1 1]⟩
def knU : Nat → List GrpC
  | 0 => []
  | k + 1 => keepL 2 (knU k ++ [gA (97 + k)])
abbrev gX : GrpC := gA 120
theorem rep_snoc (n : Nat) (g : GrpC) : List.replicate (n + 1) g = List.replicate n g ++ [g] := List.replicate_succ'
theorem x_mn (a b : Int) (H : Heap) : exec .mn [.int .i64 a, .int .i64 b] H = some (.int .i64 (if b < a then b else a), H) := by
  simp only [exec, mnI]
  rfl
theorem con_one {os : List OpA} {c : OpC} (h : os.map OpA.con = [c]) : ∃ o, os = [o] ∧ o.con = c := by
  match os, h with
  | [o], h => exact ⟨o, rfl, by simpa using h⟩
  | [], h => simp at h
  | _ :: _ :: _, h => simp at h
theorem opEq_self (l : List OpC) : listEq opEq l l = true := (listEq_iff fun a _ b _ => opEq_iff).2 rfl
set_option maxRecDepth 40000 in
set_option maxHeartbeats 8000000 in
theorem known_ok {H : Heap} : SCalls PP 11 [] H fun r H' => H' = H ∧ r = .bool true := by
  refine SCalls.keep (R := fun r => r = .bool true) (SCalls.go c11 (by simp [fn11]) fun hw => ?_)
  simp (maxSteps := 1000000) (implicitDefEqProofs := false) only [stp, if_true, if_false, Int.reduceEq, Int.reduceLT, Int.reduceLE, Int.reduceGT, Int.reduceGE, reduceCtorEq, Nat.reduceEqDiff, List.getElem?_cons_zero, List.getElem?_cons_succ, Option.map_some, fn11, enterFr, List.length, List.range, List.range.loop, List.zip, List.zipWith]
  refine SCalls.mono (newNoKeys H) ?_
  rintro _ G0 ⟨hw0, hx0, sid, rfl⟩
  simp (maxSteps := 1000000) (implicitDefEqProofs := false) only [stp, if_true, if_false, Int.reduceEq, Int.reduceLT, Int.reduceLE, Int.reduceGT, Int.reduceGE, reduceCtorEq, Nat.reduceEqDiff, List.getElem?_cons_zero, List.getElem?_cons_succ, Option.map_some, if_true]
  refine SCalls.mono (newT (s := .ptr sid 0) ⟨rfl, rfl⟩ (mx := 2) (by decide) (by decide)) ?_
  rintro _ G1 ⟨p, rfl, t1⟩
  have hne : exec (.eqnil 0 false) [.ptr p 0, .nilp] G1 = some (.bool false, G1) := rfl
  have hbu : exec (.build [.int .i32 0, .int .i32 0, .int .i32 0] [(0, 1), (1, 1), (2, 1)]) [.int .i32 97, .int .i32 98, .int .i32 99] G1 = some (.agg [.int .i32 97, .int .i32 98, .int .i32 99], G1) := rfl
  simp (maxSteps := 1000000) (implicitDefEqProofs := false) only [stp, if_true, if_false, Int.reduceEq, Int.reduceLT, Int.reduceLE, Int.reduceGT, Int.reduceGE, reduceCtorEq, Nat.reduceEqDiff, List.getElem?_cons_zero, List.getElem?_cons_succ, Option.map_some, Bool.false_eq_true, hne, hbu]
  refine wp_loopI (fun m fr F => ∃ k M, m = 3 - k ∧ k ≤ 3 ∧ HistT G0 F M p (.ptr sid 0) ⟨2, knU k, [], false, []⟩ ∧ FrSub [(41, .int .i64 (k : Nat)), (40, .agg [.int .i32 97, .int .i32 98, .int .i32 99]), (3, .ptr p 0)] fr) 3 ⟨0, _, rfl, by omega, t1, .cons rfl (.cons rfl (.cons rfl .nil))⟩ ?_
  rintro m fr F ⟨k, M, rfl, hk, t, hsub⟩
  refine ⟨_, hsub, ?_⟩
  by_cases hlt : (k : Int) < 3
  · have hidx : exec (.idxa 3) [.agg [.int .i32 97, .int .i32 98, .int .i32 99], .int .i64 (k : Nat)] F = some (.int .i32 (97 + (k : Nat)), F) := by
      have : k = 0 ∨ k = 1 ∨ k = 2 := by omega
      rcases this with rfl | rfl | rfl <;> rfl
    have hul : (knU k).length ≤ 2 := by
      have : k = 0 ∨ k = 1 ∨ k = 2 := by omega
      rcases this with rfl | rfl | rfl <;> decide
    simp (maxSteps := 1000000) (implicitDefEqProofs := false) only [stp, if_true, if_false, Int.reduceEq, Int.reduceLT, Int.reduceLE, Int.reduceGT, Int.reduceGE, reduceCtorEq, Nat.reduceEqDiff, List.getElem?_cons_zero, List.getElem?_cons_succ, Option.map_some, hlt, hidx]
    refine SCalls.mono (inT (97 + (k : Nat)) M F (fun j e => t.d.mb e)) ?_
    rintro _ F1 ⟨w1, x1, xv, yv, o, u, rfl, fx, fy, c1, c2⟩
    have t2 := t.grow x1 w1
    simp (maxSteps := 1000000) (implicitDefEqProofs := false) only [stp, if_true, if_false, Int.reduceEq, Int.reduceLT, Int.reduceLE, Int.reduceGT, Int.reduceGE, reduceCtorEq, Nat.reduceEqDiff, List.getElem?_cons_zero, List.getElem?_cons_succ, Option.map_some, if_true]
    refine SCalls.mono (t2.push rfl fx.here fy.here (by simp only [big]; omega) (show (0 : Int) ≤ 2 by decide) (show (2 : Int) ≤ 65536 by decide)) ?_
    rintro _ F2 ⟨rfl, M2, t3, nx⟩
    have hwr : IntKind.i64.wrap ((k : Int) + 1) = ((k + 1 : Nat) : Int) := by rw [wrap_i64 (by omega) (by omega)]; omega
    simp (maxSteps := 1000000) (implicitDefEqProofs := false) only [stp, if_true, if_false, Int.reduceEq, Int.reduceLT, Int.reduceLE, Int.reduceGT, Int.reduceGE, reduceCtorEq, Nat.reduceEqDiff, List.getElem?_cons_zero, List.getElem?_cons_succ, Option.map_some, Bool.false_eq_true, hwr]
    refine ⟨3 - (k + 1), by omega, k + 1, M2, rfl, by omega, ?_, .cons rfl (.cons rfl (.cons rfl .nil))⟩
    simp only [List.map_cons, List.map_nil, c1, c2] at t3
    exact t3
  · obtain rfl : k = 3 := by omega
    have t4 : HistT G0 F M p (.ptr sid 0) ⟨2, [gA 98] ++ [gA 99], [], false, []⟩ := t
    simp (maxSteps := 1000000) (implicitDefEqProofs := false) only [stp, if_true, if_false, Int.reduceEq, Int.reduceLT, Int.reduceLE, Int.reduceGT, Int.reduceGE, reduceCtorEq, Nat.reduceEqDiff, List.getElem?_cons_zero, List.getElem?_cons_succ, Option.map_some, hlt]
    refine SCalls.mono (t4.undo rfl rfl (by simp [big]) (by simp [big])) ?_
    rintro _ F5 ⟨M5, x5, os5, rfl, t5, n5, f5, c5⟩
    simp (maxSteps := 1000000) (implicitDefEqProofs := false) only [stp, if_true, if_false, Int.reduceEq, Int.reduceLT, Int.reduceLE, Int.reduceGT, Int.reduceGE, reduceCtorEq, Nat.reduceEqDiff, List.getElem?_cons_zero, List.getElem?_cons_succ, Option.map_some, if_true]
    refine SCalls.mono (t5.undo (gi := []) (g := gA 98) rfl rfl (by simp [big]) (by simp [big])) ?_
    rintro _ F6 ⟨M6, x6, os6, rfl, t6, n6, f6, c6⟩
    simp (maxSteps := 1000000) (implicitDefEqProofs := false) only [stp, if_true, if_false, Int.reduceEq, Int.reduceLT, Int.reduceLE, Int.reduceGT, Int.reduceGE, reduceCtorEq, Nat.reduceEqDiff, List.getElem?_cons_zero, List.getElem?_cons_succ, Option.map_some, if_true]
    refine SCalls.mono (t6.undoNo (.inr rfl)) ?_
    rintro _ F7 ⟨x7, rfl, t7, e7, f7⟩
    simp (maxSteps := 1000000) (implicitDefEqProofs := false) only [stp, if_true, if_false, Int.reduceEq, Int.reduceLT, Int.reduceLE, Int.reduceGT, Int.reduceGE, reduceCtorEq, Nat.reduceEqDiff, List.getElem?_cons_zero, List.getElem?_cons_succ, Option.map_some, Bool.false_eq_true]
    refine SCalls.mono (t7.redo (gi := [gA 99]) (g := gA 98) rfl rfl (by simp [big]) (by simp [big])) ?_
    rintro _ F8 ⟨M8, x8, os8, rfl, t8, n8, f8, c8⟩
    simp (maxSteps := 1000000) (implicitDefEqProofs := false) only [stp, if_true, if_false, Int.reduceEq, Int.reduceLT, Int.reduceLE, Int.reduceGT, Int.reduceGE, reduceCtorEq, Nat.reduceEqDiff, List.getElem?_cons_zero, List.getElem?_cons_succ, Option.map_some, if_true]
    refine SCalls.mono (inT 98 M8 F8 (fun j e => t8.d.mb e)) ?_
    rintro _ F9 ⟨w9, e9, xv, yv, o, u, rfl, fx, fy, co, cu⟩
    have t9 := t8.grow e9 w9
    have nx9 : Nx M8 F8 M8 F9 := Nx.ofExt e9
    have f5' := nx9.fz (n8.fz ((Nx.ofExt e7).fz (n6.fz f5)))
    have f8' := nx9.fz f8
    simp (maxSteps := 1000000) (implicitDefEqProofs := false) only [stp, if_true, if_false, Int.reduceEq, Int.reduceLT, Int.reduceLE, Int.reduceGT, Int.reduceGE, reduceCtorEq, Nat.reduceEqDiff, List.getElem?_cons_zero, List.getElem?_cons_succ, Option.map_some, if_true]
    refine SCalls.mono (depthsH t9.d.toI) ?_
    rintro _ _ ⟨rfl, rfl⟩
    simp (maxSteps := 1000000) (implicitDefEqProofs := false) only [stp, if_true, if_false, Int.reduceEq, Int.reduceLT, Int.reduceLE, Int.reduceGT, Int.reduceGE, reduceCtorEq, Nat.reduceEqDiff, List.getElem?_cons_zero, List.getElem?_cons_succ, Option.map_some, Bool.false_eq_true]
    refine SCalls.mono (refSameO f5'.here fy.here) ?_
    rintro _ _ ⟨rfl, rfl⟩
    rw [c5, List.map_cons, List.map_nil, cu, opEq_self]
    simp (maxSteps := 1000000) (implicitDefEqProofs := false) only [stp, if_true, if_false, Int.reduceEq, Int.reduceLT, Int.reduceLE, Int.reduceGT, Int.reduceGE, reduceCtorEq, Nat.reduceEqDiff, List.getElem?_cons_zero, List.getElem?_cons_succ, Option.map_some, Bool.false_eq_true]
    refine SCalls.mono (refSameO f8'.here fx.here) ?_
    rintro _ _ ⟨rfl, rfl⟩
    rw [c8, List.map_cons, List.map_nil, co, opEq_self]
    have i1 : (((([] : List GrpC) ++ [gA 98]).length : Nat) : Int) = 1 := rfl
    have i2 : ((([gA 99] : List GrpC).length : Nat) : Int) = 1 := rfl
    simp (maxSteps := 1000000) (implicitDefEqProofs := false) only [stp, if_true, if_false, Int.reduceEq, Int.reduceLT, Int.reduceLE, Int.reduceGT, Int.reduceGE, reduceCtorEq, Nat.reduceEqDiff, List.getElem?_cons_zero, List.getElem?_cons_succ, Option.map_some, i1, i2]
    refine SCalls.mono (t9.push rfl fx.here fy.here (by simp [big]) (by decide) (by decide)) ?_
    rintro _ F10 ⟨rfl, M10, t10, n10⟩
    simp (maxSteps := 1000000) (implicitDefEqProofs := false) only [stp, if_true, if_false, Int.reduceEq, Int.reduceLT, Int.reduceLE, Int.reduceGT, Int.reduceGE, reduceCtorEq, Nat.reduceEqDiff, List.getElem?_cons_zero, List.getElem?_cons_succ, Option.map_some, Bool.false_eq_true]
    refine SCalls.mono (t10.begin rfl) ?_
    rintro _ F11 ⟨rfl, M11, t11, n11⟩
    simp (maxSteps := 1000000) (implicitDefEqProofs := false) only [stp, if_true, if_false, Int.reduceEq, Int.reduceLT, Int.reduceLE, Int.reduceGT, Int.reduceGE, reduceCtorEq, Nat.reduceEqDiff, List.getElem?_cons_zero, List.getElem?_cons_succ, Option.map_some, Bool.false_eq_true]
    refine SCalls.mono (beginH_no t11.d rfl) ?_
    rintro _ _ ⟨rfl, rfl⟩
    simp (maxSteps := 1000000) (implicitDefEqProofs := false) only [stp, if_true, if_false, Int.reduceEq, Int.reduceLT, Int.reduceLE, Int.reduceGT, Int.reduceGE, reduceCtorEq, Nat.reduceEqDiff, List.getElem?_cons_zero, List.getElem?_cons_succ, Option.map_some, Bool.false_eq_true]
    refine SCalls.mono (openH t11.d.toI) ?_
    rintro _ _ ⟨rfl, rfl⟩
    simp (maxSteps := 1000000) (implicitDefEqProofs := false) only [stp, if_true, if_false, Int.reduceEq, Int.reduceLT, Int.reduceLE, Int.reduceGT, Int.reduceGE, reduceCtorEq, Nat.reduceEqDiff, List.getElem?_cons_zero, List.getElem?_cons_succ, Option.map_some, if_true]
    exact ⟨hx0.trans t11.ext, by trivial, rfl⟩
end Go.Proofs.YtkmaikggdbielaaGreatDoor.Fw

/- The maker: New and Ops. No condition. -/
namespace Go.Proofs.YtkmaikggdbielaaGreatDoor.Fw
open Go
set_option linter.unusedSimpArgs false
set_option linter.unusedVariables false

theorem newMk_calls (H : Heap) : SCalls PP 75 [] H fun r H' => Ext H H' ∧ WF H' ∧ ∃ p, r = .ptr p 0 ∧ H.next ≤ p ∧ MkI H' (fun j => j = p) (fun _ => False) p ⟨[], [], 0⟩ := by
  refine SCalls.go c75 (by simp [fn75]) fun hw => ?_
  have hb : exec (.build [.nils, .nils, .int .i64 0] []) [] H = some (.agg [.nils, .nils, .int .i64 0], H) := rfl
  have hx := x_box (H := H) (.agg [.nils, .nils, .int .i64 0]) rfl
  have hg := new_get H (.row false 3 [.nils, .nils, .int .i64 0])
  simp (maxSteps := 1000000) (implicitDefEqProofs := false) only [stp, if_true, if_false, Int.reduceEq, Int.reduceLT, Int.reduceLE, Int.reduceGT, Int.reduceGE, reduceCtorEq, Nat.reduceEqDiff, List.getElem?_cons_zero, List.getElem?_cons_succ, Option.map_some, fn75, enterFr, List.length, List.range, List.range.loop, List.zip, List.zipWith, hb, hx]
  refine ⟨(Ext.refl H).new _, hw.new _, H.next, rfl, Nat.le_refl _, .nils, .nils, [], [], none, none, none, Nat.lt_succ_self _, rfl, fun j e => by rw [e]; exact Nat.lt_succ_self _, hg, Vec.nil _ _, Vec.nil _ _, fun j e => (by cases e), fun j e => (by cases e), fun j e => (by cases e), fun j e => (by cases e), trivial, .inl ⟨rfl, rfl, rfl⟩, fun _ => rfl, fun _ => rfl, fun j e => e.elim⟩

/-- What a maker hands back. -/
def MkC.all (m : MkC) : List OpC := m.done ++ (m.ins ++ delO m.gone)
def trimO (l : List OpC) : List OpC := match l.getLast? with
  | some c => if c.kind = 1 ∧ c.chs = [] then l.dropLast else l
  | none => l
def MkC.ops (m : MkC) : List OpC := trimO m.all

theorem All2.list {α : Type} {β : Type} {γ : Type} {R : α → β → Prop} {Q : γ → Prop} {f : γ → α} {g : γ → β} (h : ∀ a b, R a b → ∃ o, f o = a ∧ g o = b ∧ Q o) : ∀ {l : List α} {k : List β}, All2 R l k → ∃ os : List γ, os.map f = l ∧ os.map g = k ∧ ∀ o ∈ os, Q o
  | [], [], _ => ⟨[], rfl, rfl, by simp⟩
  | a :: l, b :: k, ⟨h1, h2⟩ => by
    obtain ⟨o, q1, q2, q3⟩ := h a b h1
    obtain ⟨os, q4, q5, q6⟩ := All2.list h h2
    exact ⟨o :: os, by simp [q1, q4], by simp [q2, q5], fun x hx => by
      rcases List.mem_cons.1 hx with rfl | hx
      · exact q3
      · exact q6 x hx⟩
  | [], b :: k, q => q.elim
  | a :: l, [], q => q.elim
theorem mk_all {H : Heap} {M N : Nat → Prop} {p : Nat} {m : MkC} {dv iv : V} {dcs ics : List (List V)} {dk ik rk : Option Nat} (h : MkP H M N p m dv iv dcs ics dk ik rk) (hgo : m.gone ≤ 9223372036854775807) :
    ∃ os : List OpA, os.map OpA.cells = dcs ++ (ics ++ delC m.gone) ∧ os.map OpA.con = m.all ∧ ∀ o ∈ os, o.In H := by
  have conv : ∀ a b, OpZ M H a b → ∃ o : OpA, o.cells = a ∧ o.con = b ∧ o.In H := fun a b ⟨o, h1, h2, h3⟩ => ⟨o, h1.symm, h2, h3.here⟩
  obtain ⟨o1, a1, a2, a3⟩ := All2.list conv h.done
  obtain ⟨o3, c1, c2, c3⟩ := All2.list conv (delO_z M H m.gone hgo)
  have : ∃ o2 : List OpA, o2.map OpA.cells = ics ∧ o2.map OpA.con = m.ins ∧ ∀ o ∈ o2, o.In H := by
    rcases h.ins with ⟨e1, e2, _⟩ | ⟨ei, el, ci, cl, r, e1, e2, _, ha, hz⟩
    · exact ⟨[], e1.symm, e2.symm, by simp⟩
    · obtain ⟨ox, b1, b2, b3⟩ := All2.list conv ha
      obtain ⟨o, q1, q2, q3⟩ := hz.sl
      exact ⟨ox ++ [o], by simp [b1, e1, q1], by simp [b2, e2, q2], fun x hx => by
        rcases List.mem_append.1 hx with hx | hx
        · exact b3 x hx
        · simp at hx; subst hx; exact q3⟩
  obtain ⟨o2, b1, b2, b3⟩ := this
  refine ⟨o1 ++ (o2 ++ o3), by simp [a1, b1, c1], by simp [a2, b2, c2, MkC.all], fun o ho => ?_⟩
  rcases List.mem_append.1 ho with ho | ho
  · exact a3 o ho
  · rcases List.mem_append.1 ho with ho | ho
    · exact b3 o ho
    · exact c3 o ho
theorem bsl2 {H : Heap} {a b : V} (ha : a.cells = [a]) (ha1 : a.one = true) (hb : b.cells = [b]) (hb1 : b.one = true) : ∃ H', exec (.bsl 1 2 [.nils, .nils] [(0, 1), (1, 1)]) [a, b] H = some (.slice H.next 0 2 (some 2), H') ∧ Ext H H' ∧ (WF H → WF H') ∧ SL H' (.slice H.next 0 2 (some 2)) 1 [[a], [b]] := by
  refine ⟨H.new (.row false 1 [a, b]), ?_, (Ext.refl H).new _, fun hw => hw.new _, ?_⟩
  · have hf : fillA [V.nils, .nils] [((0, 1), a), ((1, 1), b)] = some [a, b] := by
      simp only [fillA, ha, hb]
      rfl
    simp only [exec, List.length_cons, List.length_nil, if_true, List.zip_cons_cons, List.zip_nil_right, hf, Option.bind_some, List.all_cons, List.all_nil, ha1, hb1, Bool.and_self]
  · have ow : Own (H.new (.row false 1 [a, b])) H.next 1 [[a], [b]] := ⟨Nat.lt_succ_self _, by rw [new_get]; simp, by simp [ha1, hb1]⟩
    exact ow.sl (some 2)
theorem SL.upto {H : Heap} {id off n : Nat} {c c' : Option Nat} {sz : Nat} {es : List (List V)} (h : SL H (.slice id off n c) sz es) {m : Nat} (hm : m ≤ es.length) : SL H (.slice id (off + 0 * sz) (m - 0) c') sz (es.take m) := by
  obtain ⟨h0, ⟨e, _⟩ | ⟨id', off', cap', e1, e2, e3⟩⟩ := h
  · cases e
  · simp only [V.slice.injEq] at e1
    obtain ⟨rfl, rfl, _, _⟩ := e1
    refine ⟨fun e he => h0 e (List.mem_of_mem_take he), .inr ⟨_, _, _, by rw [List.length_take, Nat.min_eq_left hm, Nat.sub_zero], e2, fun i e he => ?_⟩⟩
    rw [List.getElem?_take] at he
    split at he
    · have := e3 i e he
      rwa [Nat.zero_mul, Nat.add_zero]
    · cases he

set_option maxRecDepth 20000 in
set_option maxHeartbeats 4000000 in
theorem ops_calls {H : Heap} {M N : Nat → Prop} {p : Nat} {m : MkC} (h : MkI H M N p m) (hl : m.done.length + m.ins.length + 3 ≤ big) (hgo : m.gone ≤ 9223372036854775807) :
    SCalls PP 82 [.ptr p 0] H fun r H' => Ext H H' ∧ WF H' ∧ ∃ os, Fresh H.next H' r os ∧ os.map OpA.con = m.ops := by
  refine SCalls.go c82 (by simp [fn82]) fun hw => ?_
  obtain ⟨dv, iv, dcs, ics, dk, ik, rk, h⟩ := h
  unfold big at hl
  have hnp : exec (.eqnil 0 false) [.ptr p 0, .nilp] H = some (.bool false, H) := rfl
  have hil := h.ins.len
  have hdl := h.done.length
  have hdc : (delC m.gone).length ≤ 1 := by unfold delC; split <;> simp
  have l0 := h.at3.ld (j := 0) (v := dv) rfl 1
  obtain ⟨os, o1, o2, o3⟩ := mk_all h hgo
  have hosl : os.length ≤ big := by
    have := congrArg List.length o1
    simp only [List.length_map, List.length_append] at this
    unfold big; omega
  simp (maxSteps := 1000000) (implicitDefEqProofs := false) only [stp, if_true, if_false, Int.reduceEq, Int.reduceLT, Int.reduceLE, Int.reduceGT, Int.reduceGE, reduceCtorEq, Nat.reduceEqDiff, List.getElem?_cons_zero, List.getElem?_cons_succ, Option.map_some, fn82, enterFr, List.length, List.range, List.range.loop, List.zip, List.zipWith, hnp, l0]
  refine ⟨?_, ?_⟩
  all_goals
    refine SCalls.mono (gap_calls h (by unfold big; omega)) ?_
    rintro gv G ⟨hx, hwG, k, hv, hk, hk0⟩
    have l0' := (h.at3.ext hx).ld (j := 0) (v := dv) rfl 1
    obtain ⟨G2, b1, b2, b3, b4⟩ := bsl2 (H := G) h.dvec.one.2 h.dvec.one.1 hv.one.2 hv.one.1
    simp (maxSteps := 1000000) (implicitDefEqProofs := false) only [stp, if_true, if_false, Int.reduceEq, Int.reduceLT, Int.reduceLE, Int.reduceGT, Int.reduceGE, reduceCtorEq, Nat.reduceEqDiff, List.getElem?_cons_zero, List.getElem?_cons_succ, Option.map_some, l0', b1]
    refine SCalls.mono (concat_calls (vs := [(dv, dcs), (gv, ics ++ delC m.gone)]) (H := G2) b4 (fun q hq => ?_) ?_ (by simp [big])) ?_
    · simp only [List.mem_cons, List.not_mem_nil, or_false] at hq
      rcases hq with rfl | rfl
      · exact (h.dvec.sl.ext hx).ext b2
      · exact hv.sl.ext b2
    · simp only [lens, List.map_cons, List.map_nil, List.sum_cons, List.sum_nil, List.length_append]
      unfold big; omega
    rintro r G3 ⟨hx3, hw3, kk, hvv, hkk, hk00⟩
    have hj : joined [(dv, dcs), (gv, ics ++ delC m.gone)] = os.map OpA.cells := by simp [joined, o1]
    rw [hj] at hvv hk00
    have hH3 : Ext H G3 := (hx.trans b2).trans hx3
    have hin3 : ∀ o ∈ os, o.In G3 := fun o ho => (o3 o ho).ext hH3
    have hlen : exec .len [r] G3 = some (.int .i64 os.length, G3) := by have := hvv.len G3; rwa [List.length_map] at this
    have hw1 : IntKind.i64.wrap ((os.length : Int) - 1) = (os.length : Int) - 1 := wrap_i64 (by unfold big at hosl; omega) (by unfold big at hosl; omega)
    have copy : ∀ (l : V) (os2 : List OpA), OpsIn G3 l os2 → os2.map OpA.con = m.ops → ∀ K : V → Heap → Prop, (∀ r H', (Ext H H' ∧ WF H' ∧ ∃ os, Fresh H.next H' r os ∧ os.map OpA.con = m.ops) → K r H') → SCalls PP 37 [l] G3 K := by
      intro l os2 hop hcon K hK
      refine SCalls.mono (copy_calls hop) ?_
      rintro r H' ⟨q1, q2, os', q3, q4⟩
      refine hK r H' ⟨hH3.trans q1, q2, os', fun G' hx' => q3 G' ⟨hx'.gn, hx'.next, fun j hj hm => hx'.get j hj (fun q => hm (by have := hH3.next; omega))⟩, by rw [q4, hcon]⟩
    rcases List.eq_nil_or_concat os with hos | ⟨oi, ol, hos⟩
    · subst hos
      have hlt : ¬ ((([] : List OpA).length : Int) - 1 ≥ 0) := by simp
      simp only [List.length_nil, Int.natCast_zero] at hlt hw1 hlen
      simp (maxSteps := 1000000) (implicitDefEqProofs := false) only [stp, if_true, if_false, Int.reduceEq, Int.reduceLT, Int.reduceLE, Int.reduceGT, Int.reduceGE, reduceCtorEq, Nat.reduceEqDiff, List.getElem?_cons_zero, List.getElem?_cons_succ, Option.map_some, hlen, hw1, hlt]
      refine copy r [] ⟨hvv.sl, by simp, by simp⟩ ?_ _ fun r H' q => ?_
      · have : m.all = [] := by rw [← o2]; rfl
        rw [MkC.ops, this]
        rfl
      · simp (maxSteps := 1000000) (implicitDefEqProofs := false) only [stp, if_true, if_false, Int.reduceEq, Int.reduceLT, Int.reduceLE, Int.reduceGT, Int.reduceGE, reduceCtorEq, Nat.reduceEqDiff, List.getElem?_cons_zero, List.getElem?_cons_succ, Option.map_some, if_true]
        exact q
    · rw [List.concat_eq_append] at hos
      obtain ⟨i, hki, hri, hoi⟩ := hvv.some hk00 (by rw [hos]; simp)
      rw [List.length_map] at hri
      have hol : os.length = oi.length + 1 := by rw [hos, List.length_append]; rfl
      have hw1' : IntKind.i64.wrap ((os.length : Int) - 1) = ((oi.length : Nat) : Int) := by rw [hw1]; omega
      have hge : ((oi.length : Nat) : Int) ≥ 0 := by omega
      have hia := x_iax (H := G3) (id := i) (n := os.length) (i := oi.length) (sz := 5) (by omega)
      rw [← hri] at hia
      have hat : At G3 i (0 + oi.length * 5) ol.cells := by
        obtain ⟨_, ⟨e, _⟩ | ⟨id', off', cap', e1, e2, e3⟩⟩ := hoi.sl none
        · cases e
        · simp only [V.slice.injEq] at e1
          obtain ⟨rfl, rfl, _, _⟩ := e1
          exact e3 oi.length ol.cells (by rw [hos]; simp)
      have l1 := hat.ld (j := 0) (v := .int .u8 ol.kind) rfl 1
      have l4 := hat.ld (j := 4) (v := ol.patch) rfl 1
      have hlp : exec .len [ol.patch] G3 = some (.int .i64 ol.chs.length, G3) := by have := (hin3 ol (by rw [hos]; simp)).patch.len (H' := G3); rwa [List.length_map] at this
      have hgl : m.all.getLast? = some ol.con := by rw [← o2, hos]; simp
      have whole : ¬ (ol.kind = 1 ∧ ol.chs = []) → os.map OpA.con = m.ops := fun hn => by
        rw [MkC.ops, trimO, hgl, o2]
        exact (if_neg hn).symm
      have hopw : OpsIn G3 r os := ⟨hvv.sl, hin3, hosl⟩
      by_cases hk1 : ol.kind = 1
      · by_cases hc0 : ol.chs = []
        · have hc0' : (ol.chs.length : Int) = 0 := by rw [hc0]; rfl
          have hsl := x_slc_hi (H := G3) (n := os.length) (i := oi.length) hoi.get (by omega)
          rw [← hri] at hsl
          simp (maxSteps := 1000000) (implicitDefEqProofs := false) only [stp, if_true, if_false, Int.reduceEq, Int.reduceLT, Int.reduceLE, Int.reduceGT, Int.reduceGE, reduceCtorEq, Nat.reduceEqDiff, List.getElem?_cons_zero, List.getElem?_cons_succ, Option.map_some, hlen, hw1', hge, hia, l1, hk1, l4, hlp, hc0', hsl]
          refine copy _ (os.take oi.length) ⟨?_, fun o ho => hin3 o (List.mem_of_mem_take ho), by rw [List.length_take]; omega⟩ ?_ _ fun r H' q => ?_
          · have hs := hvv.sl
            rw [hri] at hs
            rw [List.map_take]
            exact hs.upto (by rw [List.length_map]; omega)
          · rw [MkC.ops, trimO, hgl]
            simp only
            rw [if_pos ⟨hk1, hc0⟩, ← o2, hos]
            simp
          · simp (maxSteps := 1000000) (implicitDefEqProofs := false) only [stp, if_true, if_false, Int.reduceEq, Int.reduceLT, Int.reduceLE, Int.reduceGT, Int.reduceGE, reduceCtorEq, Nat.reduceEqDiff, List.getElem?_cons_zero, List.getElem?_cons_succ, Option.map_some, if_true]
            exact q
        · have hc0' : ¬ (ol.chs.length : Int) = 0 := fun q => hc0 (List.length_eq_zero_iff.1 (by omega))
          simp (maxSteps := 1000000) (implicitDefEqProofs := false) only [stp, if_true, if_false, Int.reduceEq, Int.reduceLT, Int.reduceLE, Int.reduceGT, Int.reduceGE, reduceCtorEq, Nat.reduceEqDiff, List.getElem?_cons_zero, List.getElem?_cons_succ, Option.map_some, hlen, hw1', hge, hia, l1, hk1, l4, hlp, hc0']
          refine copy r os hopw (whole fun q => hc0 q.2) _ fun r H' q => ?_
          simp (maxSteps := 1000000) (implicitDefEqProofs := false) only [stp, if_true, if_false, Int.reduceEq, Int.reduceLT, Int.reduceLE, Int.reduceGT, Int.reduceGE, reduceCtorEq, Nat.reduceEqDiff, List.getElem?_cons_zero, List.getElem?_cons_succ, Option.map_some, if_true]
          exact q
      · simp (maxSteps := 1000000) (implicitDefEqProofs := false) only [stp, if_true, if_false, Int.reduceEq, Int.reduceLT, Int.reduceLE, Int.reduceGT, Int.reduceGE, reduceCtorEq, Nat.reduceEqDiff, List.getElem?_cons_zero, List.getElem?_cons_succ, Option.map_some, hlen, hw1', hge, hia, l1, hk1]
        refine copy r os hopw (whole fun q => hk1 q.1) _ fun r H' q => ?_
        simp (maxSteps := 1000000) (implicitDefEqProofs := false) only [stp, if_true, if_false, Int.reduceEq, Int.reduceLT, Int.reduceLE, Int.reduceGT, Int.reduceGE, reduceCtorEq, Nat.reduceEqDiff, List.getElem?_cons_zero, List.getElem?_cons_succ, Option.map_some, if_true]
        exact q
end Go.Proofs.YtkmaikggdbielaaGreatDoor.Fw

/- patch.Part: what it leaves. No condition. -/
namespace Go.Proofs.YtkmaikggdbielaaGreatDoor.Fw
open Go
set_option linter.unusedSimpArgs false
set_option linter.unusedVariables false

theorem x_bbinP (n a b : Bool) (H : Heap) : exec (.bbin n) [.bool a, .bool b] H = some (.bool ((a == b) != n), H) := rfl
/-- Whether a part leaves a change out. -/
def outC (ks : List KeyA) (block : Bool) (a : ChgA) : Bool := !(findK ks a.key).isSome || (((findK ks a.key).getD zeroK).block != block)
abbrev zcC : List V := [.int .i64 0, .bool false, .int .u8 0, .int .i64 0, .int .u64 0, .str ⟨#[]⟩]
theorem partC1_calls {s : V} {H : Heap} {ks : List KeyA} {p1 p2 : Nat} {b : Bool} (hs : Sch H s ks) (h1 : At H p1 0 [s]) (h2 : At H p2 0 [.bool b]) (a : ChgA) :
    SCalls PP 133 [.agg a.cells, .ptr p1 0, .ptr p2 0] H fun r H' => H' = H ∧ r = .bool (outC ks b a) := by
  refine SCalls.keep (R := fun r => r = .bool (outC ks b a)) (SCalls.go c133 (by simp [fn133]) fun hw => ?_)
  obtain ⟨H2, hx2, hw2, ha2, hbx⟩ := x_boxed (Ext.refl H) hw (e := a.cells) rfl
  have l0 := ha2.ld (j := 0) (v := .int .i64 a.key) rfl 1
  have ls := (h1.ext hx2).ld (j := 0) (v := s) rfl 1
  rw [Nat.add_zero] at ls
  simp (maxSteps := 1000000) (implicitDefEqProofs := false) only [stp, if_true, if_false, Int.reduceEq, Int.reduceLT, Int.reduceLE, Int.reduceGT, Int.reduceGE, reduceCtorEq, Nat.reduceEqDiff, List.getElem?_cons_zero, List.getElem?_cons_succ, Option.map_some, fn133, enterFr, List.length, List.range, List.range.loop, List.zip, List.zipWith, hbx, l0, ls]
  refine SCalls.mono (find_calls (hs.ext hx2) a.key) ?_
  rintro r H3 ⟨rfl, rfl⟩
  obtain ⟨H4, hx4, hw4, ha4, hal, hst⟩ := x_copy (Ext.refl H3) hw2 (z := zk) (e := foundC ks a.key) (n := 6) rfl rfl rfl rfl
  have k1 := ha4.ld (j := 1) (v := .bool ((findK ks a.key).getD zeroK).block) rfl 1
  have lb := (h2.ext (hx2.trans hx4)).ld (j := 0) (v := .bool b) rfl 1
  rw [Nat.add_zero] at lb
  cases hf : (findK ks a.key).isSome with
  | false =>
    simp (maxSteps := 1000000) (implicitDefEqProofs := false) only [stp, if_true, if_false, Int.reduceEq, Int.reduceLT, Int.reduceLE, Int.reduceGT, Int.reduceGE, reduceCtorEq, Nat.reduceEqDiff, List.getElem?_cons_zero, List.getElem?_cons_succ, Option.map_some, hal, hst, hf]
    exact ⟨hx2.trans hx4, by simp [outC, hf], rfl⟩
  | true =>
    simp (maxSteps := 1000000) (implicitDefEqProofs := false) only [stp, if_true, if_false, Int.reduceEq, Int.reduceLT, Int.reduceLE, Int.reduceGT, Int.reduceGE, reduceCtorEq, Nat.reduceEqDiff, List.getElem?_cons_zero, List.getElem?_cons_succ, Option.map_some, hal, hst, hf, k1, lb, x_bbinP]
    refine ⟨hx2.trans hx4, ?_, rfl⟩
    simp only [outC, hf, Bool.not_true, Bool.false_or, Bool.false_eq_true, if_false]
    cases ((findK ks a.key).getD zeroK).block <;> cases b <;> rfl

def idxC (d : ChgA → Bool) : Nat → List ChgA → Int
  | _, [] => -1
  | k, a :: l => if d a then k else idxC d (k + 1) l
theorem indexFuncC_calls {x c1 c2 : V} {H : Heap} {l : List ChgA} {d : ChgA → Bool} (hx : SL H x 6 (l.map ChgA.cells)) (hl : l.length ≤ big)
    (hd : ∀ a ∈ l, SCalls PP 133 [.agg a.cells, c1, c2] H fun r H' => H' = H ∧ r = .bool (d a)) :
    SCalls PP 141 [x, .fn (.func 133) [] [c1, c2]] H fun r H' => H' = H ∧ r = .int .i64 (idxC d 0 l) := by
  refine SCalls.keep (R := fun r => r = .int .i64 (idxC d 0 l)) (SCalls.go c141 (by simp [fn141]) fun hw => ?_)
  unfold big at hl
  simp (maxSteps := 1000000) (implicitDefEqProofs := false) only [stp, if_true, if_false, Int.reduceEq, Int.reduceLT, Int.reduceLE, Int.reduceGT, Int.reduceGE, reduceCtorEq, Nat.reduceEqDiff, List.getElem?_cons_zero, List.getElem?_cons_succ, Option.map_some, fn141, enterFr, List.length, List.range, List.range.loop, List.zip, List.zipWith, hx.len]
  refine wp_range SCalls.scMono (by simp only [List.length_map]; omega) (fun _ : Unit => [(0, x), (1, .fn (.func 133) [] [c1, c2])]) (fun k _ H' => idxC d k (l.drop k) = idxC d 0 l ∧ H' = H) () ⟨rfl, rfl⟩
    (.cons rfl (.cons rfl (.cons rfl (.cons rfl .nil)))) (by decide) (fun s => ⟨rfl, rfl, rfl⟩) ?_ ?_
  · rintro k _ H' hk ⟨hacc, rfl⟩
    rw [List.length_map] at hk
    obtain ⟨id, p, hia, hat⟩ := hx.ia (H' := H') (i := k) (e := l[k].cells) (by simp [hk]) .i64
    rw [List.drop_eq_getElem_cons hk] at hacc
    simp only [idxC] at hacc
    simp (maxSteps := 1000000) (implicitDefEqProofs := false) only [stp, if_true, if_false, Int.reduceEq, Int.reduceLT, Int.reduceLE, Int.reduceGT, Int.reduceGE, reduceCtorEq, Nat.reduceEqDiff, List.getElem?_cons_zero, List.getElem?_cons_succ, Option.map_some, hia, hat.lda (n := 6) rfl, List.nil_append, List.cons_append]
    refine SCalls.mono (hd l[k] (List.getElem_mem hk)) ?_
    rintro v H2 ⟨rfl, rfl⟩
    cases hr : d l[k] with
    | false =>
      rw [hr, if_neg (by simp)] at hacc
      simp (maxSteps := 1000000) (implicitDefEqProofs := false) only [stp, if_true, if_false, Int.reduceEq, Int.reduceLT, Int.reduceLE, Int.reduceGT, Int.reduceGE, reduceCtorEq, Nat.reduceEqDiff, List.getElem?_cons_zero, List.getElem?_cons_succ, Option.map_some, hr]
      exact ⟨(), ⟨hacc, by trivial⟩, .cons rfl (.cons rfl (.cons rfl (.cons rfl .nil)))⟩
    | true =>
      rw [hr, if_pos rfl] at hacc
      simp (maxSteps := 1000000) (implicitDefEqProofs := false) only [stp, if_true, if_false, Int.reduceEq, Int.reduceLT, Int.reduceLE, Int.reduceGT, Int.reduceGE, reduceCtorEq, Nat.reduceEqDiff, List.getElem?_cons_zero, List.getElem?_cons_succ, Option.map_some, hr]
      exact ⟨Ext.refl _, congrArg (V.int .i64) hacc, rfl⟩
  · rintro _ H' ⟨hacc, rfl⟩
    simp (maxSteps := 1000000) (implicitDefEqProofs := false) only [stp, if_true, if_false, Int.reduceEq, Int.reduceLT, Int.reduceLE, Int.reduceGT, Int.reduceGE, reduceCtorEq, Nat.reduceEqDiff, List.getElem?_cons_zero, List.getElem?_cons_succ, Option.map_some, if_true]
    rw [List.length_map, List.drop_length] at hacc
    exact ⟨Ext.refl _, congrArg (V.int .i64) hacc, rfl⟩
theorem idxC_keep (d : ChgA → Bool) : ∀ (l : List ChgA) (k : Nat), (idxC d k l = -1 ∧ l.filter (fun a => !d a) = l) ∨ ∃ i, idxC d k l = ((k + i : Nat) : Int) ∧ i < l.length ∧ (l.take (i + 1)).filter (fun a => !d a) = l.take i
  | [], k => .inl ⟨rfl, rfl⟩
  | a :: l, k => by
    cases ha : d a with
    | true => exact .inr ⟨0, by simp [idxC, ha], by simp, by simp [ha]⟩
    | false =>
      rcases idxC_keep d l (k + 1) with ⟨h1, h2⟩ | ⟨i, h1, h2, h3⟩
      · exact .inl ⟨by simp [idxC, ha, h1], by simp [ha, h2]⟩
      · exact .inr ⟨i + 1, by simp [idxC, ha, h1]; omega, by simp; omega, by rw [List.take_succ_cons, List.take_succ_cons, List.filter_cons_of_pos (by simp [ha]), h3]⟩
theorem flat_splice {sz : Nat} : ∀ {es : List (List V)} (_ : ∀ e ∈ es, e.length = sz) {i : Nat} {e : List V}, i < es.length → e.length = sz → splice es.flatten (i * sz) e = (es.set i e).flatten
  | [], h, i, e, hi, he => by simp at hi
  | x :: es, h, 0, e, hi, he => by
    have hx := h x (by simp)
    simp only [splice, Nat.zero_mul, List.take_zero, List.nil_append, Nat.zero_add, List.flatten_cons, List.set_cons_zero]
    rw [List.drop_append_of_le_length (by omega), List.drop_of_length_le (by omega)]
    rfl
  | x :: es, h, i + 1, e, hi, he => by
    have hx := h x (by simp)
    have ih := flat_splice (es := es) (fun y hy => h y (List.mem_cons_of_mem _ hy)) (i := i) (e := e) (by simpa using hi) he
    rw [List.set_cons_succ, show (x :: es.set i e).flatten = x ++ (es.set i e).flatten from List.flatten_cons, ← ih]
    simp only [splice, List.flatten_cons]
    have e1 : (i + 1) * sz = x.length + i * sz := by rw [Nat.add_mul, hx]; omega
    rw [e1, List.take_append, List.take_of_length_le (by omega), show x.length + i * sz + e.length = x.length + (i * sz + e.length) by omega, List.drop_append, List.drop_of_length_le (l := x) (by omega)]
    simp [List.append_assoc]
theorem own_st {H : Heap} {id sz : Nat} {es : List (List V)} (h : Own H id sz es) {i : Nat} (hi : i < es.length) {e : List V} (he : e.length = sz) (ho : e.all V.one = true) :
    ∃ H', exec (.st sz) [.ptr id (0 + i * sz), .agg e] H = some (.undef, H') ∧ H' = H.set id (.row false sz (es.set i e).flatten) ∧ Own H' id sz (es.set i e) := by
  refine ⟨_, ?_, rfl, h.lt, set_get' _ _ _, fun y hy => ?_⟩
  · have hf := flatLen fun e he => (h.len e he).1
    have : (i + 1) * sz ≤ es.length * sz := Nat.mul_le_mul_right _ (by omega)
    rw [Nat.add_mul] at this
    have hwr : writeAt H id (0 + i * sz) e = some (H.set id (.row false sz (es.set i e).flatten)) := by
      unfold writeAt
      rw [h.get]
      simp only
      rw [if_pos ⟨by omega, ho⟩, Nat.zero_add, flat_splice (fun e he => (h.len e he).1) hi he]
    show (if e.length = sz then (writeAt H id (0 + i * sz) e).map (V.undef, ·) else none) = _
    rw [if_pos he, hwr]
    rfl
  · rcases List.mem_or_eq_of_mem_set hy with hy | rfl
    · exact h.len y hy
    · exact ⟨he, ho⟩
theorem slc_lo {H : Heap} {id n i sz : Nat} {cells : List V} (hg : H.get id = some (.row false sz cells)) (hi : i ≤ n) : exec (.slc sz true false false) [.slice id 0 n none, .int .i64 i] H = some (.slice id (0 + i * sz) (n - i) none, H) := by
  have hb : bounds3 true false false n ((none : Option Nat).getD n) [V.int .i64 i] = some (i, n, n) := by
    simp [bounds3, natV]
  simp only [exec, hb]
  rw [if_pos ⟨hi, Nat.le_refl _, Nat.le_refl _, by simp [slcOk, hg]⟩]
/-- What is behind is cleared. -/
theorem own_clear {H : Heap} (hw : WF H) {id sz : Nat} {es : List (List V)} (h : Own H id sz es) {z : List V} (hz : z.length = sz) (hzo : z.all V.one = true) {i : Nat} (hi : i ≤ es.length) :
    ∃ H', exec (.clear z) [.slice id (0 + i * sz) (es.length - i) none] H = some (.undef, H') ∧ WF H' ∧ H'.next = H.next ∧ H'.gn = H.gn ∧ (∀ j, j ≠ id → H'.get j = H.get j) ∧ Own H' id sz (es.take i ++ List.replicate (es.length - i) z) := by
  cases hm : es.length - i with
  | zero =>
    refine ⟨H, rfl, hw, rfl, rfl, fun _ _ => rfl, ?_⟩
    rw [List.take_of_length_le (by omega), List.replicate_zero, List.append_nil]
    exact h
  | succ m =>
    have hrl : (List.replicate (m + 1) z).flatten.length = (m + 1) * sz := by rw [flatLen (sz := sz) fun e he => by rw [List.eq_of_mem_replicate he]; exact hz, List.length_replicate]
    have hfl := flatLen fun e he => (h.len e he).1
    have hra : (List.replicate (m + 1) z).flatten.all V.one = true := flatAll fun e he => by rw [List.eq_of_mem_replicate he]; exact hzo
    have hsum : i * sz + (m + 1) * sz = es.length * sz := by rw [← Nat.add_mul]; congr 1; omega
    have hsp : splice es.flatten (0 + i * sz) (List.replicate (m + 1) z).flatten = (es.take i ++ List.replicate (m + 1) z).flatten := by
      have h1 : es.flatten.take (0 + i * sz) = (es.take i).flatten := by
        conv => lhs; rw [← List.take_append_drop i es, List.flatten_append]
        rw [List.take_append_of_le_length (by rw [flatLen (sz := sz) fun e he => (h.len e (List.mem_of_mem_take he)).1, List.length_take]; rw [Nat.min_eq_left hi]; omega), List.take_of_length_le]
        rw [flatLen (sz := sz) fun e he => (h.len e (List.mem_of_mem_take he)).1, List.length_take, Nat.min_eq_left hi]
        omega
      unfold splice
      rw [h1, List.drop_of_length_le (by rw [hrl, hfl]; omega), List.append_nil, List.flatten_append]
    have hwr : writeAt H id (0 + i * sz) (List.replicate (m + 1) z).flatten = some (H.set id (.row false sz (es.take i ++ List.replicate (m + 1) z).flatten)) := by
      unfold writeAt
      rw [h.get]
      simp only
      rw [if_pos ⟨by rw [hrl, hfl]; omega, hra⟩, hsp]
    refine ⟨_, ?_, hw.set h.get _, rfl, rfl, fun j hj => by rw [Heap.set_get, if_neg hj], h.lt, set_get' _ _ _, fun e he => ?_⟩
    · show (writeAt H id (0 + i * sz) (List.replicate (m + 1) z).flatten).map (V.undef, ·) = _
      rw [hwr]
      rfl
    · rcases List.mem_append.1 he with he | he
      · exact h.len e (List.mem_of_mem_take he)
      · rw [List.eq_of_mem_replicate he]; exact ⟨hz, hzo⟩

set_option maxRecDepth 20000 in
set_option maxHeartbeats 2000000 in
theorem deleteFuncC_calls {x c1 c2 : V} {G H : Heap} {l : List ChgA} {d : ChgA → Bool} (hG : Ext G H) (hl : l.length ≤ big)
    (hx : (l = [] ∧ SL H x 6 (l.map ChgA.cells)) ∨ ∃ id, x = .slice id 0 l.length none ∧ G.next ≤ id ∧ Own H id 6 (l.map ChgA.cells))
    (hd : ∀ H', Ext G H' → ∀ a ∈ l, SCalls PP 133 [.agg a.cells, c1, c2] H' fun r H'' => H'' = H' ∧ r = .bool (d a)) :
    SCalls PP 132 [x, .fn (.func 133) [] [c1, c2]] H fun r H' => Ext G H' ∧ WF H' ∧ SL H' r 6 ((l.filter fun a => !d a).map ChgA.cells) := by
  have hsl : SL H x 6 (l.map ChgA.cells) := by
    rcases hx with ⟨_, h⟩ | ⟨id, rfl, _, ho⟩
    · exact h
    · have := ho.sl none
      rwa [List.length_map] at this
  refine SCalls.go c132 (by simp [fn132]) fun hw => ?_
  simp (maxSteps := 1000000) (implicitDefEqProofs := false) only [stp, if_true, if_false, Int.reduceEq, Int.reduceLT, Int.reduceLE, Int.reduceGT, Int.reduceGE, reduceCtorEq, Nat.reduceEqDiff, List.getElem?_cons_zero, List.getElem?_cons_succ, Option.map_some, fn132, enterFr, List.length, List.range, List.range.loop, List.zip, List.zipWith]
  refine SCalls.mono (indexFuncC_calls hsl hl (hd H hG)) ?_
  rintro r H1 ⟨rfl, rfl⟩
  rcases idxC_keep d l 0 with ⟨h1, h2⟩ | ⟨i0, h1, h2, h3⟩
  · simp (maxSteps := 1000000) (implicitDefEqProofs := false) only [stp, if_true, if_false, Int.reduceEq, Int.reduceLT, Int.reduceLE, Int.reduceGT, Int.reduceGE, reduceCtorEq, Nat.reduceEqDiff, List.getElem?_cons_zero, List.getElem?_cons_succ, Option.map_some, h1]
    exact ⟨hG, hw, by rw [h2]; exact hsl⟩
  · rcases hx with ⟨rfl, _⟩ | ⟨id, rfl, hid, ho⟩
    · simp at h2
    unfold big at hl
    have hne : ¬ (((0 + i0 : Nat) : Int) = -1) := by omega
    have hw1 : IntKind.i64.wrap (((0 + i0 : Nat) : Int) + 1) = ((i0 + 1 : Nat) : Int) := by rw [wrap_i64 (by omega) (by omega)]; omega
    simp (maxSteps := 1000000) (implicitDefEqProofs := false) only [stp, if_true, if_false, Int.reduceEq, Int.reduceLT, Int.reduceLE, Int.reduceGT, Int.reduceGE, reduceCtorEq, Nat.reduceEqDiff, List.getElem?_cons_zero, List.getElem?_cons_succ, Option.map_some, h1, hne, hw1, Bool.false_eq_true]
    have hnl : (l.map ChgA.cells).length = l.length := List.length_map ..
    have hi0 : (l.take i0).length = i0 := by rw [List.length_take]; omega
    refine wp_loopI (fun m fr H' => ∃ (j : Nat) (cur : List (List V)), m = l.length - j ∧ j ≤ l.length ∧ ((l.take j).filter fun a => !d a).length < j ∧ cur.length = l.length ∧ Own H' id 6 cur ∧ (∀ q, j ≤ q → cur[q]? = (l.map ChgA.cells)[q]?) ∧ cur.take ((l.take j).filter fun a => !d a).length = ((l.take j).filter fun a => !d a).map ChgA.cells ∧ Ext G H' ∧ WF H' ∧
      FrSub [(5, .int .i64 (((l.take j).filter fun a => !d a).length : Nat)), (6, .int .i64 j), (0, .slice id 0 l.length none), (1, .fn (.func 133) [] [c1, c2])] fr) (l.length - (i0 + 1))
      ⟨i0 + 1, l.map ChgA.cells, rfl, by omega, by rw [h3]; omega, hnl, ho, fun q _ => rfl, by rw [h3, hi0, List.map_take], hG, hw, .cons (by rw [h3, hi0]; simp only [Nat.zero_add]; rfl) (.cons rfl (.cons rfl (.cons rfl .nil)))⟩ ?_
    rintro m fr H' ⟨j, cur, rfl, hj, hij, hcl, hown, hcur, htk, hext, hwf', hsub⟩
    obtain ⟨i, hi⟩ : ∃ i, i = ((l.take j).filter fun a => !d a).length := ⟨_, rfl⟩
    rw [← hi] at hij htk hsub
    refine ⟨_, hsub, ?_⟩
    have hlen : exec .len [.slice id 0 l.length none] H' = some (.int .i64 l.length, H') := rfl
    by_cases hlt : j < l.length
    · have hlt' : (j : Int) < (l.length : Int) := by omega
      have hsl' := hown.sl none
      rw [hcl] at hsl'
      have hcj : cur[j]? = some l[j].cells := by rw [hcur j (Nat.le_refl _)]; simp [hlt]
      have hia := x_iax (H := H') (id := id) (n := l.length) (sz := 6) hlt
      obtain ⟨_, _, hia2, hat⟩ := hsl'.ia (H' := H') hcj .i64
      rw [hia] at hia2
      cases hia2
      obtain ⟨H2, hx2, hw2, ha2, hal, hst⟩ := x_copy (Ext.refl H') hwf' (z := zcC) (e := l[j].cells) (n := 6) rfl rfl rfl rfl
      have la := ha2.lda (n := 6) rfl
      have hown2 := hown.ext hx2
      have hGx := hext.trans hx2
      have hwj : IntKind.i64.wrap ((j : Int) + 1) = ((j + 1 : Nat) : Int) := by rw [wrap_i64 (by omega) (by omega)]; omega
      have hwi : IntKind.i64.wrap ((i : Int) + 1) = ((i + 1 : Nat) : Int) := by rw [wrap_i64 (by omega) (by omega)]; omega
      have hts : l.take (j + 1) = l.take j ++ [l[j]] := List.take_succ_eq_append_getElem hlt
      simp (maxSteps := 1000000) (implicitDefEqProofs := false) only [stp, if_true, if_false, Int.reduceEq, Int.reduceLT, Int.reduceLE, Int.reduceGT, Int.reduceGE, reduceCtorEq, Nat.reduceEqDiff, List.getElem?_cons_zero, List.getElem?_cons_succ, Option.map_some, hlen, hlt', hia, hat.lda (n := 6) rfl, hal, hst, la, List.nil_append, List.cons_append]
      refine SCalls.mono (hd H2 hGx l[j] (List.getElem_mem hlt)) ?_
      rintro r H3 ⟨rfl, rfl⟩
      cases hr : d l[j] with
      | true =>
        have hf : (l.take (j + 1)).filter (fun a => !d a) = (l.take j).filter (fun a => !d a) := by rw [hts, List.filter_append, List.filter_cons_of_neg (by simp [hr])]; simp
        simp (maxSteps := 1000000) (implicitDefEqProofs := false) only [stp, if_true, if_false, Int.reduceEq, Int.reduceLT, Int.reduceLE, Int.reduceGT, Int.reduceGE, reduceCtorEq, Nat.reduceEqDiff, List.getElem?_cons_zero, List.getElem?_cons_succ, Option.map_some, hr, hwj]
        exact ⟨l.length - (j + 1), by omega, j + 1, cur, rfl, by omega, by rw [hf, ← hi]; omega, hcl, hown2, fun q hq => hcur q (by omega), by rw [hf, ← hi]; exact htk, hGx, hw2, .cons (by rw [hf, ← hi]; rfl) (.cons rfl (.cons rfl (.cons rfl .nil)))⟩
      | false =>
        have hf : (l.take (j + 1)).filter (fun a => !d a) = (l.take j).filter (fun a => !d a) ++ [l[j]] := by rw [hts, List.filter_append, List.filter_cons_of_pos (by simp [hr])]; simp
        have hfl : ((l.take (j + 1)).filter fun a => !d a).length = i + 1 := by rw [hf, List.length_append, ← hi]; rfl
        have hii := x_iax (H := H3) (id := id) (n := l.length) (sz := 6) (i := i) (by omega)
        obtain ⟨H4, hst4, rfl, hown4⟩ := own_st hown2 (i := i) (by omega) (e := l[j].cells) rfl rfl
        simp (maxSteps := 1000000) (implicitDefEqProofs := false) only [stp, if_true, if_false, Int.reduceEq, Int.reduceLT, Int.reduceLE, Int.reduceGT, Int.reduceGE, reduceCtorEq, Nat.reduceEqDiff, List.getElem?_cons_zero, List.getElem?_cons_succ, Option.map_some, hr, la, hii, hst4, hwj, hwi]
        refine ⟨l.length - (j + 1), by omega, j + 1, _, rfl, by omega, by rw [hfl]; omega, by rw [List.length_set]; exact hcl, hown4, fun q hq => by rw [List.getElem?_set_ne (by omega)]; exact hcur q (by omega), ?_, hGx.set hid _, hw2.set hown2.get _, .cons (by rw [hfl]; rfl) (.cons rfl (.cons rfl (.cons rfl .nil)))⟩
        rw [hfl, hf, List.map_append, ← htk, List.take_succ_eq_append_getElem (by rw [List.length_set]; omega), List.getElem_set_self, List.take_set_of_le (Nat.le_refl _)]
        rfl
    · have hlt' : ¬ (j : Int) < (l.length : Int) := by omega
      obtain rfl : j = l.length := by omega
      rw [List.take_length] at hi htk
      have hlo := slc_lo (H := H') (n := l.length) (i := i) hown.get (by omega)
      obtain ⟨H2, hcl2, hw2, hn2, hgn2, hk2, ho2⟩ := own_clear hwf' hown (z := zcC) rfl rfl (i := i) (by omega)
      rw [hcl] at hcl2 ho2
      have hhi := x_slc_hi (H := H2) (n := l.length) (i := i) ho2.get (by omega)
      simp (maxSteps := 1000000) (implicitDefEqProofs := false) only [stp, if_true, if_false, Int.reduceEq, Int.reduceLT, Int.reduceLE, Int.reduceGT, Int.reduceGE, reduceCtorEq, Nat.reduceEqDiff, List.getElem?_cons_zero, List.getElem?_cons_succ, Option.map_some, hlen, hlt', hlo, hcl2, hhi]
      have htl : (cur.take i).length = i := by rw [List.length_take]; omega
      have hsl2 := ho2.sl none
      have hl2 : (cur.take i ++ List.replicate (l.length - i) zcC).length = l.length := by rw [List.length_append, htl, List.length_replicate]; omega
      rw [hl2] at hsl2
      have hup := hsl2.upto (c' := none) (m := i) (by omega)
      rw [List.take_append_of_le_length (by omega), List.take_of_length_le (by omega), htk] at hup
      exact ⟨⟨by rw [hgn2]; exact hext.gn, by have := hext.next; omega, fun q hq => by rw [hk2 q (by omega), hext.get q hq]⟩, hw2, hup⟩

def partC (ks : List KeyA) (block : Bool) (l : List ChgA) : List ChgA := l.filter fun a => !outC ks block a
set_option maxRecDepth 20000 in
theorem partC_calls {s x : V} {H : Heap} {ks : List KeyA} {l : List ChgA} (hs : Sch H s ks) (hx : SL H x 6 (l.map ChgA.cells)) (hl : l.length ≤ big) (b : Bool) :
    SCalls PP 123 [s, x, .bool b] H fun r H' => Ext H H' ∧ WF H' ∧ SL H' r 6 ((partC ks b l).map ChgA.cells) := by
  refine SCalls.go c123 (by simp [fn123]) fun hw => ?_
  have hso : s.one = true := by obtain ⟨p, sl, mid, rfl, _⟩ := hs.is; rfl
  have hsc : s.cells = [s] := by obtain ⟨p, sl, mid, rfl, _⟩ := hs.is; rfl
  have hb1 : exec .box [s] H = some (.ptr H.next 0, H.new (.row false 1 [s])) := by
    have := x_box H s (by rw [hsc]; simp [hso])
    rw [hsc] at this; exact this
  have hx1 : Ext H (H.new (.row false 1 [s])) := (Ext.refl H).new _
  have hw1 : WF (H.new (.row false 1 [s])) := hw.new _
  have ha1 : At (H.new (.row false 1 [s])) H.next 0 [s] := ⟨Nat.lt_succ_self _, false, 1, [s], new_get _ _, by simp, fun j v hj => by rw [Nat.zero_add]; exact hj⟩
  generalize hG : H.new (.row false 1 [s]) = G1 at *
  have hb2 : exec .box [.bool b] G1 = some (.ptr G1.next 0, G1.new (.row false 1 [.bool b])) := rfl
  have hx2 : Ext G1 (G1.new (.row false 1 [.bool b])) := (Ext.refl G1).new _
  have hw2 : WF (G1.new (.row false 1 [.bool b])) := hw1.new _
  have ha2 : At (G1.new (.row false 1 [.bool b])) G1.next 0 [.bool b] := ⟨Nat.lt_succ_self _, false, 1, [.bool b], new_get _ _, by simp, fun j v hj => by rw [Nat.zero_add]; exact hj⟩
  generalize hG2 : G1.new (.row false 1 [.bool b]) = G2 at *
  have hxx := hx1.trans hx2
  simp (maxSteps := 1000000) (implicitDefEqProofs := false) only [stp, if_true, if_false, Int.reduceEq, Int.reduceLT, Int.reduceLE, Int.reduceGT, Int.reduceGE, reduceCtorEq, Nat.reduceEqDiff, List.getElem?_cons_zero, List.getElem?_cons_succ, Option.map_some, fn123, enterFr, List.length, List.range, List.range.loop, List.zip, List.zipWith, hb1, hb2, hG, hG2]
  refine SCalls.mono (clone_gen (show compFn PP 73 = some (cloneFn 6 56) from c73) (by decide) (by decide) (hx.ext hxx) (by rw [List.length_map]; exact hl)) ?_
  rintro r H3 ⟨hx3, hw3, k, hv, hk, hne, hk0⟩
  simp (maxSteps := 1000000) (implicitDefEqProofs := false) only [stp, if_true, if_false, Int.reduceEq, Int.reduceLT, Int.reduceLE, Int.reduceGT, Int.reduceGE, reduceCtorEq, Nat.reduceEqDiff, List.getElem?_cons_zero, List.getElem?_cons_succ, Option.map_some, List.take_zero, List.drop_zero]
  refine SCalls.mono (deleteFuncC_calls (c1 := .ptr H.next 0) (c2 := .ptr G1.next 0) (G := G2) (H := H3) (l := l) (d := outC ks b) hx3 hl ?_ (fun H' hH' a _ => partC1_calls ((hs.ext hxx).ext hH') ((ha1.ext hx2).ext hH') (ha2.ext hH') a)) ?_
  · by_cases hz : l = []
    · exact .inl ⟨hz, hv.sl⟩
    · obtain ⟨j, e1, e2, e3⟩ := hne (by simpa using hz)
      exact .inr ⟨j, by rw [e3, List.length_map], hk j e1, e2⟩
  rintro r2 H4 ⟨g1, g2, g3⟩
  simp (maxSteps := 1000000) (implicitDefEqProofs := false) only [stp, if_true, if_false, Int.reduceEq, Int.reduceLT, Int.reduceLE, Int.reduceGT, Int.reduceGE, reduceCtorEq, Nat.reduceEqDiff, List.getElem?_cons_zero, List.getElem?_cons_succ, Option.map_some, if_true]
  exact ⟨hxx.trans g1, g2, g3⟩
end Go.Proofs.YtkmaikggdbielaaGreatDoor.Fw

/- patch.Compose. No condition. -/
namespace Go.Proofs.YtkmaikggdbielaaGreatDoor.Fw
open Go
set_option linter.unusedSimpArgs false
set_option linter.unusedVariables false

/-- One element behind. -/
theorem push_gen {H : Heap} (hw : WF H) {sz bytes : Nat} {z : List V} {r : V} {es : List (List V)} {k : Option Nat} (hv : Vec H r sz es k) {e : List V} (hf : fillA z [((0, sz), .agg e)] = some e) (hn : e.length = sz) (hs : sz ≠ 0) (ho : e.all V.one = true) (hl : es.length + 1 ≤ big) (hby : bytes ≤ 256) :
    ∃ H3 H4, exec (.bsl sz 1 z [(0, sz)]) [.agg e] H = some (.slice H.next 0 1 (some 1), H3) ∧ exec (.app sz bytes) [r, .slice H.next 0 1 (some 1)] H3 = some (.slice H3.next 0 (es.length + 1) none, H4) ∧
      Vec H4 (.slice H3.next 0 (es.length + 1) none) sz (es ++ [e]) (some H3.next) ∧ WF H4 ∧ H3.next = H.next + 1 ∧ H4.next = H.next + 2 ∧ H4.gn = H.gn ∧ ∀ j, j < H.next → k ≠ some j → H4.get j = H.get j := by
  unfold big at hl
  have hb : exec (.bsl sz 1 z [(0, sz)]) [.agg e] H = some (.slice H.next 0 1 (some 1), H.new (.row false sz e)) := by
    simp only [exec, List.length_cons, List.length_nil, if_true, List.zip_cons_cons, List.zip_nil_right, hf, Option.bind_some, ho]
  have hx3 : Ext H (H.new (.row false sz e)) := (Ext.refl H).new _
  have hw3 : WF (H.new (.row false sz e)) := hw.new _
  have hown3 : Own (H.new (.row false sz e)) H.next sz [e] := ⟨Nat.lt_succ_self _, by rw [new_get]; simp, by simpa using ⟨hn, by simpa using ho⟩⟩
  obtain ⟨s1, s2⟩ := (hown3.sl (some 1)).src (by simp)
  have hn3 : (H.new (.row false sz e)).next = H.next + 1 := rfl
  generalize hG3 : H.new (.row false sz e) = G3 at *
  have hmul : (es.length + 1) * bytes ≤ 140737488355328 := Nat.le_trans (Nat.mul_le_mul hl hby) (by decide)
  obtain ⟨H4, ha, hv4, ho4, hw4, hn4, hgn4, hk4⟩ := (hv.ext hx3).app (bytes := bytes) (n := 1) (news := [e]) hw3 hs rfl (by decide) (by simpa using s1) (by simpa using s2) (fun y hy => by simp at hy; subst hy; exact ⟨hn, ho⟩) hmul (by omega)
  exact ⟨G3, H4, hb, ha, hv4, hw4, hn3, by omega, by rw [hgn4, hx3.gn], fun j hj hk => by rw [hk4 j (by omega) hk, hx3.get j hj]⟩
/-- What is behind, of another slice. -/
theorem app_gen {H : Heap} (hw : WF H) {sz bytes : Nat} {r x : V} {es news : List (List V)} {k : Option Nat} (hv : Vec H r sz es k) (hx : SL H x sz news) (hs : sz ≠ 0) (hl : es.length + news.length ≤ big) (hby : bytes ≤ 256) :
    ∃ r' k' H4, exec (.app sz bytes) [r, x] H = some (r', H4) ∧ Vec H4 r' sz (es ++ news) k' ∧ WF H4 ∧ H.next ≤ H4.next ∧ H4.gn = H.gn ∧ (∀ j, j < H.next → k ≠ some j → H4.get j = H.get j) ∧ (∀ j, k' = some j → k = some j ∨ H.next ≤ j) ∧ (k' = none → (k = none ∧ news = [])) := by
  by_cases hz : news = []
  · subst hz
    obtain ⟨s1, s2⟩ := hx.src0
    exact ⟨r, k, H, x_app0 hv.shape s1 s2 hs, by rw [List.append_nil]; exact hv, hw, Nat.le_refl _, rfl, fun _ _ _ => rfl, fun j e => .inl e, fun e => ⟨e, rfl⟩⟩
  · unfold big at hl
    obtain ⟨s1, s2⟩ := hx.src hz
    have hmul : (es.length + news.length) * bytes ≤ 140737488355328 := Nat.le_trans (Nat.mul_le_mul hl hby) (by decide)
    obtain ⟨H4, ha, hv4, ho4, hw4, hn4, hgn4, hk4⟩ := hv.app (bytes := bytes) (n := news.length) (news := news) hw hs rfl (fun q => hz (List.length_eq_zero_iff.1 q)) s1 s2 hx.1 hmul (by omega)
    exact ⟨_, _, H4, ha, hv4, hw4, by omega, hgn4, hk4, fun j e => by cases e; exact .inr (Nat.le_refl _), fun e => by cases e⟩
theorem fill6 {a b c d e f : V} : fillA zcC [((0, 6), .agg [a, b, c, d, e, f])] = some [a, b, c, d, e, f] := by
  simp only [fillA]
  rfl
abbrev zcA : List V := [.int .i64 0, .int .u8 0, .int .i64 0, .int .u64 0, .str ⟨#[]⟩]
theorem fill5A {a b c d e : V} : fillA zcA [((0, 5), .agg [a, b, c, d, e])] = some [a, b, c, d, e] := by
  simp only [fillA]
  rfl

def pcF : List ChgA → List ChgA → List ChgA
  | ps, [] => ps
  | ps, c :: q => (ps.takeWhile fun a => decide (a.key ≤ c.key)).filter (fun a => decide (a.key < c.key)) ++ c :: pcF (ps.dropWhile fun a => decide (a.key ≤ c.key)) q
theorem pcF_lt {a c : ChgA} (h : a.key < c.key) (t q : List ChgA) : pcF (a :: t) (c :: q) = a :: pcF t (c :: q) := by
  have h1 : a.key ≤ c.key := by omega
  simp [pcF, h, h1]
theorem pcF_eq {a c : ChgA} (h1 : a.key ≤ c.key) (h : ¬ a.key < c.key) (t q : List ChgA) : pcF (a :: t) (c :: q) = pcF t (c :: q) := by
  simp [pcF, h, h1]
theorem pcF_stop {ps : List ChgA} {c : ChgA} (h : ∀ a t, ps = a :: t → ¬ a.key ≤ c.key) (q : List ChgA) : pcF ps (c :: q) = c :: pcF ps q := by
  cases ps with
  | nil => simp [pcF]
  | cons a t => simp [pcF, h a t rfl]
set_option maxRecDepth 40000 in
set_option maxHeartbeats 4000000 in
theorem patchCompose_calls {x y : V} {H : Heap} {ps qs : List ChgA} (hx : SL H x 6 (ps.map ChgA.cells)) (hcx : CutOk H x 6) (hy : SL H y 6 (qs.map ChgA.cells)) (hl : ps.length + qs.length ≤ big) :
    SCalls PP 105 [x, y] H fun r H' => Ext H H' ∧ WF H' ∧ ∃ k, Vec H' r 6 ((pcF ps qs).map ChgA.cells) k ∧ (∀ j, k = some j → H.next ≤ j) ∧ (k = none → pcF ps qs = []) := by
  refine SCalls.go c105 (by simp [fn105]) fun hw => ?_
  unfold big at hl
  have hlx : ∀ G, exec .len [x] G = some (.int .i64 ps.length, G) := fun G => by have := hx.len (H' := G); rwa [List.length_map] at this
  have hly : ∀ G, exec .len [y] G = some (.int .i64 qs.length, G) := fun G => by have := hy.len (H' := G); rwa [List.length_map] at this
  simp (maxSteps := 1000000) (implicitDefEqProofs := false) only [stp, if_true, if_false, Int.reduceEq, Int.reduceLT, Int.reduceLE, Int.reduceGT, Int.reduceGE, reduceCtorEq, Nat.reduceEqDiff, List.getElem?_cons_zero, List.getElem?_cons_succ, Option.map_some, fn105, enterFr, List.length, List.range, List.range.loop, List.zip, List.zipWith, hly]
  refine wp_range (len := qs.length) SCalls.scMono (by omega) (fun σ : V × Nat => [(5, σ.1), (6, .int .i64 (σ.2 : Nat)), (9, y), (0, x), (1, y)]) (fun k σ G => Ext H G ∧ WF G ∧ ∃ kk out, Vec G σ.1 6 (out.map ChgA.cells) kk ∧ (∀ j, kk = some j → H.next ≤ j) ∧ (kk = none → out = []) ∧ σ.2 ≤ ps.length ∧ out.length ≤ σ.2 + k ∧ pcF ps qs = out ++ pcF (ps.drop σ.2) (qs.drop k)) (.nils, 0)
    ⟨Ext.refl H, hw, none, [], Vec.nil _ _, by simp, by simp, by omega, by simp, by simp⟩
    (.cons rfl (.cons rfl (.cons rfl (.cons rfl (.cons rfl (.cons rfl (.cons rfl .nil))))))) (by decide) (fun s => ⟨rfl, rfl, rfl⟩) ?_ ?_
  · rintro k ⟨r, i⟩ G hk ⟨hxG, hwG, kk, out, hv, hkk, hk0, hi, hol, heq⟩
    simp only at hv hi hol heq
    obtain ⟨i1, o1, ha1, ht1⟩ := (hy.ext hxG).ia (H' := G) (i := k) (e := qs[k].cells) (by rw [List.getElem?_map, List.getElem?_eq_getElem hk]; rfl) .i64
    have la1 := ht1.lda (n := 6) rfl
    obtain ⟨G2, hx2, hw2, ht2, c1, c2⟩ := x_copy (Ext.refl G) hwG (z := zcC) (e := qs[k].cells) (n := 6) rfl rfl rfl rfl
    have lk2 := ht2.ld (j := 0) (v := .int .i64 qs[k].key) rfl 1
    rw [List.drop_eq_getElem_cons hk] at heq
    simp (maxSteps := 1000000) (implicitDefEqProofs := false) only [stp, if_true, if_false, Int.reduceEq, Int.reduceLT, Int.reduceLE, Int.reduceGT, Int.reduceGE, reduceCtorEq, Nat.reduceEqDiff, List.getElem?_cons_zero, List.getElem?_cons_succ, Option.map_some, ha1, la1, c1, c2]
    refine wp_loopI (fun m fr F => ∃ (i : Nat) (r : V) (kk : Option Nat) (out : List ChgA), m = ps.length - i ∧ Ext H F ∧ WF F ∧ At F G.next 0 qs[k].cells ∧ Vec F r 6 (out.map ChgA.cells) kk ∧ (∀ j, kk = some j → H.next ≤ j ∧ j ≠ G.next) ∧ (kk = none → out = []) ∧ i ≤ ps.length ∧ out.length ≤ i + k ∧ pcF ps qs = out ++ pcF (ps.drop i) (qs[k] :: qs.drop (k + 1)) ∧ G.next < F.next ∧
      FrSub [(5, r), (6, .int .i64 (i : Nat)), (8, .ptr G.next 0), (11, .int .i64 k), (10, .int .i64 qs.length), (9, y), (0, x), (1, y)] fr) (ps.length - i)
      ⟨i, r, kk, out, rfl, hxG.trans hx2, hw2, ht2, hv.ext hx2, fun j e => ⟨hkk j e, by rw [e] at hv; have := hv.lt; omega⟩, hk0, hi, hol, heq, ht2.1, .cons rfl (.cons rfl (.cons rfl (.cons rfl (.cons rfl (.cons rfl (.cons rfl (.cons rfl .nil)))))))⟩ ?_
    rintro m fr F ⟨i, r, kk, out, rfl, hxF, hwF, htF, hv, hkk, hk0, hi, hol, heq, hnF, hsub⟩
    refine ⟨_, hsub, ?_⟩
    have lkF := htF.ld (j := 0) (v := .int .i64 qs[k].key) rfl 1
    have stop : (∀ a t, ps.drop i = a :: t → ¬ a.key ≤ qs[k].key) → ∃ G3 G4, exec (.bsl 6 1 zcC [(0, 6)]) [.agg qs[k].cells] F = some (.slice F.next 0 1 (some 1), G3) ∧ exec (.app 6 56) [r, .slice F.next 0 1 (some 1)] G3 = some (.slice G3.next 0 ((out.map ChgA.cells).length + 1) none, G4) ∧
        Ext H G4 ∧ WF G4 ∧ ∃ kk out', Vec G4 (.slice G3.next 0 ((out.map ChgA.cells).length + 1) none) 6 (out'.map ChgA.cells) kk ∧ (∀ j, kk = some j → H.next ≤ j) ∧ (kk = none → out' = []) ∧ i ≤ ps.length ∧ out'.length ≤ i + (k + 1) ∧ pcF ps qs = out' ++ pcF (ps.drop i) (qs.drop (k + 1)) := by
      intro hst
      obtain ⟨G3, G4, e1, e2, v4, w4, n3, n4, gn4, k4⟩ := push_gen hwF hv (bytes := 56) (e := qs[k].cells) fill6 rfl (by decide) rfl (by rw [List.length_map]; unfold big; omega) (by decide)
      have hn := hxF.next
      refine ⟨G3, G4, e1, e2, ⟨gn4.trans hxF.gn, by omega, fun j hj => by rw [k4 j (by omega) (fun e => by have := (hkk j e).1; omega), hxF.get j hj]⟩, w4, _, out ++ [qs[k]], by rw [List.map_append]; exact v4, fun j e => (by cases e; omega), (fun e => by cases e), hi, by simp; omega, ?_⟩
      rw [heq, pcF_stop hst]
      simp
    by_cases hlt : (i : Int) < ps.length
    · have hlt' : i < ps.length := by omega
      obtain ⟨i2, o2, ha2, ht2'⟩ := (hx.ext hxF).ia (H' := F) (i := i) (e := ps[i].cells) (by rw [List.getElem?_map, List.getElem?_eq_getElem hlt']; rfl) .i64
      have lp := ht2'.ld (j := 0) (v := .int .i64 ps[i].key) rfl 1
      have lap := ht2'.lda (n := 6) rfl
      have hdr : ps.drop i = ps[i] :: ps.drop (i + 1) := List.drop_eq_getElem_cons hlt'
      have hw1 : IntKind.i64.wrap ((i : Int) + 1) = ((i + 1 : Nat) : Int) := by rw [wrap_i64 (by omega) (by omega)]; omega
      by_cases hle : ps[i].key ≤ qs[k].key
      · by_cases hls : ps[i].key < qs[k].key
        · obtain ⟨G3, G4, e1, e2, v4, w4, n3, n4, gn4, k4⟩ := push_gen hwF hv (bytes := 56) (e := ps[i].cells) fill6 rfl (by decide) rfl (by rw [List.length_map]; unfold big; omega) (by decide)
          simp (maxSteps := 1000000) (implicitDefEqProofs := false) only [stp, if_true, if_false, Int.reduceEq, Int.reduceLT, Int.reduceLE, Int.reduceGT, Int.reduceGE, reduceCtorEq, Nat.reduceEqDiff, List.getElem?_cons_zero, List.getElem?_cons_succ, Option.map_some, hlx, hlt, ha2, lp, lkF, hle, hls, lap, e1, e2, hw1]
          have hn := hxF.next
          refine ⟨ps.length - (i + 1), by omega, i + 1, _, _, out ++ [ps[i]], rfl, ⟨gn4.trans hxF.gn, by omega, fun j hj => by rw [k4 j (by omega) (fun e => by have := (hkk j e).1; omega), hxF.get j hj]⟩, w4, ?_, by rw [List.map_append]; exact v4, fun j e => (by cases e; omega), (fun e => by cases e), by omega, by simp; omega, ?_, by omega, .cons rfl (.cons rfl (.cons rfl (.cons rfl (.cons rfl (.cons rfl (.cons rfl (.cons rfl .nil)))))))⟩
          · obtain ⟨q1, ro, esz, cells, q2, q3⟩ := htF
            exact ⟨by omega, ro, esz, cells, by rw [k4 _ q1 (fun e => (hkk _ e).2 rfl)]; exact q2, q3⟩
          · rw [heq, hdr, pcF_lt hls]
            simp
        · simp (maxSteps := 1000000) (implicitDefEqProofs := false) only [stp, if_true, if_false, Int.reduceEq, Int.reduceLT, Int.reduceLE, Int.reduceGT, Int.reduceGE, reduceCtorEq, Nat.reduceEqDiff, List.getElem?_cons_zero, List.getElem?_cons_succ, Option.map_some, hlx, hlt, ha2, lp, lkF, hle, hls, hw1]
          refine ⟨ps.length - (i + 1), by omega, i + 1, r, kk, out, rfl, hxF, hwF, htF, hv, hkk, hk0, by omega, by omega, ?_, hnF, .cons rfl (.cons rfl (.cons rfl (.cons rfl (.cons rfl (.cons rfl (.cons rfl (.cons rfl .nil)))))))⟩
          rw [heq, hdr, pcF_eq hle hls]
      · obtain ⟨G3, G4, e1, e2, hJ⟩ := stop fun a t e => by
          rw [hdr] at e
          cases e
          exact hle
        have lcF := htF.lda (n := 6) rfl
        simp (maxSteps := 1000000) (implicitDefEqProofs := false) only [stp, if_true, if_false, Int.reduceEq, Int.reduceLT, Int.reduceLE, Int.reduceGT, Int.reduceGE, reduceCtorEq, Nat.reduceEqDiff, List.getElem?_cons_zero, List.getElem?_cons_succ, Option.map_some, hlx, hlt, ha2, lp, lkF, hle, lcF, e1, e2]
        exact ⟨(_, i), hJ, .cons rfl (.cons rfl (.cons rfl (.cons rfl (.cons rfl (.cons rfl (.cons rfl .nil))))))⟩
    · have : i = ps.length := by omega
      obtain ⟨G3, G4, e1, e2, hJ⟩ := stop fun a t e => by
          rw [this, List.drop_length] at e
          cases e
      have lcF := htF.lda (n := 6) rfl
      simp (maxSteps := 1000000) (implicitDefEqProofs := false) only [stp, if_true, if_false, Int.reduceEq, Int.reduceLT, Int.reduceLE, Int.reduceGT, Int.reduceGE, reduceCtorEq, Nat.reduceEqDiff, List.getElem?_cons_zero, List.getElem?_cons_succ, Option.map_some, hlx, hlt, lcF, e1, e2]
      exact ⟨(_, i), hJ, .cons rfl (.cons rfl (.cons rfl (.cons rfl (.cons rfl (.cons rfl (.cons rfl .nil))))))⟩
  · rintro ⟨r, i⟩ G ⟨hxG, hwG, kk, out, hv, hkk, hk0, hi, hol, heq⟩
    simp only at hv hi hol heq
    rw [List.drop_length] at heq
    simp only [pcF] at heq
    obtain ⟨a, q1, q2, q3⟩ := hx.tail hcx (l := i) (by rw [List.length_map]; exact hi)
    rw [← List.map_drop] at q2
    have q1' := q1 G (hcx.ext hxG)
    obtain ⟨r', k', G4, e1, v4, w4, n4, gn4, k4, f4, z4⟩ := app_gen hwG hv (q2.ext hxG) (bytes := 56) (by decide) (by simp only [List.length_map, List.length_drop]; unfold big; omega) (by decide)
    simp (maxSteps := 1000000) (implicitDefEqProofs := false) only [stp, if_true, if_false, Int.reduceEq, Int.reduceLT, Int.reduceLE, Int.reduceGT, Int.reduceGE, reduceCtorEq, Nat.reduceEqDiff, List.getElem?_cons_zero, List.getElem?_cons_succ, Option.map_some, q1', e1]
    have hn := hxG.next
    refine ⟨⟨gn4.trans hxG.gn, by omega, fun j hj => by rw [k4 j (by omega) (fun e => by have := hkk j e; omega), hxG.get j hj]⟩, w4, k', by rw [heq, List.map_append]; exact v4, fun j e => ?_, fun e => ?_⟩
    · rcases f4 j e with q | q
      · exact hkk j q
      · omega
    · obtain ⟨z1, z2⟩ := z4 e
      rw [heq, hk0 z1]
      simpa using z2
end Go.Proofs.YtkmaikggdbielaaGreatDoor.Fw

/- patch.Apply. No condition. -/
namespace Go.Proofs.YtkmaikggdbielaaGreatDoor.Fw
open Go
set_option linter.unusedSimpArgs false
set_option linter.unusedVariables false

def insA (c : ChgA) : List AttrA := if c.gone then [] else [⟨c.key, c.val⟩]
def skipKey (k : Int) : List AttrA → List AttrA
  | [] => []
  | a :: t => if a.key = k then t else a :: t
def paF : List AttrA → List ChgA → List AttrA
  | l, [] => l
  | l, c :: p => (l.takeWhile fun a => decide (a.key < c.key)) ++ (insA c ++ paF (skipKey c.key (l.dropWhile fun a => decide (a.key < c.key))) p)
theorem paF_lt {a : AttrA} {c : ChgA} (h : a.key < c.key) (t : List AttrA) (p : List ChgA) : paF (a :: t) (c :: p) = a :: paF t (c :: p) := by
  simp [paF, h]
theorem paF_eq {a : AttrA} {c : ChgA} (h : a.key = c.key) (t : List AttrA) (p : List ChgA) : paF (a :: t) (c :: p) = insA c ++ paF t p := by
  have h1 : ¬ a.key < c.key := by omega
  simp [paF, skipKey, h]
theorem paF_gt {a : AttrA} {c : ChgA} (h1 : ¬ a.key < c.key) (h : ¬ a.key = c.key) (t : List AttrA) (p : List ChgA) : paF (a :: t) (c :: p) = insA c ++ paF (a :: t) p := by
  simp [paF, skipKey, h, h1]
theorem paF_nil (c : ChgA) (p : List ChgA) : paF [] (c :: p) = insA c ++ paF [] p := by
  simp [paF, skipKey]
theorem At.right {H : Heap} {id o : Nat} {a b : List V} (h : At H id o (a ++ b)) : At H id (o + a.length) b := by
  obtain ⟨h1, ro, esz, cells, h2, h3, h4⟩ := h
  rw [List.length_append] at h3
  exact ⟨h1, ro, esz, cells, h2, by omega, fun j v hj => by
    rw [Nat.add_assoc]
    exact h4 _ v (by rw [List.getElem?_append_right (by omega), Nat.add_sub_cancel_left]; exact hj)⟩
theorem x_buildAt (k : Int) (v : ValA) (F : Heap) : exec (.build zcA [(0, 1), (1, 4)]) [.int .i64 k, .agg v.cells] F = some (.agg (AttrA.cells ⟨k, v⟩), F) := rfl
set_option maxRecDepth 40000 in
set_option maxHeartbeats 8000000 in
theorem patchApply_calls {x y : V} {H : Heap} {us : List AttrA} {qs : List ChgA} (hx : SL H x 5 (us.map AttrA.cells)) (hcx : CutOk H x 5) (hy : SL H y 6 (qs.map ChgA.cells)) (hl : us.length + qs.length ≤ big) :
    SCalls PP 122 [x, y] H fun r H' => Ext H H' ∧ WF H' ∧ ∃ k, Vec H' r 5 ((paF us qs).map AttrA.cells) k ∧ (∀ j, k = some j → H.next ≤ j) ∧ (k = none → paF us qs = []) := by
  refine SCalls.go c122 (by simp [fn122]) fun hw => ?_
  unfold big at hl
  have hlx : ∀ G, exec .len [x] G = some (.int .i64 us.length, G) := fun G => by have := hx.len (H' := G); rwa [List.length_map] at this
  have hly : ∀ G, exec .len [y] G = some (.int .i64 qs.length, G) := fun G => by have := hy.len (H' := G); rwa [List.length_map] at this
  simp (maxSteps := 1000000) (implicitDefEqProofs := false) only [stp, if_true, if_false, Int.reduceEq, Int.reduceLT, Int.reduceLE, Int.reduceGT, Int.reduceGE, reduceCtorEq, Nat.reduceEqDiff, List.getElem?_cons_zero, List.getElem?_cons_succ, Option.map_some, fn122, enterFr, List.length, List.range, List.range.loop, List.zip, List.zipWith, hly]
  refine wp_range (len := qs.length) SCalls.scMono (by omega) (fun σ : V × Nat => [(5, σ.1), (6, .int .i64 (σ.2 : Nat)), (9, y), (0, x), (1, y)]) (fun k σ G => Ext H G ∧ WF G ∧ ∃ kk out, Vec G σ.1 5 (out.map AttrA.cells) kk ∧ (∀ j, kk = some j → H.next ≤ j) ∧ (kk = none → out = []) ∧ σ.2 ≤ us.length ∧ out.length ≤ σ.2 + k ∧ paF us qs = out ++ paF (us.drop σ.2) (qs.drop k)) (.nils, 0)
    ⟨Ext.refl H, hw, none, [], Vec.nil _ _, by simp, by simp, by omega, by simp, by simp⟩
    (.cons rfl (.cons rfl (.cons rfl (.cons rfl (.cons rfl (.cons rfl (.cons rfl .nil))))))) (by decide) (fun s => ⟨rfl, rfl, rfl⟩) ?_ ?_
  · rintro k ⟨r, i⟩ G hk ⟨hxG, hwG, kk, out, hv, hkk, hk0, hi, hol, heq⟩
    simp only at hv hi hol heq
    obtain ⟨i1, o1, ha1, ht1⟩ := (hy.ext hxG).ia (H' := G) (i := k) (e := qs[k].cells) (by rw [List.getElem?_map, List.getElem?_eq_getElem hk]; rfl) .i64
    have la1 := ht1.lda (n := 6) rfl
    obtain ⟨G2, hx2, hw2, ht2, c1, c2⟩ := x_copy (Ext.refl G) hwG (z := zcC) (e := qs[k].cells) (n := 6) rfl rfl rfl rfl
    rw [List.drop_eq_getElem_cons hk] at heq
    simp (maxSteps := 1000000) (implicitDefEqProofs := false) only [stp, if_true, if_false, Int.reduceEq, Int.reduceLT, Int.reduceLE, Int.reduceGT, Int.reduceGE, reduceCtorEq, Nat.reduceEqDiff, List.getElem?_cons_zero, List.getElem?_cons_succ, Option.map_some, ha1, la1, c1, c2]
    refine wp_loopI (fun m fr F => ∃ (i : Nat) (r : V) (kk : Option Nat) (out : List AttrA), m = us.length - i ∧ Ext H F ∧ WF F ∧ At F G.next 0 qs[k].cells ∧ Vec F r 5 (out.map AttrA.cells) kk ∧ (∀ j, kk = some j → H.next ≤ j ∧ j ≠ G.next) ∧ (kk = none → out = []) ∧ i ≤ us.length ∧ out.length ≤ i + k ∧ paF us qs = out ++ paF (us.drop i) (qs[k] :: qs.drop (k + 1)) ∧ G.next < F.next ∧
      FrSub [(5, r), (6, .int .i64 (i : Nat)), (8, .ptr G.next 0), (11, .int .i64 k), (10, .int .i64 qs.length), (9, y), (0, x), (1, y)] fr) (us.length - i)
      ⟨i, r, kk, out, rfl, hxG.trans hx2, hw2, ht2, hv.ext hx2, fun j e => ⟨hkk j e, by rw [e] at hv; have := hv.lt; omega⟩, hk0, hi, hol, heq, ht2.1, .cons rfl (.cons rfl (.cons rfl (.cons rfl (.cons rfl (.cons rfl (.cons rfl (.cons rfl .nil)))))))⟩ ?_
    rintro m fr F ⟨i, r, kk, out, rfl, hxF, hwF, htF, hv, hkk, hk0, hi, hol, heq, hnF, hsub⟩
    refine ⟨_, hsub, ?_⟩
    have lkF := htF.ld (j := 0) (v := .int .i64 qs[k].key) rfl 1
    have lgF := htF.ld (j := 1) (v := .bool qs[k].gone) rfl 1
    have htv : At F G.next (0 + 2) qs[k].val.cells := At.right (a := [.int .i64 qs[k].key, .bool qs[k].gone]) htF
    have lvF := htv.lda (n := 4) rfl
    have hn := hxF.next
    -- c's own attribute behind
    have ins : qs[k].gone = false → ∃ G3 G4, exec (.bsl 5 1 zcA [(0, 5)]) [.agg (AttrA.cells ⟨qs[k].key, qs[k].val⟩)] F = some (.slice F.next 0 1 (some 1), G3) ∧ exec (.app 5 48) [r, .slice F.next 0 1 (some 1)] G3 = some (.slice G3.next 0 ((out.map AttrA.cells).length + 1) none, G4) ∧
        Ext H G4 ∧ WF G4 ∧ ∃ kk, Vec G4 (.slice G3.next 0 ((out.map AttrA.cells).length + 1) none) 5 ((out ++ [(⟨qs[k].key, qs[k].val⟩ : AttrA)]).map AttrA.cells) kk ∧ (∀ j, kk = some j → H.next ≤ j) ∧ (kk = none → (out ++ [(⟨qs[k].key, qs[k].val⟩ : AttrA)]) = []) := by
      intro hg
      obtain ⟨G3, G4, e1, e2, v4, w4, n3, n4, gn4, k4⟩ := push_gen hwF hv (bytes := 48) (e := AttrA.cells ⟨qs[k].key, qs[k].val⟩) fill5A rfl (by decide) rfl (by rw [List.length_map]; unfold big; omega) (by decide)
      exact ⟨G3, G4, e1, e2, ⟨gn4.trans hxF.gn, by omega, fun j hj => by rw [k4 j (by omega) (fun e => by have := (hkk j e).1; omega), hxF.get j hj]⟩, w4, _, by rw [List.map_append]; exact v4, fun j e => (by cases e; omega), (fun e => by cases e)⟩
    by_cases hlt : (i : Int) < us.length
    · have hlt' : i < us.length := by omega
      obtain ⟨i2, o2, ha2, ht2'⟩ := (hx.ext hxF).ia (H' := F) (i := i) (e := us[i].cells) (by rw [List.getElem?_map, List.getElem?_eq_getElem hlt']; rfl) .i64
      have lp := ht2'.ld (j := 0) (v := .int .i64 us[i].key) rfl 1
      have lap := ht2'.lda (n := 5) rfl
      have hdr : us.drop i = us[i] :: us.drop (i + 1) := List.drop_eq_getElem_cons hlt'
      have hw1 : IntKind.i64.wrap ((i : Int) + 1) = ((i + 1 : Nat) : Int) := by rw [wrap_i64 (by omega) (by omega)]; omega
      by_cases hls : us[i].key < qs[k].key
      · obtain ⟨G3, G4, e1, e2, v4, w4, n3, n4, gn4, k4⟩ := push_gen hwF hv (bytes := 48) (e := us[i].cells) fill5A rfl (by decide) rfl (by rw [List.length_map]; unfold big; omega) (by decide)
        simp (maxSteps := 1000000) (implicitDefEqProofs := false) only [stp, if_true, if_false, Int.reduceEq, Int.reduceLT, Int.reduceLE, Int.reduceGT, Int.reduceGE, reduceCtorEq, Nat.reduceEqDiff, List.getElem?_cons_zero, List.getElem?_cons_succ, Option.map_some, hlx, hlt, ha2, lp, lkF, hls, lap, e1, e2, hw1]
        refine ⟨us.length - (i + 1), by omega, i + 1, _, _, out ++ [us[i]], rfl, ⟨gn4.trans hxF.gn, by omega, fun j hj => by rw [k4 j (by omega) (fun e => by have := (hkk j e).1; omega), hxF.get j hj]⟩, w4, ?_, by rw [List.map_append]; exact v4, fun j e => (by cases e; omega), (fun e => by cases e), by omega, by simp; omega, ?_, by omega, .cons rfl (.cons rfl (.cons rfl (.cons rfl (.cons rfl (.cons rfl (.cons rfl (.cons rfl .nil)))))))⟩
        · obtain ⟨q1, ro, esz, cells, q2, q3⟩ := htF
          exact ⟨by omega, ro, esz, cells, by rw [k4 _ q1 (fun e => (hkk _ e).2 rfl)]; exact q2, q3⟩
        · rw [heq, hdr, paF_lt hls]
          simp
      · by_cases heqk : us[i].key = qs[k].key
        · have hp := paF_eq heqk (us.drop (i + 1)) (qs.drop (k + 1))
          rw [hdr, hp] at heq
          have hirr : ¬ qs[k].key < qs[k].key := by omega
          cases hg : qs[k].gone with
          | true =>
            rw [hg] at lgF
            simp (maxSteps := 1000000) (implicitDefEqProofs := false) only [stp, if_true, if_false, Int.reduceEq, Int.reduceLT, Int.reduceLE, Int.reduceGT, Int.reduceGE, reduceCtorEq, Nat.reduceEqDiff, List.getElem?_cons_zero, List.getElem?_cons_succ, Option.map_some, hlx, hlt, ha2, lp, lkF, hirr, heqk, hw1, lgF]
            refine ⟨(r, i + 1), ⟨hxF, hwF, kk, out, hv, fun j e => (hkk j e).1, hk0, by omega, by omega, ?_⟩, .cons rfl (.cons rfl (.cons rfl (.cons rfl (.cons rfl (.cons rfl (.cons rfl .nil))))))⟩
            rw [heq, insA, hg]
            rfl
          | false =>
            rw [hg] at lgF
            obtain ⟨G3, G4, e1, e2, q1, q2, kk', q3, q4, q5⟩ := ins hg
            simp (maxSteps := 1000000) (implicitDefEqProofs := false) only [stp, if_true, if_false, Int.reduceEq, Int.reduceLT, Int.reduceLE, Int.reduceGT, Int.reduceGE, reduceCtorEq, Nat.reduceEqDiff, List.getElem?_cons_zero, List.getElem?_cons_succ, Option.map_some, hlx, hlt, ha2, lp, lkF, hirr, heqk, hw1, lgF, lvF, x_buildAt, e1, e2]
            refine ⟨(_, i + 1), ⟨q1, q2, kk', _, q3, q4, q5, by omega, by simp; omega, ?_⟩, .cons rfl (.cons rfl (.cons rfl (.cons rfl (.cons rfl (.cons rfl (.cons rfl .nil))))))⟩
            rw [heq, insA, hg]
            simp
        · have hp := paF_gt hls heqk (us.drop (i + 1)) (qs.drop (k + 1))
          rw [← hdr] at hp
          rw [hp] at heq
          cases hg : qs[k].gone with
          | true =>
            rw [hg] at lgF
            simp (maxSteps := 1000000) (implicitDefEqProofs := false) only [stp, if_true, if_false, Int.reduceEq, Int.reduceLT, Int.reduceLE, Int.reduceGT, Int.reduceGE, reduceCtorEq, Nat.reduceEqDiff, List.getElem?_cons_zero, List.getElem?_cons_succ, Option.map_some, hlx, hlt, ha2, lp, lkF, hls, heqk, hw1, lgF]
            refine ⟨(r, i), ⟨hxF, hwF, kk, out, hv, fun j e => (hkk j e).1, hk0, by omega, by simp only; omega, ?_⟩, .cons rfl (.cons rfl (.cons rfl (.cons rfl (.cons rfl (.cons rfl (.cons rfl .nil))))))⟩
            rw [heq, insA, hg]
            rfl
          | false =>
            rw [hg] at lgF
            obtain ⟨G3, G4, e1, e2, q1, q2, kk', q3, q4, q5⟩ := ins hg
            simp (maxSteps := 1000000) (implicitDefEqProofs := false) only [stp, if_true, if_false, Int.reduceEq, Int.reduceLT, Int.reduceLE, Int.reduceGT, Int.reduceGE, reduceCtorEq, Nat.reduceEqDiff, List.getElem?_cons_zero, List.getElem?_cons_succ, Option.map_some, hlx, hlt, ha2, lp, lkF, hls, heqk, hw1, lgF, lvF, x_buildAt, e1, e2]
            refine ⟨(_, i), ⟨q1, q2, kk', _, q3, q4, q5, by omega, by simp; omega, ?_⟩, .cons rfl (.cons rfl (.cons rfl (.cons rfl (.cons rfl (.cons rfl (.cons rfl .nil))))))⟩
            rw [heq, insA, hg]
            simp
    · have hiu : i = us.length := by omega
      have hdr : us.drop i = [] := by rw [hiu, List.drop_length]
      rw [hdr, paF_nil] at heq
      cases hg : qs[k].gone with
      | true =>
        rw [hg] at lgF
        simp (maxSteps := 1000000) (implicitDefEqProofs := false) only [stp, if_true, if_false, Int.reduceEq, Int.reduceLT, Int.reduceLE, Int.reduceGT, Int.reduceGE, reduceCtorEq, Nat.reduceEqDiff, List.getElem?_cons_zero, List.getElem?_cons_succ, Option.map_some, hlx, hlt, lgF]
        refine ⟨(r, i), ⟨hxF, hwF, kk, out, hv, fun j e => (hkk j e).1, hk0, hi, by simp only; omega, ?_⟩, .cons rfl (.cons rfl (.cons rfl (.cons rfl (.cons rfl (.cons rfl (.cons rfl .nil))))))⟩
        simp only
        rw [heq, hdr, insA, hg]
        rfl
      | false =>
        rw [hg] at lgF
        obtain ⟨G3, G4, e1, e2, q1, q2, kk', q3, q4, q5⟩ := ins hg
        simp (maxSteps := 1000000) (implicitDefEqProofs := false) only [stp, if_true, if_false, Int.reduceEq, Int.reduceLT, Int.reduceLE, Int.reduceGT, Int.reduceGE, reduceCtorEq, Nat.reduceEqDiff, List.getElem?_cons_zero, List.getElem?_cons_succ, Option.map_some, hlx, hlt, lgF, lkF, lvF, x_buildAt, e1, e2]
        refine ⟨(_, i), ⟨q1, q2, kk', _, q3, q4, q5, hi, by simp; omega, ?_⟩, .cons rfl (.cons rfl (.cons rfl (.cons rfl (.cons rfl (.cons rfl (.cons rfl .nil))))))⟩
        simp only
        rw [heq, hdr, insA, hg]
        simp
  · rintro ⟨r, i⟩ G ⟨hxG, hwG, kk, out, hv, hkk, hk0, hi, hol, heq⟩
    simp only at hv hi hol heq
    rw [List.drop_length] at heq
    simp only [paF] at heq
    obtain ⟨a, q1, q2, q3⟩ := hx.tail hcx (l := i) (by rw [List.length_map]; exact hi)
    rw [← List.map_drop] at q2
    have q1' := q1 G (hcx.ext hxG)
    obtain ⟨r', k', G4, e1, v4, w4, n4, gn4, k4, f4, z4⟩ := app_gen hwG hv (q2.ext hxG) (bytes := 48) (by decide) (by simp only [List.length_map, List.length_drop]; unfold big; omega) (by decide)
    simp (maxSteps := 1000000) (implicitDefEqProofs := false) only [stp, if_true, if_false, Int.reduceEq, Int.reduceLT, Int.reduceLE, Int.reduceGT, Int.reduceGE, reduceCtorEq, Nat.reduceEqDiff, List.getElem?_cons_zero, List.getElem?_cons_succ, Option.map_some, q1', e1]
    have hn := hxG.next
    refine ⟨⟨gn4.trans hxG.gn, by omega, fun j hj => by rw [k4 j (by omega) (fun e => by have := hkk j e; omega), hxG.get j hj]⟩, w4, k', by rw [heq, List.map_append]; exact v4, fun j e => ?_, fun e => ?_⟩
    · rcases f4 j e with q | q
      · exact hkk j q
      · omega
    · obtain ⟨z1, z2⟩ := z4 e
      rw [heq, hk0 z1]
      simpa using z2
end Go.Proofs.YtkmaikggdbielaaGreatDoor.Fw

/- apply.Cell. No condition. -/
namespace Go.Proofs.YtkmaikggdbielaaGreatDoor.Fw
open Go
set_option linter.unusedSimpArgs false
set_option linter.unusedVariables false

/-- A cell's set with a patch on it. -/
def cellA (ks : List KeyA) (r : Int) (us : List AttrA) (p : List ChgA) : List AttrA := paF us (partC ks (decide (r = 10)) p)
theorem x_buildCell {r : Int} {v : V} (hv : v.cells = [v]) (F : Heap) : exec (.build [.int .i32 0, .nils] [(0, 1), (1, 1)]) [.int .i32 r, v] F = some (.agg [.int .i32 r, v], F) := by
  have hf : fillA [V.int .i32 0, .nils] [((0, 1), .int .i32 r), ((1, 1), v)] = some [.int .i32 r, v] := by
    simp only [fillA, hv]
    rfl
  show (fillA [V.int .i32 0, .nils] [((0, 1), .int .i32 r), ((1, 1), v)]).map (fun cs => (V.agg cs, F)) = _
  rw [hf]
  rfl
theorem part_len (ks : List KeyA) (b : Bool) (l : List ChgA) : (partC ks b l).length ≤ l.length := List.length_filter_le ..
set_option maxRecDepth 40000 in
set_option maxHeartbeats 8000000 in
theorem applyCell_calls {s sv pv : V} {H : Heap} {ks : List KeyA} {r : Int} {us : List AttrA} {ps : List ChgA} (hs : Sch H s ks) (hx : SL H sv 5 (us.map AttrA.cells)) (hcx : CutOk H sv 5) (hp : SL H pv 6 (ps.map ChgA.cells)) (hl : us.length + ps.length ≤ big) (hso : sv.one = true ∧ sv.cells = [sv]) :
    SCalls PP 106 [s, .agg [.int .i32 r, sv], pv] H fun v H' => Ext H H' ∧ WF H' ∧ ∃ sv' k, v = .agg [.int .i32 r, sv'] ∧ Vec H' sv' 5 ((cellA ks r us ps).map AttrA.cells) k ∧ (∀ j, k = some j → H.next ≤ j) ∧ (k = none → cellA ks r us ps = []) := by
  refine SCalls.go c106 (by simp [fn106]) fun hw => ?_
  have hl' := hl
  unfold big at hl'
  have hone : ([.int .i32 r, sv] : List V).all V.one = true := by simp [hso.1]; rfl
  obtain ⟨G1, hx1, hw1, ha1, hb1⟩ := x_boxed (Ext.refl H) hw (e := [.int .i32 r, sv]) hone
  have al : exec (.alloc [.int .i32 0, .nils]) [] G1 = some (.ptr G1.next 0, G1.new (.row false 2 [.int .i32 0, .nils])) := x_alloc G1 [.int .i32 0, .nils] rfl
  have hx2 : Ext G1 (G1.new (.row false 2 [.int .i32 0, .nils])) := (Ext.refl G1).new _
  have hw2 : WF (G1.new (.row false 2 [.int .i32 0, .nils])) := hw1.new _
  have hg2 := new_get G1 (.row false 2 [.int .i32 0, .nils])
  have hn2 : (G1.new (.row false 2 [.int .i32 0, .nils])).next = G1.next + 1 := rfl
  generalize G1.new (.row false 2 [.int .i32 0, .nils]) = G2 at *
  have h02 := hx1.trans hx2
  have l0 : ∀ F, Ext G2 F → exec (.ld 1) [.ptr H.next (0 + 0)] F = some (.int .i32 r, F) := fun F h => ((ha1.ext hx2).ext h).ld (j := 0) (v := .int .i32 r) rfl 1
  have l1 : ∀ F, Ext G2 F → exec (.ld 1) [.ptr H.next (0 + 1)] F = some (sv, F) := fun F h => ((ha1.ext hx2).ext h).ld (j := 1) (v := sv) rfl 1
  have l00 := l0 G2 (Ext.refl _)
  have l10 := l1 G2 (Ext.refl _)
  -- the two calls and the store
  have cp : ∀ K : V → Heap → Prop, (∀ q F, Ext G2 F → WF F → SL F q 6 ((partC ks (decide (r = 10)) ps).map ChgA.cells) → K q F) → SCalls PP 123 [s, pv, .bool (decide (r = 10))] G2 K := fun K hK =>
    SCalls.mono (partC_calls (hs.ext h02) (hp.ext h02) (by omega) (decide (r = 10))) fun q F ⟨a, b, c⟩ => hK q F a b c
  have cap : ∀ (q : V) (F : Heap), Ext G2 F → SL F q 6 ((partC ks (decide (r = 10)) ps).map ChgA.cells) → ∀ K : V → Heap → Prop, (∀ v F', Ext G2 F' → WF F' → (∃ k, Vec F' v 5 ((cellA ks r us ps).map AttrA.cells) k ∧ (∀ j, k = some j → H.next ≤ j ∧ j ≠ G1.next) ∧ (k = none → cellA ks r us ps = [])) → K v F') → SCalls PP 122 [sv, q] F K := fun q F hF hq K hK =>
    SCalls.mono (patchApply_calls ((hx.ext h02).ext hF) ((hcx.ext h02).ext hF) hq (by have := part_len ks (decide (r = 10)) ps; omega)) fun v F' ⟨a, b, k, c, d, e⟩ => hK v F' (hF.trans a) b ⟨k, c, fun j ej => by
      have := d j ej
      have := hF.next
      have := h02.next
      omega, e⟩
  have fin : ∀ (v : V) (F : Heap), Ext G2 F → WF F → (∃ k, Vec F v 5 ((cellA ks r us ps).map AttrA.cells) k ∧ (∀ j, k = some j → H.next ≤ j ∧ j ≠ G1.next) ∧ (k = none → cellA ks r us ps = [])) → ∃ F', exec (.build [.int .i32 0, .nils] [(0, 1), (1, 1)]) [.int .i32 r, v] F = some (.agg [.int .i32 r, v], F) ∧ exec (.st 2) [.ptr G1.next 0, .agg [.int .i32 r, v]] F = some (.undef, F') ∧ cellsAt F' 2 (some (.ptr G1.next 0)) = some (.agg [.int .i32 r, v]) ∧
      (Ext H F' ∧ WF F' ∧ ∃ sv' k, V.agg [.int .i32 r, v] = .agg [.int .i32 r, sv'] ∧ Vec F' sv' 5 ((cellA ks r us ps).map AttrA.cells) k ∧ (∀ j, k = some j → H.next ≤ j) ∧ (k = none → cellA ks r us ps = [])) := by
    intro v F hF hwF ⟨k, hv, hk, hk0⟩
    have hgF : F.get G1.next = some (.row false 2 [.int .i32 0, .nils]) := by rw [hF.get _ (by omega)]; exact hg2
    have hFn := hF.next
    have h1 := hx1.next
    have st := x_st (n := 2) (v := .agg [.int .i32 r, v]) hgF rfl rfl (by simp [V.cells, hv.one.1]; rfl)
    rw [show (V.agg [.int .i32 r, v]).cells = [.int .i32 r, v] from rfl] at st
    have hat : At (F.set G1.next (.row false 2 [.int .i32 r, v])) G1.next 0 [.int .i32 r, v] := ⟨by rw [Heap.set_next]; omega, false, 2, _, set_get' _ _ _, by simp, fun j v hj => by rw [Nat.zero_add]; exact hj⟩
    refine ⟨_, x_buildCell hv.one.2 F, st, hat.cells (n := 2) rfl, (h02.trans hF).set (by omega) _, hwF.set hgF _, v, k, rfl, hv.keep (Nat.le_refl _) (fun j e => by rw [Heap.set_get, if_neg (hk j e).2]) (fun e hs => ?_), fun j e => (hk j e).1, hk0⟩
    rw [hk0 e] at hs ⊢
    exact hs.empty (Nat.le_refl _)
  simp (maxSteps := 1000000) (implicitDefEqProofs := false) only [stp, if_true, if_false, Int.reduceEq, Int.reduceLT, Int.reduceLE, Int.reduceGT, Int.reduceGE, reduceCtorEq, Nat.reduceEqDiff, List.getElem?_cons_zero, List.getElem?_cons_succ, Option.map_some, fn106, enterFr, List.length, List.range, List.range.loop, List.zip, List.zipWith, hb1, al, l00, l10]
  repeat' (with_reducible refine And.intro ?_ ?_)
  all_goals
    refine cp _ fun q F hF hwF hq => ?_
    have l0F := l0 F hF
    have l1F := l1 F hF
    simp (maxSteps := 1000000) (implicitDefEqProofs := false) only [stp, if_true, if_false, Int.reduceEq, Int.reduceLT, Int.reduceLE, Int.reduceGT, Int.reduceGE, reduceCtorEq, Nat.reduceEqDiff, List.getElem?_cons_zero, List.getElem?_cons_succ, Option.map_some, l0F, l1F]
    repeat' (with_reducible refine And.intro ?_ ?_)
    all_goals
      refine cap q F hF hq _ fun v F' hF' hwF' hv => ?_
      have l0F' := l0 F' hF'
      obtain ⟨F2, e1, e2, e3, e4⟩ := fin v F' hF' hwF' hv
      simp (maxSteps := 1000000) (implicitDefEqProofs := false) only [stp, if_true, if_false, Int.reduceEq, Int.reduceLT, Int.reduceLE, Int.reduceGT, Int.reduceGE, reduceCtorEq, Nat.reduceEqDiff, List.getElem?_cons_zero, List.getElem?_cons_succ, Option.map_some, l0F', e1, e2, e3]
      exact e4
end Go.Proofs.YtkmaikggdbielaaGreatDoor.Fw

/- Compose: a reader of a delta. No condition. -/
namespace Go.Proofs.YtkmaikggdbielaaGreatDoor.Fw
open Go
set_option linter.unusedSimpArgs false
set_option linter.unusedVariables false

def szN (c : OpC) : Nat := if c.kind = 2 then c.rs.length else c.n.toNat
structure RdC where
  xs : List OpC
  dn : Nat
/-- An op of a length. -/
def SzOk (c : OpC) : Prop := (c.kind ≠ 2 → 0 ≤ c.n) ∧ 1 ≤ szN c ∧ szN c ≤ 536870912
structure RdC.Ok (r : RdC) : Prop where
  all : ∀ c ∈ r.xs, SzOk c
  nil : r.xs = [] → r.dn = 0
  hd : ∀ c t, r.xs = c :: t → r.dn < szN c
def RdC.long (r : RdC) : Nat := match r.xs with
  | [] => 536870912
  | c :: _ => szN c - r.dn
def RdC.kind (r : RdC) : Int := match r.xs with
  | [] => 1
  | c :: _ => c.kind
def cutC (c : OpC) (d m : Nat) : OpC := if c.kind = 2 then ⟨c.kind, c.n, (c.rs.drop d).take m, c.ats, c.chs⟩ else ⟨c.kind, m, c.rs, c.ats, c.chs⟩
def RdC.op (r : RdC) (n : Nat) : OpC := match r.xs with
  | [] => ⟨1, n, [], [], []⟩
  | c :: _ => cutC c r.dn (min n (szN c - r.dn))
def RdC.take (r : RdC) (n : Nat) : RdC := match r.xs with
  | [] => r
  | c :: t => if r.dn + min n (szN c - r.dn) = szN c then ⟨t, 0⟩ else ⟨c :: t, r.dn + min n (szN c - r.dn)⟩
theorem RdC.Ok.take {r : RdC} (h : r.Ok) {n : Nat} (hn : 1 ≤ n) : (r.take n).Ok := by
  obtain ⟨xs, dn⟩ := r
  cases xs with
  | nil => exact h
  | cons c t =>
    have hd := h.hd c t rfl
    simp only at hd
    simp only [RdC.take]
    split
    · exact ⟨fun c hc => h.all c (List.mem_cons_of_mem _ hc), fun _ => rfl, fun c' t' e => by simp only at e; have := (h.all c' (by simp [e])).2.1; simp only; omega⟩
    · exact ⟨h.all, (fun e => by cases e), fun c' t' e => by cases e; simp only; omega⟩
/-- A reader as it lies; what it reads lies in H0. -/
def RdP (H0 G : Heap) (p : Nat) (r : RdC) : Prop := ∃ xv os, p < G.next ∧ H0.next ≤ p ∧ G.get p = some (.row false 2 [xv, .int .i64 (r.dn : Nat)]) ∧ OpsZ H0 xv os ∧ os.map OpA.con = r.xs
theorem RdP.keep {H0 G G' : Heap} {p : Nat} {r : RdC} (h : RdP H0 G p r) (hn : G.next ≤ G'.next) (hg : G'.get p = G.get p) : RdP H0 G' p r := by
  obtain ⟨xv, os, h1, hp, h2, h3, h4⟩ := h
  exact ⟨xv, os, Nat.lt_of_lt_of_le h1 hn, hp, by rw [hg]; exact h2, h3, h4⟩
theorem szC_eq (o : OpA) {G : Heap} (ho : o.In G) (h : SzOk o.con) : (if o.kind = 2 then (o.rs.length : Int) else o.n) = (szN o.con : Nat) := by
  unfold szN
  have : o.con.kind = o.kind := rfl
  rw [this]
  split
  · rfl
  · have := h.1 (by assumption)
    have e : o.con.n = o.n := rfl
    rw [e] at this ⊢
    omega
section
variable {H0 G : Heap} {p : Nat} {r : RdC}
theorem over_calls (h : RdP H0 G p r) (x : Ext H0 G) : SCalls PP 76 [.ptr p 0] G fun v H' => H' = G ∧ v = .bool (decide (r.xs = [])) := by
  refine SCalls.go c76 (by simp [fn76]) fun hw => ?_
  obtain ⟨xv, os, h1, hp, h2, h3, h4⟩ := h
  have hat : At G p 0 [xv, .int .i64 (r.dn : Nat)] := ⟨h1, false, 2, _, h2, by simp, fun j v hj => by rw [Nat.zero_add]; exact hj⟩
  have l0 := hat.ld (j := 0) (v := xv) rfl 1
  have hl : exec .len [xv] G = some (.int .i64 os.length, G) := by have := (h3.ops.sl.ext x).len (H' := G); rwa [List.length_map] at this
  have hd : decide ((os.length : Int) = 0) = decide (r.xs = []) := by
    rw [← h4]
    cases os with
    | nil => rfl
    | cons a b => simp; omega
  simp (maxSteps := 1000000) (implicitDefEqProofs := false) only [stp, if_true, if_false, Int.reduceEq, Int.reduceLT, Int.reduceLE, Int.reduceGT, Int.reduceGE, reduceCtorEq, Nat.reduceEqDiff, List.getElem?_cons_zero, List.getElem?_cons_succ, Option.map_some, fn76, enterFr, List.length, List.range, List.range.loop, List.zip, List.zipWith, l0, hl, hd]
  exact ⟨by trivial, by trivial⟩
theorem kind_calls (h : RdP H0 G p r) (x : Ext H0 G) : SCalls PP 77 [.ptr p 0] G fun v H' => H' = G ∧ v = .int .u8 r.kind := by
  refine SCalls.go c77 (by simp [fn77]) fun hw => ?_
  simp (maxSteps := 1000000) (implicitDefEqProofs := false) only [stp, if_true, if_false, Int.reduceEq, Int.reduceLT, Int.reduceLE, Int.reduceGT, Int.reduceGE, reduceCtorEq, Nat.reduceEqDiff, List.getElem?_cons_zero, List.getElem?_cons_succ, Option.map_some, fn77, enterFr, List.length, List.range, List.range.loop, List.zip, List.zipWith]
  refine SCalls.mono (over_calls h x) ?_
  rintro _ G ⟨rfl, rfl⟩
  obtain ⟨xv, os, h1, hp, h2, h3, h4⟩ := h
  cases os with
  | nil =>
    have e : r.xs = [] := by rw [← h4]; rfl
    simp (maxSteps := 1000000) (implicitDefEqProofs := false) only [stp, if_true, if_false, Int.reduceEq, Int.reduceLT, Int.reduceLE, Int.reduceGT, Int.reduceGE, reduceCtorEq, Nat.reduceEqDiff, List.getElem?_cons_zero, List.getElem?_cons_succ, Option.map_some, e]
    exact ⟨by trivial, by simp [RdC.kind, e]⟩
  | cons o t =>
    have e : r.xs = o.con :: t.map OpA.con := by rw [← h4]; rfl
    have e' : ¬ (r.xs = []) := by rw [e]; simp
    have hat : At G p 0 [xv, .int .i64 (r.dn : Nat)] := ⟨h1, false, 2, _, h2, by simp, fun j v hj => by rw [Nat.zero_add]; exact hj⟩
    have l0 := hat.ld (j := 0) (v := xv) rfl 1
    obtain ⟨i, q, ha, ht⟩ := (h3.ops.sl.ext x).ia (H' := G) (i := 0) (e := o.cells) rfl .i64
    have ha' : exec (.ia 5) [xv, .int .i64 0] G = some (.ptr i q, G) := ha
    have lk := ht.ld (j := 0) (v := .int .u8 o.kind) rfl 1
    simp (maxSteps := 1000000) (implicitDefEqProofs := false) only [stp, if_true, if_false, Int.reduceEq, Int.reduceLT, Int.reduceLE, Int.reduceGT, Int.reduceGE, reduceCtorEq, Nat.reduceEqDiff, List.getElem?_cons_zero, List.getElem?_cons_succ, Option.map_some, e', l0, ha', lk]
    exact ⟨by trivial, by simp [RdC.kind, e, OpA.con]⟩
theorem left_calls (h : RdP H0 G p r) (x : Ext H0 G) (hall : ∀ c ∈ r.xs, SzOk c) (hdl : ∀ c t, r.xs = c :: t → r.dn ≤ szN c) (hne : r.xs ≠ []) : SCalls PP 104 [.ptr p 0] G fun v H' => H' = G ∧ v = .int .i64 (r.long : Nat) := by
  refine SCalls.go c104 (by simp [fn104]) fun hw => ?_
  obtain ⟨xv, os, h1, hp, h2, h3, h4⟩ := h
  cases os with
  | nil => exact absurd (by rw [← h4]; rfl) hne
  | cons o t =>
    have e : r.xs = o.con :: t.map OpA.con := by rw [← h4]; rfl
    have hat : At G p 0 [xv, .int .i64 (r.dn : Nat)] := ⟨h1, false, 2, _, h2, by simp, fun j v hj => by rw [Nat.zero_add]; exact hj⟩
    have l0 := hat.ld (j := 0) (v := xv) rfl 1
    have l1 := hat.ld (j := 1) (v := .int .i64 (r.dn : Nat)) rfl 1
    obtain ⟨i, q, ha, ht⟩ := (h3.ops.sl.ext x).ia (H' := G) (i := 0) (e := o.cells) rfl .i64
    have ha' : exec (.ia 5) [xv, .int .i64 0] G = some (.ptr i q, G) := ha
    have lk := ht.ld (j := 0) (v := .int .u8 o.kind) rfl 1
    have ln := ht.ld (j := 1) (v := .int .i64 o.n) rfl 1
    have lr := ht.ld (j := 2) (v := o.runes) rfl 1
    have hin := (h3.ops.ins o (by simp)).ext x
    have hlr : exec .len [o.runes] G = some (.int .i64 o.rs.length, G) := by have := hin.runes.len (H' := G); rwa [List.length_map] at this
    have hsz := hall o.con (by rw [e]; simp)
    have hd := hdl _ _ e
    have hs := szC_eq o hin hsz
    have hlong : r.long = szN o.con - r.dn := by simp [RdC.long, e]
    have hle := hsz.2.2
    by_cases hk : o.kind = 2
    · rw [if_pos hk] at hs
      have hw1 : IntKind.i64.wrap ((szN o.con : Int) - (r.dn : Nat)) = ((r.long : Nat) : Int) := by rw [hlong, wrap_i64 (by omega) (by omega)]; omega
      simp (maxSteps := 1000000) (implicitDefEqProofs := false) only [stp, if_true, if_false, Int.reduceEq, Int.reduceLT, Int.reduceLE, Int.reduceGT, Int.reduceGE, reduceCtorEq, Nat.reduceEqDiff, List.getElem?_cons_zero, List.getElem?_cons_succ, Option.map_some, fn104, enterFr, List.length, List.range, List.range.loop, List.zip, List.zipWith, l0, l1, ha', lk, hk, lr, hlr, hs, hw1]
      exact ⟨by trivial, by trivial⟩
    · rw [if_neg hk] at hs
      have hw1 : IntKind.i64.wrap ((szN o.con : Int) - (r.dn : Nat)) = ((r.long : Nat) : Int) := by rw [hlong, wrap_i64 (by omega) (by omega)]; omega
      simp (maxSteps := 1000000) (implicitDefEqProofs := false) only [stp, if_true, if_false, Int.reduceEq, Int.reduceLT, Int.reduceLE, Int.reduceGT, Int.reduceGE, reduceCtorEq, Nat.reduceEqDiff, List.getElem?_cons_zero, List.getElem?_cons_succ, Option.map_some, fn104, enterFr, List.length, List.range, List.range.loop, List.zip, List.zipWith, l0, l1, ha', lk, hk, ln, hs, hw1]
      exact ⟨by trivial, by trivial⟩
theorem long_calls (h : RdP H0 G p r) (x : Ext H0 G) (ok : r.Ok) : SCalls PP 80 [.ptr p 0] G fun v H' => H' = G ∧ v = .int .i64 (r.long : Nat) := by
  refine SCalls.go c80 (by simp [fn80]) fun hw => ?_
  simp (maxSteps := 1000000) (implicitDefEqProofs := false) only [stp, if_true, if_false, Int.reduceEq, Int.reduceLT, Int.reduceLE, Int.reduceGT, Int.reduceGE, reduceCtorEq, Nat.reduceEqDiff, List.getElem?_cons_zero, List.getElem?_cons_succ, Option.map_some, fn80, enterFr, List.length, List.range, List.range.loop, List.zip, List.zipWith]
  refine SCalls.mono (over_calls h x) ?_
  rintro _ G ⟨rfl, rfl⟩
  by_cases e : r.xs = []
  · simp (maxSteps := 1000000) (implicitDefEqProofs := false) only [stp, if_true, if_false, Int.reduceEq, Int.reduceLT, Int.reduceLE, Int.reduceGT, Int.reduceGE, reduceCtorEq, Nat.reduceEqDiff, List.getElem?_cons_zero, List.getElem?_cons_succ, Option.map_some, e]
    exact ⟨by trivial, by simp [RdC.long, e]⟩
  · simp (maxSteps := 1000000) (implicitDefEqProofs := false) only [stp, if_true, if_false, Int.reduceEq, Int.reduceLT, Int.reduceLE, Int.reduceGT, Int.reduceGE, reduceCtorEq, Nat.reduceEqDiff, List.getElem?_cons_zero, List.getElem?_cons_succ, Option.map_some, e]
    refine SCalls.mono (left_calls h x ok.all (fun c t q => Nat.le_of_lt (ok.hd c t q)) e) ?_
    rintro _ G ⟨rfl, rfl⟩
    simp (maxSteps := 1000000) (implicitDefEqProofs := false) only [stp, if_true, if_false, Int.reduceEq, Int.reduceLT, Int.reduceLE, Int.reduceGT, Int.reduceGE, reduceCtorEq, Nat.reduceEqDiff, List.getElem?_cons_zero, List.getElem?_cons_succ, Option.map_some, if_true]
    exact ⟨by trivial, by trivial⟩
end
end Go.Proofs.YtkmaikggdbielaaGreatDoor.Fw

