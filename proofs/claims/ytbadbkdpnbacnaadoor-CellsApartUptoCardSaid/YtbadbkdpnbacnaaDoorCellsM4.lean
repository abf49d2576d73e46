/- Part 4 of the proof. Two rows of cells are the same exactly if their deltas are, and then their texts are the same too (CellsApart). The one condition: the arguments hold together at most 2^20 data, as the statement's own bound says. -/
import Derived.Test.YtbadbkdpnbacnaaDoorY
import Derived.Test.YtbadbkdpnbacnaaDoorCellsM3

/- slices.Grow, slices.Concat, ops.Copy. No condition. Parts printed. -/
namespace Go.Proofs.YtbadbkdpnbacnaaDoor.Fw
open Go
set_option linter.unusedSimpArgs false
set_option linter.unusedVariables false

theorem x_cap0 (H : Heap) : exec .cap [.nils] H = some (.int .i64 0, H) := rfl
theorem x_len0 (H : Heap) : exec .len [.nils] H = some (.int .i64 0, H) := rfl
theorem x_appz {n : Int} (h0 : 0 < n) (h1 : n ≤ 1048576) (H : Heap) : exec (.appz 5 88 zo) [.nils, .int .i64 n] H = some (.slice H.next 0 n.toNat none, H.new (.row false 5 (List.replicate n.toNat zo).flatten)) := by
  simp only [exec]
  rw [if_pos ⟨h0, by omega, by omega, rfl, rfl, by decide⟩]
set_option maxRecDepth 20000 in
theorem grow_calls {H : Heap} {n : Int} (h0 : 0 ≤ n) (h1 : n ≤ 1048576) : SCalls PP 97 [.nils, .int .i64 n] H fun r H' => Ext H H' ∧ WF H' ∧ ∃ k, Vec H' r 5 [] k ∧ ∀ j, k = some j → H.next ≤ j := by
  refine SCalls.go c97 (by simp [fn97]) fun hw => ?_
  have hlt : ¬ n < 0 := by omega
  have hs0 : ∀ G, exec (.slc 5 false true false) [.nils, .int .i64 0] G = some (.nils, G) := fun _ => rfl
  have w0 : IntKind.i64.wrap (0 - 0) = 0 := by decide
  have w1 : IntKind.i64.wrap (n - 0) = n := by rw [Int.sub_zero]; exact wrap_i64 (by omega) (by omega)
  by_cases hn : n > 0
  · have hz := x_appz (n := n) (by omega) h1 H
    have hg := new_get H (.row false 5 (List.replicate n.toNat zo).flatten)
    have hs := x_slc_hi (n := n.toNat) (i := 0) hg (Nat.zero_le _)
    have hs' : exec (.slc 5 false true false) [.slice H.next 0 n.toNat none, .int .i64 0] (H.new (.row false 5 (List.replicate n.toNat zo).flatten)) = some (.slice H.next 0 0 none, H.new (.row false 5 (List.replicate n.toNat zo).flatten)) := hs
    simp (maxSteps := 1000000) (implicitDefEqProofs := false) only [stp, if_true, if_false, Int.reduceEq, Int.reduceLT, Int.reduceLE, Int.reduceGT, Int.reduceGE, reduceCtorEq, Nat.reduceEqDiff, List.getElem?_cons_zero, List.getElem?_cons_succ, Option.map_some, fn97, enterFr, List.length, List.range, List.range.loop, List.zip, List.zipWith, hlt, x_cap0, x_len0, w0, w1, hn, hs0, hz, hs']
    refine ⟨(Ext.refl H).new _, hw.new _, some H.next, ⟨by simp, .inr (.inr (.inr ⟨rfl, H.next, _, rfl, Nat.lt_succ_self _, hg, ?_, rfl⟩))⟩, fun j e => by cases e; exact Nat.le_refl _⟩
    exact flatAll fun e he => by rw [List.eq_of_mem_replicate he]; rfl
  · simp (maxSteps := 1000000) (implicitDefEqProofs := false) only [stp, if_true, if_false, Int.reduceEq, Int.reduceLT, Int.reduceLE, Int.reduceGT, Int.reduceGE, reduceCtorEq, Nat.reduceEqDiff, List.getElem?_cons_zero, List.getElem?_cons_succ, Option.map_some, fn97, enterFr, List.length, List.range, List.range.loop, List.zip, List.zipWith, hlt, x_cap0, x_len0, w0, w1, hn]
    exact ⟨Ext.refl H, hw, none, Vec.nil _ _, fun j e => by cases e⟩

def lens (vs : List (V × List (List V))) : Nat := (vs.map fun q => q.2.length).sum
def joined (vs : List (V × List (List V))) : List (List V) := (vs.map fun q => q.2).flatten
theorem joined_len (vs : List (V × List (List V))) : (joined vs).length = lens vs := by simp [joined, lens, List.length_flatten, Function.comp_def]
theorem lens_take (vs : List (V × List (List V))) (k : Nat) : lens (vs.take k) ≤ lens vs := by
  have : lens vs = lens (vs.take k) + lens (vs.drop k) := by
    unfold lens
    rw [← List.sum_append, ← List.map_append, List.take_append_drop]
  omega
set_option maxRecDepth 20000 in
set_option maxHeartbeats 2000000 in
theorem concat_calls {H : Heap} {s : V} {vs : List (V × List (List V))} (hs : SL H s 1 (vs.map fun q => [q.1])) (hv : ∀ q ∈ vs, SL H q.1 5 q.2) (hl : lens vs ≤ big) (hl2 : vs.length ≤ big) :
    SCalls PP 73 [s] H fun r H' => Ext H H' ∧ WF H' ∧ ∃ k, Vec H' r 5 (joined vs) k ∧ (∀ j, k = some j → H.next ≤ j) ∧ (k = none → joined vs = []) := by
  refine SCalls.go c73 (by simp [fn73]) fun hw => ?_
  unfold big at hl hl2
  have hlen : ∀ G, exec .len [s] G = some (.int .i64 vs.length, G) := fun G => by have := hs.len (H' := G); rwa [List.length_map] at this
  simp (maxSteps := 1000000) (implicitDefEqProofs := false) only [stp, if_true, if_false, Int.reduceEq, Int.reduceLT, Int.reduceLE, Int.reduceGT, Int.reduceGE, reduceCtorEq, Nat.reduceEqDiff, List.getElem?_cons_zero, List.getElem?_cons_succ, Option.map_some, fn73, enterFr, List.length, List.range, List.range.loop, List.zip, List.zipWith, hlen]
  refine wp_range (len := vs.length) SCalls.scMono (by omega) (fun acc : Int => [(9, s), (0, s), (3, .int .i64 acc)]) (fun k acc H' => H' = H ∧ acc = lens (vs.take k)) 0 ⟨rfl, by simp [lens]⟩
    (.cons rfl (.cons rfl (.cons rfl (.cons rfl (.cons rfl .nil))))) (by decide) (fun s => ⟨rfl, rfl, rfl⟩) ?_ ?_
  · rintro k acc H' hk ⟨rfl, rfl⟩
    obtain ⟨i1, o1, ha1, ht1⟩ := hs.ia (H' := H') (i := k) (e := [vs[k].1]) (by rw [List.getElem?_map, List.getElem?_eq_getElem hk]; rfl) .i64
    have l1 := ht1.ld (j := 0) (v := vs[k].1) rfl 1
    rw [Nat.add_zero] at l1
    have hlk := (hv vs[k] (List.getElem_mem hk)).len (H' := H')
    have hsum : lens (vs.take (k + 1)) = lens (vs.take k) + vs[k].2.length := by
      rw [List.take_succ_eq_append_getElem hk]; unfold lens; rw [List.map_append, List.sum_append]; simp only [List.map_cons, List.map_nil, List.sum_cons, List.sum_nil, Nat.add_zero]
    have hle := lens_take vs (k + 1)
    have hwr : IntKind.i64.wrap ((lens (vs.take k) : Int) + vs[k].2.length) = ((lens (vs.take (k + 1)) : Nat) : Int) := by rw [wrap_i64 (by omega) (by omega)]; omega
    have hnn : ¬ (((lens (vs.take (k + 1)) : Nat) : Int) < 0) := by omega
    simp (maxSteps := 1000000) (implicitDefEqProofs := false) only [stp, if_true, if_false, Int.reduceEq, Int.reduceLT, Int.reduceLE, Int.reduceGT, Int.reduceGE, reduceCtorEq, Nat.reduceEqDiff, List.getElem?_cons_zero, List.getElem?_cons_succ, Option.map_some, ha1, l1, hlk, hwr, hnn]
    exact ⟨_, ⟨by trivial, rfl⟩, .cons rfl (.cons rfl (.cons rfl (.cons rfl (.cons rfl .nil))))⟩
  · rintro acc H' ⟨rfl, rfl⟩
    rw [List.take_length]
    simp (maxSteps := 1000000) (implicitDefEqProofs := false) only [stp, if_true, if_false, Int.reduceEq, Int.reduceLT, Int.reduceLE, Int.reduceGT, Int.reduceGE, reduceCtorEq, Nat.reduceEqDiff, List.getElem?_cons_zero, List.getElem?_cons_succ, Option.map_some, if_true]
    refine SCalls.mono (grow_calls (n := (lens vs : Int)) (by omega) (by omega)) ?_
    rintro r G ⟨hx, hwG, k0, hv0, hk0⟩
    simp (maxSteps := 1000000) (implicitDefEqProofs := false) only [stp, if_true, if_false, Int.reduceEq, Int.reduceLT, Int.reduceLE, Int.reduceGT, Int.reduceGE, reduceCtorEq, Nat.reduceEqDiff, List.getElem?_cons_zero, List.getElem?_cons_succ, Option.map_some, hlen]
    refine wp_range (len := vs.length) SCalls.scMono (by omega) (fun r : V => [(25, s), (6, r)]) (fun k r G => Ext H' G ∧ WF G ∧ ∃ kk, Vec G r 5 (joined (vs.take k)) kk ∧ (∀ j, kk = some j → H'.next ≤ j) ∧ (kk = none → joined (vs.take k) = [])) r ⟨hx, hwG, k0, by simpa [joined] using hv0, hk0, fun _ => by simp [joined]⟩
      (.cons rfl (.cons rfl (.cons rfl (.cons rfl .nil)))) (by decide) (fun s => ⟨rfl, rfl, rfl⟩) ?_ ?_
    · rintro k r G hk ⟨hx, hwG, kk, hvv, hkk, hk00⟩
      obtain ⟨i1, o1, ha1, ht1⟩ := (hs.ext hx).ia (H' := G) (i := k) (e := [vs[k].1]) (by rw [List.getElem?_map, List.getElem?_eq_getElem hk]; rfl) .i64
      have l1 := ht1.ld (j := 0) (v := vs[k].1) rfl 1
      rw [Nat.add_zero] at l1
      have hsk := (hv vs[k] (List.getElem_mem hk)).ext hx
      have hj : joined (vs.take (k + 1)) = joined (vs.take k) ++ vs[k].2 := by
        rw [List.take_succ_eq_append_getElem hk]; unfold joined; rw [List.map_append, List.flatten_append]; simp only [List.map_cons, List.map_nil, List.flatten_cons, List.flatten_nil, List.append_nil]
      have hle := lens_take vs (k + 1)
      rw [← joined_len, hj, List.length_append] at hle
      by_cases he : vs[k].2 = []
      · rw [he] at hsk
        obtain ⟨s1, s2⟩ := hsk.src0
        have ha := x_app0 (bytes := 88) hvv.shape s1 s2 (by decide)
        simp (maxSteps := 1000000) (implicitDefEqProofs := false) only [stp, if_true, if_false, Int.reduceEq, Int.reduceLT, Int.reduceLE, Int.reduceGT, Int.reduceGE, reduceCtorEq, Nat.reduceEqDiff, List.getElem?_cons_zero, List.getElem?_cons_succ, Option.map_some, ha1, l1, ha]
        exact ⟨r, ⟨hx, hwG, kk, by rw [hj, he, List.append_nil]; exact hvv, hkk, fun e => by rw [hj, he, List.append_nil]; exact hk00 e⟩, .cons rfl (.cons rfl (.cons rfl (.cons rfl .nil)))⟩
      · obtain ⟨s1, s2⟩ := hsk.src he
        obtain ⟨G2, a1, a2, a3, a4, a5, a6, a7⟩ := hvv.app (bytes := 88) (n := vs[k].2.length) (news := vs[k].2) hwG (by decide) rfl (fun q => he (List.length_eq_zero_iff.1 q)) s1 s2 hsk.1 (by omega) (by omega)
        simp (maxSteps := 1000000) (implicitDefEqProofs := false) only [stp, if_true, if_false, Int.reduceEq, Int.reduceLT, Int.reduceLE, Int.reduceGT, Int.reduceGE, reduceCtorEq, Nat.reduceEqDiff, List.getElem?_cons_zero, List.getElem?_cons_succ, Option.map_some, ha1, l1, a1]
        have hxn := hx.next
        refine ⟨_, ⟨⟨a6.trans hx.gn, by omega, fun j hj' => ?_⟩, a4, _, by rw [hj]; exact a2, fun j e => (by cases e; omega), fun e => (by cases e)⟩, .cons rfl (.cons rfl (.cons rfl (.cons rfl .nil)))⟩
        rw [a7 j (by omega) (fun q => by have := hkk j q; omega), hx.get j hj']
    · rintro r G ⟨hx, hwG, kk, hvv, hkk, hk00⟩
      rw [List.take_length] at hvv hk00
      simp (maxSteps := 1000000) (implicitDefEqProofs := false) only [stp, if_true, if_false, Int.reduceEq, Int.reduceLT, Int.reduceLE, Int.reduceGT, Int.reduceGE, reduceCtorEq, Nat.reduceEqDiff, List.getElem?_cons_zero, List.getElem?_cons_succ, Option.map_some, if_true]
      exact ⟨hx, hwG, kk, hvv, hkk, hk00⟩

/-! ### ops.Copy -/
def copyRound : ACode :=
 (.draw (.op ⟨some 12, none, .ex (.mov) [.s 3]⟩ (.op ⟨some 13, none, .ex (.mov) [.s 4]⟩ (.op ⟨some 14, none, .ex (.mov) [.s 3]⟩ (.op ⟨some 15, none, .ex (.mov) [.s 4]⟩ (.op ⟨some 16, none, .ex (.mov) [.s 3]⟩ (.op ⟨some 17, none, .ex (.mov) [.s 4]⟩ (.op ⟨some 18, none, .ex (.mov) [.s 3]⟩ (.op ⟨some 19, none, .ex (.mov) [.s 4]⟩ (.op ⟨some 20, none, .ex (.ia 5) [.s 18, .s 19]⟩ (.op ⟨some 21, none, .ex (.fa 2) [.s 20]⟩ (.op ⟨some 22, none, .ex (.ld 1) [.s 21]⟩ (.op ⟨some 24, none, .ex (.mov) [.s 3]⟩ (.op ⟨some 25, none, .ex (.mov) [.s 4]⟩ (.op ⟨some 26, none, .ex (.ia 5) [.s 24, .s 25]⟩ (.op ⟨some 27, none, .ex (.fa 3) [.s 26]⟩ (.op ⟨some 30, none, .ex (.mov) [.s 3]⟩ (.op ⟨some 31, none, .ex (.mov) [.s 4]⟩ (.op ⟨some 32, none, .ex (.ia 5) [.s 30, .s 31]⟩ (.op ⟨some 33, none, .ex (.fa 4) [.s 32]⟩ (.fork (.op ⟨some 23, none, .callf 93 [.s 22]⟩ (.op ⟨some 28, none, .ex (.ld 1) [.s 27]⟩ (.fork (.op ⟨some 29, none, .callf 94 [.s 28]⟩ (.op ⟨some 34, none, .ex (.ld 1) [.s 33]⟩ (.op ⟨some 35, none, .callf 71 [.s 34]⟩ (.op ⟨some 36, none, .ex (.ia 5) [.s 12, .s 13]⟩ (.op ⟨some 37, none, .ex (.fa 2) [.s 36]⟩ (.op ⟨none, none, .ex (.st 1) [.s 37, .s 23]⟩ (.op ⟨some 38, none, .ex (.ia 5) [.s 14, .s 15]⟩ (.op ⟨some 39, none, .ex (.fa 3) [.s 38]⟩ (.op ⟨none, none, .ex (.st 1) [.s 39, .s 29]⟩ (.op ⟨some 40, none, .ex (.ia 5) [.s 16, .s 17]⟩ (.op ⟨some 41, none, .ex (.fa 4) [.s 40]⟩ (.op ⟨none, none, .ex (.st 1) [.s 41, .s 35]⟩ .done)))))))))))) (.op ⟨some 34, none, .ex (.ld 1) [.s 33]⟩ (.op ⟨some 29, none, .callf 94 [.s 28]⟩ (.op ⟨some 35, none, .callf 71 [.s 34]⟩ (.op ⟨some 36, none, .ex (.ia 5) [.s 12, .s 13]⟩ (.op ⟨some 37, none, .ex (.fa 2) [.s 36]⟩ (.op ⟨none, none, .ex (.st 1) [.s 37, .s 23]⟩ (.op ⟨some 38, none, .ex (.ia 5) [.s 14, .s 15]⟩ (.op ⟨some 39, none, .ex (.fa 3) [.s 38]⟩ (.op ⟨none, none, .ex (.st 1) [.s 39, .s 29]⟩ (.op ⟨some 40, none, .ex (.ia 5) [.s 16, .s 17]⟩ (.op ⟨some 41, none, .ex (.fa 4) [.s 40]⟩ (.op ⟨none, none, .ex (.st 1) [.s 41, .s 35]⟩ .done))))))))))))))) (.fork (.op ⟨some 28, none, .ex (.ld 1) [.s 27]⟩ (.fork (.op ⟨some 23, none, .callf 93 [.s 22]⟩ (.fork (.op ⟨some 29, none, .callf 94 [.s 28]⟩ (.op ⟨some 34, none, .ex (.ld 1) [.s 33]⟩ (.op ⟨some 35, none, .callf 71 [.s 34]⟩ (.op ⟨some 36, none, .ex (.ia 5) [.s 12, .s 13]⟩ (.op ⟨some 37, none, .ex (.fa 2) [.s 36]⟩ (.op ⟨none, none, .ex (.st 1) [.s 37, .s 23]⟩ (.op ⟨some 38, none, .ex (.ia 5) [.s 14, .s 15]⟩ (.op ⟨some 39, none, .ex (.fa 3) [.s 38]⟩ (.op ⟨none, none, .ex (.st 1) [.s 39, .s 29]⟩ (.op ⟨some 40, none, .ex (.ia 5) [.s 16, .s 17]⟩ (.op ⟨some 41, none, .ex (.fa 4) [.s 40]⟩ (.op ⟨none, none, .ex (.st 1) [.s 41, .s 35]⟩ .done)))))))))))) (.op ⟨some 34, none, .ex (.ld 1) [.s 33]⟩ (.op ⟨some 29, none, .callf 94 [.s 28]⟩ (.op ⟨some 35, none, .callf 71 [.s 34]⟩ (.op ⟨some 36, none, .ex (.ia 5) [.s 12, .s 13]⟩ (.op ⟨some 37, none, .ex (.fa 2) [.s 36]⟩ (.op ⟨none, none, .ex (.st 1) [.s 37, .s 23]⟩ (.op ⟨some 38, none, .ex (.ia 5) [.s 14, .s 15]⟩ (.op ⟨some 39, none, .ex (.fa 3) [.s 38]⟩ (.op ⟨none, none, .ex (.st 1) [.s 39, .s 29]⟩ (.op ⟨some 40, none, .ex (.ia 5) [.s 16, .s 17]⟩ (.op ⟨some 41, none, .ex (.fa 4) [.s 40]⟩ (.op ⟨none, none, .ex (.st 1) [.s 41, .s 35]⟩ .done)))))))))))))) (.op ⟨some 34, none, .ex (.ld 1) [.s 33]⟩ (.op ⟨some 23, none, .callf 93 [.s 22]⟩ (.op ⟨some 29, none, .callf 94 [.s 28]⟩ (.op ⟨some 35, none, .callf 71 [.s 34]⟩ (.op ⟨some 36, none, .ex (.ia 5) [.s 12, .s 13]⟩ (.op ⟨some 37, none, .ex (.fa 2) [.s 36]⟩ (.op ⟨none, none, .ex (.st 1) [.s 37, .s 23]⟩ (.op ⟨some 38, none, .ex (.ia 5) [.s 14, .s 15]⟩ (.op ⟨some 39, none, .ex (.fa 3) [.s 38]⟩ (.op ⟨none, none, .ex (.st 1) [.s 39, .s 29]⟩ (.op ⟨some 40, none, .ex (.ia 5) [.s 16, .s 17]⟩ (.op ⟨some 41, none, .ex (.fa 4) [.s 40]⟩ (.op ⟨none, none, .ex (.st 1) [.s 41, .s 35]⟩ .done))))))))))))))) (.op ⟨some 34, none, .ex (.ld 1) [.s 33]⟩ (.fork (.op ⟨some 23, none, .callf 93 [.s 22]⟩ (.op ⟨some 28, none, .ex (.ld 1) [.s 27]⟩ (.op ⟨some 29, none, .callf 94 [.s 28]⟩ (.op ⟨some 35, none, .callf 71 [.s 34]⟩ (.op ⟨some 36, none, .ex (.ia 5) [.s 12, .s 13]⟩ (.op ⟨some 37, none, .ex (.fa 2) [.s 36]⟩ (.op ⟨none, none, .ex (.st 1) [.s 37, .s 23]⟩ (.op ⟨some 38, none, .ex (.ia 5) [.s 14, .s 15]⟩ (.op ⟨some 39, none, .ex (.fa 3) [.s 38]⟩ (.op ⟨none, none, .ex (.st 1) [.s 39, .s 29]⟩ (.op ⟨some 40, none, .ex (.ia 5) [.s 16, .s 17]⟩ (.op ⟨some 41, none, .ex (.fa 4) [.s 40]⟩ (.op ⟨none, none, .ex (.st 1) [.s 41, .s 35]⟩ .done))))))))))))) (.op ⟨some 28, none, .ex (.ld 1) [.s 27]⟩ (.op ⟨some 23, none, .callf 93 [.s 22]⟩ (.op ⟨some 29, none, .callf 94 [.s 28]⟩ (.op ⟨some 35, none, .callf 71 [.s 34]⟩ (.op ⟨some 36, none, .ex (.ia 5) [.s 12, .s 13]⟩ (.op ⟨some 37, none, .ex (.fa 2) [.s 36]⟩ (.op ⟨none, none, .ex (.st 1) [.s 37, .s 23]⟩ (.op ⟨some 38, none, .ex (.ia 5) [.s 14, .s 15]⟩ (.op ⟨some 39, none, .ex (.fa 3) [.s 38]⟩ (.op ⟨none, none, .ex (.st 1) [.s 39, .s 29]⟩ (.op ⟨some 40, none, .ex (.ia 5) [.s 16, .s 17]⟩ (.op ⟨some 41, none, .ex (.fa 4) [.s 40]⟩ (.op ⟨none, none, .ex (.st 1) [.s 41, .s 35]⟩ .done)))))))))))))))))))))))))))))))))))))
def fn74' : AFn := ⟨44,
 (.seq
  (.region [⟨some 2, none, .ex (.mov) [.k .nils]⟩])
  (.seq
   (.region [⟨some 5, none, .ex (.mov) [.s 0]⟩,
     ⟨some 6, none, .callf 95 [.s 5]⟩,
     ⟨some 3, none, .ex (.mov) [.s 6]⟩])
   (.seq
    (.seq
     (.region [⟨some 7, none, .ex (.mov) [.s 3]⟩,
       ⟨some 8, none, .ex (.len) [.s 7]⟩,
       ⟨some 9, none, .ex (.mov) [.k (.int .i64 0)]⟩])
     (.block 0
      (.loop
       (.seq
        (.region [⟨some 10, none, .ex (.ibin .lss) [.s 9, .s 8]⟩])
        (.seq
         (.cond (.s 10)
          .skip
          (.exit 0))
         (.seq
          (.block 1
           (.seq
            (.region [⟨some 11, none, .ex (.mov) [.s 9]⟩,
              ⟨some 4, none, .ex (.mov) [.s 11]⟩])
            copyRound))
          (.region [⟨some 42, none, .ex (.ibin .add) [.s 9, .k (.int .i64 1)]⟩,
            ⟨some 9, none, .ex (.mov) [.s 42]⟩])))))))
    (.seq
     (.region [⟨some 43, none, .ex (.mov) [.s 3]⟩,
       ⟨some 2, none, .ex (.mov) [.s 43]⟩])
     .ret)))),
 [.t 2]⟩
theorem c74' : compFn Go.Proofs.Tryd.prog 74 = some fn74' := c74

/-- A delta in memory of its own: it stays, whatever happens to what was there before. -/
def Fresh (n : Nat) (H : Heap) (r : V) (os : List OpA) : Prop := Fz (fun j => j < n) H fun G => OpsIn G r os
theorem Fresh.here {n : Nat} {H : Heap} {r : V} {os : List OpA} (h : Fresh n H r os) : OpsIn H r os := Fz.here h
set_option maxRecDepth 40000 in
set_option maxHeartbeats 8000000 in
theorem copy_calls {H : Heap} {x : V} {os : List OpA} (hx : OpsIn H x os) : SCalls PP 74 [x] H fun r H' => Ext H H' ∧ WF H' ∧ ∃ os', Fresh H.next H' r os' ∧ os'.map OpA.con = os.map OpA.con := by
  refine SCalls.go c74' (by simp [fn74']) fun hw => ?_
  have hol := hx.len
  unfold big at hol
  simp (maxSteps := 1000000) (implicitDefEqProofs := false) only [stp, if_true, if_false, Int.reduceEq, Int.reduceLT, Int.reduceLE, Int.reduceGT, Int.reduceGE, reduceCtorEq, Nat.reduceEqDiff, List.getElem?_cons_zero, List.getElem?_cons_succ, Option.map_some, fn74', enterFr, List.length, List.range, List.range.loop, List.zip, List.zipWith]
  refine SCalls.mono (cloneO_calls hx.sl (by rw [List.length_map]; exact hx.len)) ?_
  rintro r G ⟨hxG, hwG, k, hv, hk, hne, hk0⟩
  have hlen : ∀ F, exec .len [r] F = some (.int .i64 os.length, F) := fun F => by have := hv.len F; rwa [List.length_map] at this
  simp (maxSteps := 1000000) (implicitDefEqProofs := false) only [stp, if_true, if_false, Int.reduceEq, Int.reduceLT, Int.reduceLE, Int.reduceGT, Int.reduceGE, reduceCtorEq, Nat.reduceEqDiff, List.getElem?_cons_zero, List.getElem?_cons_succ, Option.map_some, hlen]
  by_cases hos : os = []
  · subst hos
    refine wp_range (len := 0) SCalls.scMono (by omega) (fun _ : Unit => [(3, r)]) (fun k _ F => F = G) () rfl (.cons rfl (.cons rfl (.cons rfl .nil))) (by decide) (fun s => ⟨rfl, rfl, rfl⟩) (fun k _ F hk => by omega) ?_
    rintro _ F rfl
    simp (maxSteps := 1000000) (implicitDefEqProofs := false) only [stp, if_true, if_false, Int.reduceEq, Int.reduceLT, Int.reduceLE, Int.reduceGT, Int.reduceGE, reduceCtorEq, Nat.reduceEqDiff, List.getElem?_cons_zero, List.getElem?_cons_succ, Option.map_some, if_true]
    refine ⟨hxG, hwG, [], fun G' hx' => ⟨?_, by simp, by simp⟩, rfl⟩
    have := hv.sl
    simp only [List.map_nil] at this ⊢
    exact this.empty hx'.next
  obtain ⟨id, rfl, ho, rfl⟩ := hne (by simpa using hos)
  rw [List.length_map] at hlen ⊢
  have hid := hk id rfl
  have hidl := ho.lt
  have hxn := hxG.next
  refine wp_range (len := os.length) SCalls.scMono (by omega) (fun _ : Unit => [(3, .slice id 0 os.length none)]) (fun k _ F => ExtM (fun j => j = id) G F ∧ WF F ∧ ∃ os' : List OpA, os'.length = os.length ∧ Own F id 5 (os'.map OpA.cells) ∧ os'.map OpA.con = os.map OpA.con ∧
      (∀ j : Nat, k ≤ j → os'[j]? = os[j]?) ∧ ∀ (j : Nat) o, j < k → os'[j]? = some o → Fz (fun j => j < H.next ∨ j = id) F fun G => o.In G) ()
    ⟨ExtM.refl _ _, hwG, os, rfl, ho, rfl, fun _ _ => rfl, fun j o h => by omega⟩ (.cons rfl (.cons rfl (.cons rfl .nil))) (by decide) (fun s => ⟨rfl, rfl, rfl⟩) ?_ ?_
  · rintro k _ F hk ⟨hF, hwF, os', hol', hown, hcon, hback, hfz⟩
    have hk' : k < os'.length := by omega
    have hok : os'[k]? = some os[k] := by rw [hback k (Nat.le_refl _)]; exact List.getElem?_eq_getElem hk
    have hkk : os'[k] = os[k] := by
      have := List.getElem?_eq_getElem hk'
      rw [hok] at this
      exact (Option.some.inj this).symm
    have hFH : Ext H F := ⟨hF.gn.trans hxG.gn, by have := hF.next; omega, fun j hj => by rw [hF.get j (by omega) (by omega), hxG.get j hj]⟩
    have hin := (hx.ins os[k] (List.getElem_mem hk)).ext hFH
    have hFn := hF.next
    have hia : ∀ F', exec (.ia 5) [.slice id 0 os.length none, .int .i64 k] F' = some (.ptr id (0 + k * 5), F') := fun F' => x_iax hk
    have hat : At F id (0 + k * 5) os[k].cells := by
      obtain ⟨_, ⟨e, _⟩ | ⟨id', off', cap', e1, e2, e3⟩⟩ := hown.sl none
      · cases e
      · simp only [V.slice.injEq] at e1
        obtain ⟨rfl, rfl, _, _⟩ := e1
        exact e3 k os[k].cells (by rw [List.getElem?_map, hok]; rfl)
    have l2 : ∀ F', Ext F F' → exec (.ld 1) [.ptr id (0 + k * 5 + 2)] F' = some (os[k].runes, F') := fun F' h => (hat.ext h).ld (j := 2) (v := os[k].runes) rfl 1
    have l3 : ∀ F', Ext F F' → exec (.ld 1) [.ptr id (0 + k * 5 + 3)] F' = some (os[k].set, F') := fun F' h => (hat.ext h).ld (j := 3) (v := os[k].set) rfl 1
    have l4 : ∀ F', Ext F F' → exec (.ld 1) [.ptr id (0 + k * 5 + 4)] F' = some (os[k].patch, F') := fun F' h => (hat.ext h).ld (j := 4) (v := os[k].patch) rfl 1
    have l20 := l2 F (Ext.refl F)
    have l30 := l3 F (Ext.refl F)
    have l40 := l4 F (Ext.refl F)
    -- the three stores
    have fin : ∀ (F3 : Heap) (rv sv pv : V) (k1 k2 k3 : Option Nat), Ext F F3 → WF F3 → Vec F3 rv 1 (os[k].rs.map fun r => [V.int .i32 r]) k1 → (∀ j, k1 = some j → F.next ≤ j) → (k1 = none → os[k].rs = []) → Vec F3 sv 5 (os[k].ats.map AttrA.cells) k2 → (∀ j, k2 = some j → F.next ≤ j) → (k2 = none → os[k].ats = []) →
        Vec F3 pv 6 (os[k].chs.map ChgA.cells) k3 → (∀ j, k3 = some j → F.next ≤ j) → (k3 = none → os[k].chs = []) →
        ∃ F4 F5 F6, exec (.st 1) [.ptr id (0 + k * 5 + 2), rv] F3 = some (.undef, F4) ∧ exec (.st 1) [.ptr id (0 + k * 5 + 3), sv] F4 = some (.undef, F5) ∧ exec (.st 1) [.ptr id (0 + k * 5 + 4), pv] F5 = some (.undef, F6) ∧
          ExtM (fun j => j = id) G F6 ∧ WF F6 ∧ ∃ os' : List OpA, os'.length = os.length ∧ Own F6 id 5 (os'.map OpA.cells) ∧ os'.map OpA.con = os.map OpA.con ∧ (∀ j : Nat, k + 1 ≤ j → os'[j]? = os[j]?) ∧ ∀ (j : Nat) o, j < k + 1 → os'[j]? = some o → Fz (fun j => j < H.next ∨ j = id) F6 fun G => o.In G := by
      intro F3 rv sv pv k1 k2 k3 h3 hw3 v1 f1 z1 v2 f2 z2 v3 f3 z3
      have h3n := h3.next
      have ho3 := hown.ext h3
      have hkm : k < (os'.map OpA.cells).length := by rw [List.length_map]; exact hk'
      obtain ⟨s1, w1⟩ := ho3.cell (k := k) (c := 2) hkm (by decide) v1.one.2 v1.one.1
      obtain ⟨s2, w2⟩ := w1.cell (k := k) (c := 3) (by simpa using hkm) (by decide) v2.one.2 v2.one.1
      obtain ⟨s3, w3⟩ := w2.cell (k := k) (c := 4) (by simpa using hkm) (by decide) v3.one.2 v3.one.1
      have hlist : (((os'.map OpA.cells).set k ((os'.map OpA.cells)[k].set 2 rv)).set k ((((os'.map OpA.cells).set k ((os'.map OpA.cells)[k].set 2 rv)))[k]'(by simpa using hkm) |>.set 3 sv)).set k (((((os'.map OpA.cells).set k ((os'.map OpA.cells)[k].set 2 rv)).set k ((((os'.map OpA.cells).set k ((os'.map OpA.cells)[k].set 2 rv)))[k]'(by simpa using hkm) |>.set 3 sv)))[k]'(by simpa using hkm) |>.set 4 pv) =
          (os'.set k ⟨os[k].kind, os[k].n, rv, sv, pv, os[k].rs, os[k].ats, os[k].chs⟩).map OpA.cells := by
        simp only [List.set_set, List.getElem_set_self, List.getElem_map, List.map_set, hkk]
        rfl
      rw [hlist] at s3 w3
      have hx6 : ∀ j, j ≠ id → ((((F3.set id (.row false 5 ((os'.map OpA.cells).set k ((os'.map OpA.cells)[k].set 2 rv)).flatten)).set id (.row false 5 (((os'.map OpA.cells).set k ((os'.map OpA.cells)[k].set 2 rv)).set k ((((os'.map OpA.cells).set k ((os'.map OpA.cells)[k].set 2 rv)))[k]'(by simpa using hkm) |>.set 3 sv)).flatten)).set id (.row false 5 ((os'.set k ⟨os[k].kind, os[k].n, rv, sv, pv, os[k].rs, os[k].ats, os[k].chs⟩).map OpA.cells).flatten))).get j = F3.get j := fun j hj => by
        rw [Heap.set_get, if_neg hj, Heap.set_get, if_neg hj, Heap.set_get, if_neg hj]
      have hw6 := ((hw3.set ho3.get (.row false 5 ((os'.map OpA.cells).set k ((os'.map OpA.cells)[k].set 2 rv)).flatten)).set w1.get (.row false 5 (((os'.map OpA.cells).set k ((os'.map OpA.cells)[k].set 2 rv)).set k ((((os'.map OpA.cells).set k ((os'.map OpA.cells)[k].set 2 rv)))[k]'(by simpa using hkm) |>.set 3 sv)).flatten)).set w2.get (.row false 5 ((os'.set k ⟨os[k].kind, os[k].n, rv, sv, pv, os[k].rs, os[k].ats, os[k].chs⟩).map OpA.cells).flatten)
      refine ⟨_, _, _, s1, s2, s3, ?_, hw6, os'.set k ⟨os[k].kind, os[k].n, rv, sv, pv, os[k].rs, os[k].ats, os[k].chs⟩, by simpa using hol', w3, ?_, ?_, ?_⟩
      · refine ⟨by simp only [Heap.set_gn]; rw [h3.gn, hF.gn], by simp only [Heap.set_next]; omega, fun j hj hm => ?_⟩
        rw [hx6 j hm, h3.get j (by omega), hF.get j hj hm]
      · rw [List.map_set, ← hcon]
        apply List.ext_getElem?
        intro j
        rw [List.getElem?_set]
        split
        · rename_i e
          subst e
          rw [if_pos (by simpa using hk'), List.getElem?_map, hok]
          rfl
        · rfl
      · intro j hj
        rw [List.getElem?_set_ne (by omega)]
        exact hback j (by omega)
      · intro j o hj hjo
        have hn6 : ((((F3.set id (.row false 5 ((os'.map OpA.cells).set k ((os'.map OpA.cells)[k].set 2 rv)).flatten)).set id (.row false 5 (((os'.map OpA.cells).set k ((os'.map OpA.cells)[k].set 2 rv)).set k ((((os'.map OpA.cells).set k ((os'.map OpA.cells)[k].set 2 rv)))[k]'(by simpa using hkm) |>.set 3 sv)).flatten)).set id (.row false 5 ((os'.set k ⟨os[k].kind, os[k].n, rv, sv, pv, os[k].rs, os[k].ats, os[k].chs⟩).map OpA.cells).flatten))).next = F3.next := rfl
        have hg6 : ((((F3.set id (.row false 5 ((os'.map OpA.cells).set k ((os'.map OpA.cells)[k].set 2 rv)).flatten)).set id (.row false 5 (((os'.map OpA.cells).set k ((os'.map OpA.cells)[k].set 2 rv)).set k ((((os'.map OpA.cells).set k ((os'.map OpA.cells)[k].set 2 rv)))[k]'(by simpa using hkm) |>.set 3 sv)).flatten)).set id (.row false 5 ((os'.set k ⟨os[k].kind, os[k].n, rv, sv, pv, os[k].rs, os[k].ats, os[k].chs⟩).map OpA.cells).flatten))).gn = F3.gn := rfl
        generalize ((((F3.set id (.row false 5 ((os'.map OpA.cells).set k ((os'.map OpA.cells)[k].set 2 rv)).flatten)).set id (.row false 5 (((os'.map OpA.cells).set k ((os'.map OpA.cells)[k].set 2 rv)).set k ((((os'.map OpA.cells).set k ((os'.map OpA.cells)[k].set 2 rv)))[k]'(by simpa using hkm) |>.set 3 sv)).flatten)).set id (.row false 5 ((os'.set k ⟨os[k].kind, os[k].n, rv, sv, pv, os[k].rs, os[k].ats, os[k].chs⟩).map OpA.cells).flatten))) = F6 at *
        have hFF : ExtM (fun j => j < H.next ∨ j = id) F F6 := ⟨by rw [hg6, h3.gn], by omega, fun j hj hm => by rw [hx6 j (fun q => hm (.inr q)), h3.get j hj]⟩
        by_cases hjk : j = k
        · subst hjk
          rw [List.getElem?_set_self hk'] at hjo
          cases hjo
          have fresh : ∀ {r : V} {sz : Nat} {es : List (List V)} {kk : Option Nat}, Vec F3 r sz es kk → (∀ j, kk = some j → F.next ≤ j) → (kk = none → es = []) → Fz (fun j => j < H.next ∨ j = id) F6 fun G => SL G r sz es := fun v f z =>
            v.fz z (by omega) fun i e => by
              have := f i e
              exact ⟨by omega, hx6 i (by omega)⟩
          have q1 := fresh v1 f1 (fun e => by rw [z1 e]; rfl)
          have q2 := fresh v2 f2 (fun e => by rw [z2 e]; rfl)
          have q3 := fresh v3 f3 (fun e => by rw [z3 e]; rfl)
          exact fun G' hx' => ⟨q1 _ hx', q2 _ hx', q3 _ hx', hin.rl, hin.al, hin.cl, hin.sa, hin.sc, hin.nlo, hin.nhi⟩
        · rw [List.getElem?_set_ne (by omega)] at hjo
          exact (hfz j o (by omega) hjo).step hFF (MGrow.refl _ _)
    have crs : ∀ F', Ext F F' → SCalls PP 93 [os[k].runes] F' fun r F2 => Ext F' F2 ∧ WF F2 ∧ ∃ k1, Vec F2 r 1 (os[k].rs.map fun r => [V.int .i32 r]) k1 ∧ (∀ j, k1 = some j → F.next ≤ j) ∧ (k1 = none → os[k].rs = []) := fun F' h =>
      SCalls.mono (cloneR_calls (hin.runes.ext h) hin.rl) fun r F2 ⟨q1, q2, k1, q3, q4, _, q5⟩ => ⟨q1, q2, k1, q3, fun j e => by have := q4 j e; have := h.next; omega, fun e => by simpa using q5 e⟩
    have cas : ∀ F', Ext F F' → SCalls PP 94 [os[k].set] F' fun r F2 => Ext F' F2 ∧ WF F2 ∧ ∃ k1, Vec F2 r 5 (os[k].ats.map AttrA.cells) k1 ∧ (∀ j, k1 = some j → F.next ≤ j) ∧ (k1 = none → os[k].ats = []) := fun F' h =>
      SCalls.mono (attrsCopy_calls (hin.set.ext h) hin.al) fun r F2 ⟨q1, q2, k1, q3, q4, q5⟩ => ⟨q1, q2, k1, q3, fun j e => by have := q4 j e; have := h.next; omega, q5⟩
    have cps : ∀ F', Ext F F' → SCalls PP 71 [os[k].patch] F' fun r F2 => Ext F' F2 ∧ WF F2 ∧ ∃ k1, Vec F2 r 6 (os[k].chs.map ChgA.cells) k1 ∧ (∀ j, k1 = some j → F.next ≤ j) ∧ (k1 = none → os[k].chs = []) := fun F' h =>
      SCalls.mono (patchCopy_calls (hin.patch.ext h) hin.cl) fun r F2 ⟨q1, q2, k1, q3, q4, q5⟩ => ⟨q1, q2, k1, q3, fun j e => by have := q4 j e; have := h.next; omega, q5⟩
    simp (maxSteps := 1000000) (implicitDefEqProofs := false) only [stp, if_true, if_false, Int.reduceEq, Int.reduceLT, Int.reduceLE, Int.reduceGT, Int.reduceGE, reduceCtorEq, Nat.reduceEqDiff, List.getElem?_cons_zero, List.getElem?_cons_succ, Option.map_some, copyRound, hia, l20, l30, l40]
    repeat' (with_reducible refine And.intro ?_ ?_)
    all_goals
      refine SCalls.mono (crs F (Ext.refl F)) ?_
      rintro rv F1 ⟨h1, hw1, k1, v1, f1, z1⟩
      have l31 := l3 F1 h1
      have l41 := l4 F1 h1
      simp (maxSteps := 1000000) (implicitDefEqProofs := false) only [stp, if_true, if_false, Int.reduceEq, Int.reduceLT, Int.reduceLE, Int.reduceGT, Int.reduceGE, reduceCtorEq, Nat.reduceEqDiff, List.getElem?_cons_zero, List.getElem?_cons_succ, Option.map_some, l31, l41]
      repeat' (with_reducible refine And.intro ?_ ?_)
      all_goals
        refine SCalls.mono (cas F1 h1) ?_
        rintro sv F2 ⟨h2, hw2, k2, v2, f2, z2⟩
        have l42 := l4 F2 (h1.trans h2)
        simp (maxSteps := 1000000) (implicitDefEqProofs := false) only [stp, if_true, if_false, Int.reduceEq, Int.reduceLT, Int.reduceLE, Int.reduceGT, Int.reduceGE, reduceCtorEq, Nat.reduceEqDiff, List.getElem?_cons_zero, List.getElem?_cons_succ, Option.map_some, l42]
        refine SCalls.mono (cps F2 (h1.trans h2)) ?_
        rintro pv F3 ⟨h3, hw3, k3, v3, f3, z3⟩
        obtain ⟨F4, F5, F6, e1, e2, e3, hJ⟩ := fin F3 rv sv pv k1 k2 k3 ((h1.trans h2).trans h3) hw3 ((v1.ext h2).ext h3) f1 z1 (v2.ext h3) f2 z2 v3 f3 z3
        simp (maxSteps := 1000000) (implicitDefEqProofs := false) only [stp, if_true, if_false, Int.reduceEq, Int.reduceLT, Int.reduceLE, Int.reduceGT, Int.reduceGE, reduceCtorEq, Nat.reduceEqDiff, List.getElem?_cons_zero, List.getElem?_cons_succ, Option.map_some, hia, e1, e2, e3]
        exact ⟨(), hJ, .cons rfl (.cons rfl (.cons rfl .nil))⟩
  · rintro _ F ⟨hF, hwF, os', hol', hown, hcon, hback, hfz⟩
    simp (maxSteps := 1000000) (implicitDefEqProofs := false) only [stp, if_true, if_false, Int.reduceEq, Int.reduceLT, Int.reduceLE, Int.reduceGT, Int.reduceGE, reduceCtorEq, Nat.reduceEqDiff, List.getElem?_cons_zero, List.getElem?_cons_succ, Option.map_some, if_true]
    have hFn := hF.next
    refine ⟨⟨hF.gn.trans hxG.gn, by omega, fun j hj => by rw [hF.get j (by omega) (by omega), hxG.get j hj]⟩, hwF, os', fun G' hx' => ?_, hcon⟩
    have hx2 : ExtM (fun j => j < H.next ∨ j = id) F G' := ⟨hx'.gn, hx'.next, fun j hj hm => hx'.get j hj (fun q => hm (.inl q))⟩
    have how := hown.extM hx' (by omega)
    refine ⟨?_, fun o ho => ?_, by rw [hol']; exact hx.len⟩
    · have := how.sl none
      rwa [List.length_map, hol'] at this
    · obtain ⟨j, hj⟩ := List.getElem?_of_mem ho
      have hjl := (List.getElem?_eq_some_iff.1 hj).1
      exact hfz j o (by omega) hj _ hx2
end Go.Proofs.YtbadbkdpnbacnaaDoor.Fw

/- The maker: New and Ops. No condition. -/
namespace Go.Proofs.YtbadbkdpnbacnaaDoor.Fw
open Go
set_option linter.unusedSimpArgs false
set_option linter.unusedVariables false

theorem newMk_calls (H : Heap) : SCalls PP 49 [] H fun r H' => Ext H H' ∧ WF H' ∧ ∃ p, r = .ptr p 0 ∧ H.next ≤ p ∧ MkI H' (fun j => j = p) p ⟨[], [], 0⟩ := by
  refine SCalls.go c49 (by simp [fn49]) fun hw => ?_
  have hb : exec (.build [.nils, .nils, .int .i64 0] []) [] H = some (.agg [.nils, .nils, .int .i64 0], H) := rfl
  have hx := x_box (H := H) (.agg [.nils, .nils, .int .i64 0]) rfl
  have hg := new_get H (.row false 3 [.nils, .nils, .int .i64 0])
  simp (maxSteps := 1000000) (implicitDefEqProofs := false) only [stp, if_true, if_false, Int.reduceEq, Int.reduceLT, Int.reduceLE, Int.reduceGT, Int.reduceGE, reduceCtorEq, Nat.reduceEqDiff, List.getElem?_cons_zero, List.getElem?_cons_succ, Option.map_some, fn49, enterFr, List.length, List.range, List.range.loop, List.zip, List.zipWith, hb, hx]
  refine ⟨(Ext.refl H).new _, hw.new _, H.next, rfl, Nat.le_refl _, .nils, .nils, [], [], none, none, none, Nat.lt_succ_self _, rfl, fun j e => by rw [e]; exact Nat.lt_succ_self _, hg, Vec.nil _ _, Vec.nil _ _, fun j e => (by cases e), fun j e => (by cases e), fun j e => (by cases e), fun j e => (by cases e), trivial, .inl ⟨rfl, rfl, rfl⟩, fun _ => rfl, fun _ => rfl⟩

/-- What a maker hands back. -/
def MkC.all (m : MkC) : List OpC := m.done ++ (m.ins ++ delO m.gone)
def trimO (l : List OpC) : List OpC := match l.getLast? with
  | some c => if c.kind = 1 ∧ c.chs = [] then l.dropLast else l
  | none => l
def MkC.ops (m : MkC) : List OpC := trimO m.all

theorem All2.list {α : Type} {β : Type} {γ : Type} {R : α → β → Prop} {Q : γ → Prop} {f : γ → α} {g : γ → β} (h : ∀ a b, R a b → ∃ o, f o = a ∧ g o = b ∧ Q o) : ∀ {l : List α} {k : List β}, All2 R l k → ∃ os : List γ, os.map f = l ∧ os.map g = k ∧ ∀ o ∈ os, Q o
  | [], [], _ => ⟨[], rfl, rfl, by simp⟩
  | a :: l, b :: k, ⟨h1, h2⟩ => by
    obtain ⟨o, q1, q2, q3⟩ := h a b h1
    obtain ⟨os, q4, q5, q6⟩ := All2.list h h2
    exact ⟨o :: os, by simp [q1, q4], by simp [q2, q5], fun x hx => by
      rcases List.mem_cons.1 hx with rfl | hx
      · exact q3
      · exact q6 x hx⟩
  | [], b :: k, q => q.elim
  | a :: l, [], q => q.elim
theorem mk_all {H : Heap} {M : Nat → Prop} {p : Nat} {m : MkC} {dv iv : V} {dcs ics : List (List V)} {dk ik rk : Option Nat} (h : MkP H M p m dv iv dcs ics dk ik rk) (hgo : m.gone ≤ 9223372036854775807) :
    ∃ os : List OpA, os.map OpA.cells = dcs ++ (ics ++ delC m.gone) ∧ os.map OpA.con = m.all ∧ ∀ o ∈ os, o.In H := by
  have conv : ∀ a b, OpZ M H a b → ∃ o : OpA, o.cells = a ∧ o.con = b ∧ o.In H := fun a b ⟨o, h1, h2, h3⟩ => ⟨o, h1.symm, h2, h3.here⟩
  obtain ⟨o1, a1, a2, a3⟩ := All2.list conv h.done
  obtain ⟨o3, c1, c2, c3⟩ := All2.list conv (delO_z M H m.gone hgo)
  have : ∃ o2 : List OpA, o2.map OpA.cells = ics ∧ o2.map OpA.con = m.ins ∧ ∀ o ∈ o2, o.In H := by
    rcases h.ins with ⟨e1, e2, _⟩ | ⟨ei, el, ci, cl, r, e1, e2, _, ha, hz⟩
    · exact ⟨[], e1.symm, e2.symm, by simp⟩
    · obtain ⟨ox, b1, b2, b3⟩ := All2.list conv ha
      obtain ⟨o, q1, q2, q3⟩ := hz.sl
      exact ⟨ox ++ [o], by simp [b1, e1, q1], by simp [b2, e2, q2], fun x hx => by
        rcases List.mem_append.1 hx with hx | hx
        · exact b3 x hx
        · simp at hx; subst hx; exact q3⟩
  obtain ⟨o2, b1, b2, b3⟩ := this
  refine ⟨o1 ++ (o2 ++ o3), by simp [a1, b1, c1], by simp [a2, b2, c2, MkC.all], fun o ho => ?_⟩
  rcases List.mem_append.1 ho with ho | ho
  · exact a3 o ho
  · rcases List.mem_append.1 ho with ho | ho
    · exact b3 o ho
    · exact c3 o ho
theorem bsl2 {H : Heap} {a b : V} (ha : a.cells = [a]) (ha1 : a.one = true) (hb : b.cells = [b]) (hb1 : b.one = true) : ∃ H', exec (.bsl 1 2 [.nils, .nils] [(0, 1), (1, 1)]) [a, b] H = some (.slice H.next 0 2 (some 2), H') ∧ Ext H H' ∧ (WF H → WF H') ∧ SL H' (.slice H.next 0 2 (some 2)) 1 [[a], [b]] := by
  refine ⟨H.new (.row false 1 [a, b]), ?_, (Ext.refl H).new _, fun hw => hw.new _, ?_⟩
  · have hf : fillA [V.nils, .nils] [((0, 1), a), ((1, 1), b)] = some [a, b] := by
      simp only [fillA, ha, hb]
      rfl
    simp only [exec, List.length_cons, List.length_nil, if_true, List.zip_cons_cons, List.zip_nil_right, hf, Option.bind_some, List.all_cons, List.all_nil, ha1, hb1, Bool.and_self]
  · have ow : Own (H.new (.row false 1 [a, b])) H.next 1 [[a], [b]] := ⟨Nat.lt_succ_self _, by rw [new_get]; simp, by simp [ha1, hb1]⟩
    exact ow.sl (some 2)
theorem SL.upto {H : Heap} {id off n : Nat} {c c' : Option Nat} {sz : Nat} {es : List (List V)} (h : SL H (.slice id off n c) sz es) {m : Nat} (hm : m ≤ es.length) : SL H (.slice id (off + 0 * sz) (m - 0) c') sz (es.take m) := by
  obtain ⟨h0, ⟨e, _⟩ | ⟨id', off', cap', e1, e2, e3⟩⟩ := h
  · cases e
  · simp only [V.slice.injEq] at e1
    obtain ⟨rfl, rfl, _, _⟩ := e1
    refine ⟨fun e he => h0 e (List.mem_of_mem_take he), .inr ⟨_, _, _, by rw [List.length_take, Nat.min_eq_left hm, Nat.sub_zero], e2, fun i e he => ?_⟩⟩
    rw [List.getElem?_take] at he
    split at he
    · have := e3 i e he
      rwa [Nat.zero_mul, Nat.add_zero]
    · cases he

set_option maxRecDepth 20000 in
set_option maxHeartbeats 4000000 in
theorem ops_calls {H : Heap} {M : Nat → Prop} {p : Nat} {m : MkC} (h : MkI H M p m) (hl : m.done.length + m.ins.length + 3 ≤ big) (hgo : m.gone ≤ 9223372036854775807) :
    SCalls PP 53 [.ptr p 0] H fun r H' => Ext H H' ∧ WF H' ∧ ∃ os, Fresh H.next H' r os ∧ os.map OpA.con = m.ops := by
  refine SCalls.go c53 (by simp [fn53]) fun hw => ?_
  obtain ⟨dv, iv, dcs, ics, dk, ik, rk, h⟩ := h
  unfold big at hl
  have hnp : exec (.eqnil 0 false) [.ptr p 0, .nilp] H = some (.bool false, H) := rfl
  have hil := h.ins.len
  have hdl := h.done.length
  have hdc : (delC m.gone).length ≤ 1 := by unfold delC; split <;> simp
  have l0 := h.at3.ld (j := 0) (v := dv) rfl 1
  obtain ⟨os, o1, o2, o3⟩ := mk_all h hgo
  have hosl : os.length ≤ big := by
    have := congrArg List.length o1
    simp only [List.length_map, List.length_append] at this
    unfold big; omega
  simp (maxSteps := 1000000) (implicitDefEqProofs := false) only [stp, if_true, if_false, Int.reduceEq, Int.reduceLT, Int.reduceLE, Int.reduceGT, Int.reduceGE, reduceCtorEq, Nat.reduceEqDiff, List.getElem?_cons_zero, List.getElem?_cons_succ, Option.map_some, fn53, enterFr, List.length, List.range, List.range.loop, List.zip, List.zipWith, hnp, l0]
  refine ⟨?_, ?_⟩
  all_goals
    refine SCalls.mono (gap_calls h (by unfold big; omega)) ?_
    rintro gv G ⟨hx, hwG, k, hv, hk, hk0⟩
    have l0' := (h.at3.ext hx).ld (j := 0) (v := dv) rfl 1
    obtain ⟨G2, b1, b2, b3, b4⟩ := bsl2 (H := G) h.dvec.one.2 h.dvec.one.1 hv.one.2 hv.one.1
    simp (maxSteps := 1000000) (implicitDefEqProofs := false) only [stp, if_true, if_false, Int.reduceEq, Int.reduceLT, Int.reduceLE, Int.reduceGT, Int.reduceGE, reduceCtorEq, Nat.reduceEqDiff, List.getElem?_cons_zero, List.getElem?_cons_succ, Option.map_some, l0', b1]
    refine SCalls.mono (concat_calls (vs := [(dv, dcs), (gv, ics ++ delC m.gone)]) (H := G2) b4 (fun q hq => ?_) ?_ (by simp [big])) ?_
    · simp only [List.mem_cons, List.not_mem_nil, or_false] at hq
      rcases hq with rfl | rfl
      · exact (h.dvec.sl.ext hx).ext b2
      · exact hv.sl.ext b2
    · simp only [lens, List.map_cons, List.map_nil, List.sum_cons, List.sum_nil, List.length_append]
      unfold big; omega
    rintro r G3 ⟨hx3, hw3, kk, hvv, hkk, hk00⟩
    have hj : joined [(dv, dcs), (gv, ics ++ delC m.gone)] = os.map OpA.cells := by simp [joined, o1]
    rw [hj] at hvv hk00
    have hH3 : Ext H G3 := (hx.trans b2).trans hx3
    have hin3 : ∀ o ∈ os, o.In G3 := fun o ho => (o3 o ho).ext hH3
    have hlen : exec .len [r] G3 = some (.int .i64 os.length, G3) := by have := hvv.len G3; rwa [List.length_map] at this
    have hw1 : IntKind.i64.wrap ((os.length : Int) - 1) = (os.length : Int) - 1 := wrap_i64 (by unfold big at hosl; omega) (by unfold big at hosl; omega)
    have copy : ∀ (l : V) (os2 : List OpA), OpsIn G3 l os2 → os2.map OpA.con = m.ops → ∀ K : V → Heap → Prop, (∀ r H', (Ext H H' ∧ WF H' ∧ ∃ os, Fresh H.next H' r os ∧ os.map OpA.con = m.ops) → K r H') → SCalls PP 74 [l] G3 K := by
      intro l os2 hop hcon K hK
      refine SCalls.mono (copy_calls hop) ?_
      rintro r H' ⟨q1, q2, os', q3, q4⟩
      refine hK r H' ⟨hH3.trans q1, q2, os', fun G' hx' => q3 G' ⟨hx'.gn, hx'.next, fun j hj hm => hx'.get j hj (fun q => hm (by have := hH3.next; omega))⟩, by rw [q4, hcon]⟩
    rcases List.eq_nil_or_concat os with hos | ⟨oi, ol, hos⟩
    · subst hos
      have hlt : ¬ ((([] : List OpA).length : Int) - 1 ≥ 0) := by simp
      simp only [List.length_nil, Int.natCast_zero] at hlt hw1 hlen
      simp (maxSteps := 1000000) (implicitDefEqProofs := false) only [stp, if_true, if_false, Int.reduceEq, Int.reduceLT, Int.reduceLE, Int.reduceGT, Int.reduceGE, reduceCtorEq, Nat.reduceEqDiff, List.getElem?_cons_zero, List.getElem?_cons_succ, Option.map_some, hlen, hw1, hlt]
      refine copy r [] ⟨hvv.sl, by simp, by simp⟩ ?_ _ fun r H' q => ?_
      · have : m.all = [] := by rw [← o2]; rfl
        rw [MkC.ops, this]
        rfl
      · simp (maxSteps := 1000000) (implicitDefEqProofs := false) only [stp, if_true, if_false, Int.reduceEq, Int.reduceLT, Int.reduceLE, Int.reduceGT, Int.reduceGE, reduceCtorEq, Nat.reduceEqDiff, List.getElem?_cons_zero, List.getElem?_cons_succ, Option.map_some, if_true]
        exact q
    · rw [List.concat_eq_append] at hos
      obtain ⟨i, hki, hri, hoi⟩ := hvv.some hk00 (by rw [hos]; simp)
      rw [List.length_map] at hri
      have hol : os.length = oi.length + 1 := by rw [hos, List.length_append]; rfl
      have hw1' : IntKind.i64.wrap ((os.length : Int) - 1) = ((oi.length : Nat) : Int) := by rw [hw1]; omega
      have hge : ((oi.length : Nat) : Int) ≥ 0 := by omega
      have hia := x_iax (H := G3) (id := i) (n := os.length) (i := oi.length) (sz := 5) (by omega)
      rw [← hri] at hia
      have hat : At G3 i (0 + oi.length * 5) ol.cells := by
        obtain ⟨_, ⟨e, _⟩ | ⟨id', off', cap', e1, e2, e3⟩⟩ := hoi.sl none
        · cases e
        · simp only [V.slice.injEq] at e1
          obtain ⟨rfl, rfl, _, _⟩ := e1
          exact e3 oi.length ol.cells (by rw [hos]; simp)
      have l1 := hat.ld (j := 0) (v := .int .u8 ol.kind) rfl 1
      have l4 := hat.ld (j := 4) (v := ol.patch) rfl 1
      have hlp : exec .len [ol.patch] G3 = some (.int .i64 ol.chs.length, G3) := by have := (hin3 ol (by rw [hos]; simp)).patch.len (H' := G3); rwa [List.length_map] at this
      have hgl : m.all.getLast? = some ol.con := by rw [← o2, hos]; simp
      have whole : ¬ (ol.kind = 1 ∧ ol.chs = []) → os.map OpA.con = m.ops := fun hn => by
        rw [MkC.ops, trimO, hgl, o2]
        exact (if_neg hn).symm
      have hopw : OpsIn G3 r os := ⟨hvv.sl, hin3, hosl⟩
      by_cases hk1 : ol.kind = 1
      · by_cases hc0 : ol.chs = []
        · have hc0' : (ol.chs.length : Int) = 0 := by rw [hc0]; rfl
          have hsl := x_slc_hi (H := G3) (n := os.length) (i := oi.length) hoi.get (by omega)
          rw [← hri] at hsl
          simp (maxSteps := 1000000) (implicitDefEqProofs := false) only [stp, if_true, if_false, Int.reduceEq, Int.reduceLT, Int.reduceLE, Int.reduceGT, Int.reduceGE, reduceCtorEq, Nat.reduceEqDiff, List.getElem?_cons_zero, List.getElem?_cons_succ, Option.map_some, hlen, hw1', hge, hia, l1, hk1, l4, hlp, hc0', hsl]
          refine copy _ (os.take oi.length) ⟨?_, fun o ho => hin3 o (List.mem_of_mem_take ho), by rw [List.length_take]; omega⟩ ?_ _ fun r H' q => ?_
          · have hs := hvv.sl
            rw [hri] at hs
            rw [List.map_take]
            exact hs.upto (by rw [List.length_map]; omega)
          · rw [MkC.ops, trimO, hgl]
            simp only
            rw [if_pos ⟨hk1, hc0⟩, ← o2, hos]
            simp
          · simp (maxSteps := 1000000) (implicitDefEqProofs := false) only [stp, if_true, if_false, Int.reduceEq, Int.reduceLT, Int.reduceLE, Int.reduceGT, Int.reduceGE, reduceCtorEq, Nat.reduceEqDiff, List.getElem?_cons_zero, List.getElem?_cons_succ, Option.map_some, if_true]
            exact q
        · have hc0' : ¬ (ol.chs.length : Int) = 0 := fun q => hc0 (List.length_eq_zero_iff.1 (by omega))
          simp (maxSteps := 1000000) (implicitDefEqProofs := false) only [stp, if_true, if_false, Int.reduceEq, Int.reduceLT, Int.reduceLE, Int.reduceGT, Int.reduceGE, reduceCtorEq, Nat.reduceEqDiff, List.getElem?_cons_zero, List.getElem?_cons_succ, Option.map_some, hlen, hw1', hge, hia, l1, hk1, l4, hlp, hc0']
          refine copy r os hopw (whole fun q => hc0 q.2) _ fun r H' q => ?_
          simp (maxSteps := 1000000) (implicitDefEqProofs := false) only [stp, if_true, if_false, Int.reduceEq, Int.reduceLT, Int.reduceLE, Int.reduceGT, Int.reduceGE, reduceCtorEq, Nat.reduceEqDiff, List.getElem?_cons_zero, List.getElem?_cons_succ, Option.map_some, if_true]
          exact q
      · simp (maxSteps := 1000000) (implicitDefEqProofs := false) only [stp, if_true, if_false, Int.reduceEq, Int.reduceLT, Int.reduceLE, Int.reduceGT, Int.reduceGE, reduceCtorEq, Nat.reduceEqDiff, List.getElem?_cons_zero, List.getElem?_cons_succ, Option.map_some, hlen, hw1', hge, hia, l1, hk1]
        refine copy r os hopw (whole fun q => hk1 q.1) _ fun r H' q => ?_
        simp (maxSteps := 1000000) (implicitDefEqProofs := false) only [stp, if_true, if_false, Int.reduceEq, Int.reduceLT, Int.reduceLE, Int.reduceGT, Int.reduceGE, reduceCtorEq, Nat.reduceEqDiff, List.getElem?_cons_zero, List.getElem?_cons_succ, Option.map_some, if_true]
        exact q
end Go.Proofs.YtbadbkdpnbacnaaDoor.Fw

/- What functions of the program answer: whether inserts are in place. No condition. -/
namespace Go.Proofs.YtbadbkdpnbacnaaDoor.Fw
open Go
set_option linter.unusedSimpArgs false
set_option linter.unusedVariables false

theorem part_calls {s x : V} {H : Heap} {ks : List KeyA} {l : List AttrA} (hs : Sch H s ks) (hx : SL H x 5 (l.map AttrA.cells)) (hl : l.length ≤ big) (b : Bool) :
    SCalls PP 32 [s, x, .bool b] H fun r H' => Ext H H' ∧ WF H' ∧ ∀ H'', exec .len [r] H'' = some (.int .i64 (keepN (outA ks b) l), H'') := by
  refine SCalls.go c32 (by simp [fn32]) fun hw => ?_
  have hso : s.one = true := by obtain ⟨p, sl, mid, rfl, _⟩ := hs.is; rfl
  have hsc : s.cells = [s] := by obtain ⟨p, sl, mid, rfl, _⟩ := hs.is; rfl
  have hb1 : exec .box [s] H = some (.ptr H.next 0, H.new (.row false 1 [s])) := by
    have := x_box H s (by rw [hsc]; simp [hso])
    rw [hsc] at this; exact this
  have hx1 : Ext H (H.new (.row false 1 [s])) := (Ext.refl H).new _
  have hw1 : WF (H.new (.row false 1 [s])) := hw.new _
  have ha1 : At (H.new (.row false 1 [s])) H.next 0 [s] := ⟨Nat.lt_succ_self _, false, 1, [s], new_get _ _, by simp, fun j v hj => by rw [Nat.zero_add]; exact hj⟩
  generalize hG : H.new (.row false 1 [s]) = G1 at *
  have hb2 : exec .box [.bool b] G1 = some (.ptr G1.next 0, G1.new (.row false 1 [.bool b])) := rfl
  have hx2 : Ext G1 (G1.new (.row false 1 [.bool b])) := (Ext.refl G1).new _
  have hw2 : WF (G1.new (.row false 1 [.bool b])) := hw1.new _
  have ha2 : At (G1.new (.row false 1 [.bool b])) G1.next 0 [.bool b] := ⟨Nat.lt_succ_self _, false, 1, [.bool b], new_get _ _, by simp, fun j v hj => by rw [Nat.zero_add]; exact hj⟩
  generalize hG2 : G1.new (.row false 1 [.bool b]) = G2 at *
  have hxx := hx1.trans hx2
  simp only [fn32, enterFr, List.length, List.range, List.range.loop, List.zip, List.zipWith, stp, if_true, if_false, Int.reduceEq, Int.reduceLT, Int.reduceLE, Int.reduceGT, Int.reduceGE, reduceCtorEq, Nat.reduceEqDiff, List.getElem?_cons_zero, List.getElem?_cons_succ, Option.map_some, hb1, hb2, hG, hG2]
  refine SCalls.mono (cloneA_calls (hx.ext hxx) (by rw [List.length_map]; exact hl)) ?_
  rintro r H3 ⟨hx3, hw3, hr⟩
  simp only [stp, if_true, if_false, Int.reduceEq, Int.reduceLT, Int.reduceLE, Int.reduceGT, Int.reduceGE, reduceCtorEq, Nat.reduceEqDiff, List.getElem?_cons_zero, List.getElem?_cons_succ, Option.map_some, List.take_zero, List.drop_zero]
  have hdel := deleteFunc_calls (x := r) (c1 := .ptr H.next 0) (c2 := .ptr G1.next 0) (G := G2) (H := H3) (l := l) (d := outA ks b) hx3 hw3 hl (by
    rcases hr with ⟨h1, h2⟩ | ⟨id, h1, h2, h3⟩
    · exact .inl ⟨List.map_eq_nil_iff.1 h1, h2⟩
    · exact .inr ⟨id, h1, h2, h3⟩) (fun H' hH' a _ => part1_calls ((hs.ext hxx).ext hH') ((ha1.ext hx2).ext hH') (ha2.ext hH') a)
  refine SCalls.mono hdel ?_
  rintro r2 H4 ⟨g1, g2, g3⟩
  simp only [stp, if_true, if_false, Int.reduceEq, Int.reduceLT, Int.reduceLE, Int.reduceGT, Int.reduceGE, reduceCtorEq, Nat.reduceEqDiff, List.getElem?_cons_zero, List.getElem?_cons_succ, Option.map_some]
  exact ⟨hxx.trans g1, g2, g3⟩

/-- Whether an op is in place. -/
def placeO (ks : List KeyA) (o : OpA) : Bool :=
  if o.kind ≠ 2 then true
  else if o.ats.length = 0 then true
  else !((decide (0 < keepN (outA ks true) o.ats) || decide (0 < nlF 0 o.rs)) && (decide (keepN (outA ks true) o.ats < o.ats.length) || decide (nlF 0 o.rs < o.rs.length)))
def placeF (ks : List KeyA) : List OpA → Bool
  | [] => true
  | o :: os => placeO ks o && placeF ks os

set_option maxRecDepth 20000 in
set_option maxHeartbeats 2000000 in
theorem inPlace_calls {s x : V} {H : Heap} {ks : List KeyA} {os : List OpA} (hs : Sch H s ks) (hx : OpsIn H x os) : SCalls PP 14 [s, x] H fun r H' => H' = H ∧ r = .bool (placeF ks os) := by
  refine SCalls.keep (R := fun r => r = .bool (placeF ks os)) (SCalls.go c14 (by simp [fn14]) fun hw => ?_)
  have hb := hx.len
  simp only [fn14, enterFr, List.length, List.range, List.range.loop, List.zip, List.zipWith, stp, if_true, if_false, Int.reduceEq, Int.reduceLT, Int.reduceLE, Int.reduceGT, Int.reduceGE, reduceCtorEq, Nat.reduceEqDiff, List.getElem?_cons_zero, List.getElem?_cons_succ, Option.map_some, hx.sl.len]
  refine wp_range SCalls.scMono (by simp only [List.length_map]; unfold big at hb; omega) (fun _ : Unit => [(9, x), (0, s)]) (fun k _ H' => placeF ks (os.drop k) = placeF ks os ∧ Ext H H' ∧ WF H') () ⟨rfl, Ext.refl H, hw⟩
    (.cons rfl (.cons rfl (.cons rfl (.cons rfl .nil)))) (by decide) (fun s => ⟨rfl, rfl, rfl⟩) ?_ ?_
  · rintro k _ H' hk ⟨hacc, hext, hwf⟩
    rw [List.length_map] at hk
    simp only [s_seq, s_region]
    refine wp_elem hx.sl hext hwf (k := k) (e := os[k].cells) (by simp [hk]) rfl rfl rfl rfl (by decide) fun q id o H2 hx2 hw2 ha2 _ => ?_
    have hin := (hx.ins _ (List.getElem_mem hk)).ext hx2
    have l0 := ha2.ld (j := 0) (v := .int .u8 os[k].kind) rfl 1
    have l2 := ha2.ld (j := 2) (v := os[k].runes) rfl 1
    have l3 := ha2.ld (j := 3) (v := os[k].set) rfl 1
    have n3 : ∀ H, exec .len [os[k].set] H = some (.int .i64 os[k].ats.length, H) := fun H => by have := hin.set.len (H' := H); rwa [List.length_map] at this
    have n2 : ∀ H, exec .len [os[k].runes] H = some (.int .i64 os[k].rs.length, H) := fun H => by have := hin.runes.len (H' := H); rwa [List.length_map] at this
    rw [List.drop_eq_getElem_cons hk] at hacc
    simp only [placeF] at hacc
    have stay : placeO ks os[k] = true → placeF ks (os.drop (k + 1)) = placeF ks os := fun h => by rw [h, Bool.true_and] at hacc; exact hacc
    have stop : placeO ks os[k] = false → false = placeF ks os := fun h => by rw [h, Bool.false_and] at hacc; exact hacc
    by_cases k2 : os[k].kind = 2
    · by_cases a0 : (os[k].ats.length : Int) = 0
      · have a0' : os[k].ats.length = 0 := by omega
        simp only [stp, if_true, if_false, Int.reduceEq, Int.reduceLT, Int.reduceLE, Int.reduceGT, Int.reduceGE, reduceCtorEq, Nat.reduceEqDiff, List.getElem?_cons_zero, List.getElem?_cons_succ, Option.map_some, l0, l3, n3, k2, a0, Bool.false_eq_true]
        exact ⟨(), ⟨stay (by simp [placeO, a0']), hx2, hw2⟩, .cons rfl (.cons rfl (.cons rfl (.cons rfl .nil)))⟩
      · have a0' : ¬ os[k].ats.length = 0 := by omega
        have hP : placeO ks os[k] = !((decide (0 < keepN (outA ks true) os[k].ats) || decide (0 < nlF 0 os[k].rs)) && (decide (keepN (outA ks true) os[k].ats < os[k].ats.length) || decide (nlF 0 os[k].rs < os[k].rs.length))) := by
          unfold placeO; rw [if_neg (by simp [k2]), if_neg a0']
        have tail : ∀ (H3 : Heap), Ext H H3 → WF H3 → Ext H2 H3 → True := fun _ _ _ _ => trivial
        simp only [stp, if_true, if_false, Int.reduceEq, Int.reduceLT, Int.reduceLE, Int.reduceGT, Int.reduceGE, reduceCtorEq, Nat.reduceEqDiff, List.getElem?_cons_zero, List.getElem?_cons_succ, Option.map_some, l0, l2, l3, n3, k2, a0, Bool.false_eq_true]
        constructor
        · refine SCalls.mono (part_calls (hs.ext hx2) hin.set hin.al true) ?_
          rintro r H3 ⟨g1, g2, g3⟩
          have hin3 := hin.ext g1
          have l23 := (ha2.ext g1).ld (j := 2) (v := os[k].runes) rfl 1
          have l33 := (ha2.ext g1).ld (j := 3) (v := os[k].set) rfl 1
          simp only [stp, if_true, if_false, Int.reduceEq, Int.reduceLT, Int.reduceLE, Int.reduceGT, Int.reduceGE, reduceCtorEq, Nat.reduceEqDiff, List.getElem?_cons_zero, List.getElem?_cons_succ, Option.map_some, g3, l23]
          refine SCalls.mono (newlines_calls hin3.runes hin.rl) ?_
          rintro r4 H4 ⟨rfl, rfl⟩
          generalize keepN (outA ks true) os[k].ats = kn at *
          generalize nlF 0 os[k].rs = nl at *
          by_cases p1 : (kn : Int) > 0 <;> by_cases p2 : nl > 0 <;> by_cases p3 : (kn : Int) < (os[k].ats.length : Int) <;> by_cases p4 : nl < (os[k].rs.length : Int)
          all_goals
            simp only [stp, if_true, if_false, Int.reduceEq, Int.reduceLT, Int.reduceLE, Int.reduceGT, Int.reduceGE, reduceCtorEq, Nat.reduceEqDiff, List.getElem?_cons_zero, List.getElem?_cons_succ, Option.map_some, p1, p2, p3, p4, l33, l23, n3, n2, Bool.false_eq_true]
            first
              | exact ⟨(), ⟨stay (by rw [hP]; simp; omega), hx2.trans g1, g2⟩, .cons rfl (.cons rfl (.cons rfl (.cons rfl .nil)))⟩
              | exact ⟨hx2.trans g1, congrArg V.bool (stop (by rw [hP]; simp; omega)), rfl⟩
        · refine SCalls.mono (part_calls (hs.ext hx2) hin.set hin.al true) ?_
          rintro r H3 ⟨g1, g2, g3⟩
          have hin3 := hin.ext g1
          have l23 := (ha2.ext g1).ld (j := 2) (v := os[k].runes) rfl 1
          have l33 := (ha2.ext g1).ld (j := 3) (v := os[k].set) rfl 1
          simp only [stp, if_true, if_false, Int.reduceEq, Int.reduceLT, Int.reduceLE, Int.reduceGT, Int.reduceGE, reduceCtorEq, Nat.reduceEqDiff, List.getElem?_cons_zero, List.getElem?_cons_succ, Option.map_some, g3, l23]
          refine SCalls.mono (newlines_calls hin3.runes hin.rl) ?_
          rintro r4 H4 ⟨rfl, rfl⟩
          generalize keepN (outA ks true) os[k].ats = kn at *
          generalize nlF 0 os[k].rs = nl at *
          by_cases p1 : (kn : Int) > 0 <;> by_cases p2 : nl > 0 <;> by_cases p3 : (kn : Int) < (os[k].ats.length : Int) <;> by_cases p4 : nl < (os[k].rs.length : Int)
          all_goals
            simp only [stp, if_true, if_false, Int.reduceEq, Int.reduceLT, Int.reduceLE, Int.reduceGT, Int.reduceGE, reduceCtorEq, Nat.reduceEqDiff, List.getElem?_cons_zero, List.getElem?_cons_succ, Option.map_some, p1, p2, p3, p4, l33, l23, n3, n2, Bool.false_eq_true]
            first
              | exact ⟨(), ⟨stay (by rw [hP]; simp; omega), hx2.trans g1, g2⟩, .cons rfl (.cons rfl (.cons rfl (.cons rfl .nil)))⟩
              | exact ⟨hx2.trans g1, congrArg V.bool (stop (by rw [hP]; simp; omega)), rfl⟩
    · simp only [stp, if_true, if_false, Int.reduceEq, Int.reduceLT, Int.reduceLE, Int.reduceGT, Int.reduceGE, reduceCtorEq, Nat.reduceEqDiff, List.getElem?_cons_zero, List.getElem?_cons_succ, Option.map_some, l0, k2, Bool.false_eq_true]
      exact ⟨(), ⟨stay (by simp [placeO, k2]), hx2, hw2⟩, .cons rfl (.cons rfl (.cons rfl (.cons rfl .nil)))⟩
  · rintro _ H' ⟨hacc, hext, hwf⟩
    simp only [stp, if_true, if_false, Int.reduceEq, Int.reduceLT, Int.reduceLE, Int.reduceGT, Int.reduceGE, reduceCtorEq, Nat.reduceEqDiff, List.getElem?_cons_zero, List.getElem?_cons_succ, Option.map_some]
    rw [List.length_map, List.drop_length] at hacc
    exact ⟨hext, congrArg V.bool hacc, rfl⟩
end Go.Proofs.YtbadbkdpnbacnaaDoor.Fw

/- What functions of the program answer: sizes (that they end, and leave all as it was). No condition. -/
namespace Go.Proofs.YtbadbkdpnbacnaaDoor.Fw
open Go
set_option linter.unusedSimpArgs false
set_option linter.unusedVariables false

set_option maxRecDepth 20000 in
set_option maxHeartbeats 2000000 in
theorem refSize_calls {x : V} {H : Heap} {os : List OpA} (hx : OpsIn H x os) : SCalls PP 23 [x] H fun r H' => H' = H ∧ ∃ n, r = .int .i64 n := by
  refine SCalls.go c23 (by simp [fn23]) fun hw => ?_
  have hb := hx.len
  unfold big at hb
  simp only [fn23, enterFr, List.length, List.range, List.range.loop, List.zip, List.zipWith, stp, if_true, if_false, Int.reduceEq, Int.reduceLT, Int.reduceLE, Int.reduceGT, Int.reduceGE, reduceCtorEq, Nat.reduceEqDiff, List.getElem?_cons_zero, List.getElem?_cons_succ, Option.map_some]
  refine wp_loopI (fun m fr H' => ∃ (k : Nat) (n : Int), k ≤ os.length ∧ m = os.length - k ∧ H' = H ∧ FrSub [(3, .int .i64 n), (4, .int .i64 k), (0, x)] fr) os.length ⟨0, 0, Nat.zero_le _, rfl, rfl, .cons rfl (.cons rfl (.cons rfl .nil))⟩ ?_
  rintro m fr H' ⟨k, n, hk, rfl, rfl, hsub⟩
  refine ⟨_, hsub, ?_⟩
  have hlen : exec .len [x] H' = some (.int .i64 os.length, H') := by have := hx.sl.len (H' := H'); rwa [List.length_map] at this
  by_cases hlt : k < os.length
  · have hlt' : (k : Int) < (os.length : Int) := by omega
    have hwk : IntKind.i64.wrap ((k : Int) + 1) = ((k + 1 : Nat) : Int) := by rw [wrap_i64 (by omega) (by omega)]; omega
    obtain ⟨id, o, hia, hat⟩ := hx.sl.ia (H' := H') (i := k) (e := os[k].cells) (by simp [hlt]) .i64
    have hin := hx.ins _ (List.getElem_mem hlt)
    have l2 := hat.ld (j := 2) (v := os[k].runes) rfl 1
    have l3 := hat.ld (j := 3) (v := os[k].set) rfl 1
    have l4 := hat.ld (j := 4) (v := os[k].patch) rfl 1
    have n2 : exec .len [os[k].runes] H' = some (.int .i64 os[k].rs.length, H') := by have := hin.runes.len (H' := H'); rwa [List.length_map] at this
    have n3 : exec .len [os[k].set] H' = some (.int .i64 os[k].ats.length, H') := by have := hin.set.len (H' := H'); rwa [List.length_map] at this
    have n4 : exec .len [os[k].patch] H' = some (.int .i64 os[k].chs.length, H') := by have := hin.patch.len (H' := H'); rwa [List.length_map] at this
    have hal := hin.al
    have hcl := hin.cl
    unfold big at hal hcl
    simp only [stp, if_true, if_false, Int.reduceEq, Int.reduceLT, Int.reduceLE, Int.reduceGT, Int.reduceGE, reduceCtorEq, Nat.reduceEqDiff, List.getElem?_cons_zero, List.getElem?_cons_succ, Option.map_some, hlen, hlt', hia, l2, l3, l4, n2, n3, n4]
    refine wp_loopI (fun m fr G => ∃ (j : Nat) (n : Int), j ≤ os[k].ats.length ∧ m = os[k].ats.length - j ∧ G = H' ∧ FrSub [(3, .int .i64 n), (5, .int .i64 j), (4, .int .i64 k), (0, x)] fr) os[k].ats.length ⟨0, _, Nat.zero_le _, rfl, rfl, .cons rfl (.cons rfl (.cons rfl (.cons rfl .nil)))⟩ ?_
    rintro m fr1 G ⟨j, n1, hj, rfl, rfl, hsub1⟩
    refine ⟨_, hsub1, ?_⟩
    by_cases hjl : j < os[k].ats.length
    · have hjl' : (j : Int) < (os[k].ats.length : Int) := by omega
      have hwj : IntKind.i64.wrap ((j : Int) + 1) = ((j + 1 : Nat) : Int) := by rw [wrap_i64 (by omega) (by omega)]; omega
      obtain ⟨id2, o2, hia2, hat2⟩ := hin.set.ia (H' := G) (i := j) (e := os[k].ats[j].cells) (by simp [hjl]) .i64
      have hat2v : At G id2 (o2 + 1) os[k].ats[j].val.cells := At.tail (a := [.int .i64 os[k].ats[j].key]) hat2
      have ls := hat2v.ld (j := 3) (v := .str os[k].ats[j].val.s) rfl 1
      simp only [stp, if_true, if_false, Int.reduceEq, Int.reduceLT, Int.reduceLE, Int.reduceGT, Int.reduceGE, reduceCtorEq, Nat.reduceEqDiff, List.getElem?_cons_zero, List.getElem?_cons_succ, Option.map_some, hia, l3, n3, hjl', hia2, ls, hwj]
      exact ⟨os[k].ats.length - (j + 1), by omega, j + 1, _, by omega, rfl, by trivial, .cons rfl (.cons rfl (.cons rfl (.cons rfl .nil)))⟩
    · have hjl' : ¬ (j : Int) < (os[k].ats.length : Int) := by omega
      simp only [stp, if_true, if_false, Int.reduceEq, Int.reduceLT, Int.reduceLE, Int.reduceGT, Int.reduceGE, reduceCtorEq, Nat.reduceEqDiff, List.getElem?_cons_zero, List.getElem?_cons_succ, Option.map_some, hia, l3, n3, hjl', Bool.false_eq_true]
      refine wp_loopI (fun m fr G2 => ∃ (j : Nat) (n : Int), j ≤ os[k].chs.length ∧ m = os[k].chs.length - j ∧ G2 = G ∧ FrSub [(3, .int .i64 n), (6, .int .i64 j), (4, .int .i64 k), (0, x)] fr) os[k].chs.length ⟨0, n1, Nat.zero_le _, rfl, rfl, .cons rfl (.cons rfl (.cons rfl (.cons rfl .nil)))⟩ ?_
      rintro m fr2 G2 ⟨j2, n2', hj2, rfl, rfl, hsub2⟩
      refine ⟨_, hsub2, ?_⟩
      by_cases hjl2 : j2 < os[k].chs.length
      · have hjl2' : (j2 : Int) < (os[k].chs.length : Int) := by omega
        have hwj : IntKind.i64.wrap ((j2 : Int) + 1) = ((j2 + 1 : Nat) : Int) := by rw [wrap_i64 (by omega) (by omega)]; omega
        obtain ⟨id2, o2, hia2, hat2⟩ := hin.patch.ia (H' := G2) (i := j2) (e := os[k].chs[j2].cells) (by simp [hjl2]) .i64
        have hat2v : At G2 id2 (o2 + 2) os[k].chs[j2].val.cells := At.tail (a := [.int .i64 os[k].chs[j2].key, .bool os[k].chs[j2].gone]) hat2
        have ls := hat2v.ld (j := 3) (v := .str os[k].chs[j2].val.s) rfl 1
        simp only [stp, if_true, if_false, Int.reduceEq, Int.reduceLT, Int.reduceLE, Int.reduceGT, Int.reduceGE, reduceCtorEq, Nat.reduceEqDiff, List.getElem?_cons_zero, List.getElem?_cons_succ, Option.map_some, hia, l4, n4, hjl2', hia2, ls, hwj]
        exact ⟨os[k].chs.length - (j2 + 1), by omega, j2 + 1, _, by omega, rfl, by trivial, .cons rfl (.cons rfl (.cons rfl (.cons rfl .nil)))⟩
      · have hjl2' : ¬ (j2 : Int) < (os[k].chs.length : Int) := by omega
        simp only [stp, if_true, if_false, Int.reduceEq, Int.reduceLT, Int.reduceLE, Int.reduceGT, Int.reduceGE, reduceCtorEq, Nat.reduceEqDiff, List.getElem?_cons_zero, List.getElem?_cons_succ, Option.map_some, hia, l4, n4, hjl2', hwk, Bool.false_eq_true]
        exact ⟨os.length - (k + 1), by omega, k + 1, n2', by omega, rfl, by trivial, .cons rfl (.cons rfl (.cons rfl .nil))⟩
  · have hlt' : ¬ (k : Int) < (os.length : Int) := by omega
    simp only [stp, if_true, if_false, Int.reduceEq, Int.reduceLT, Int.reduceLE, Int.reduceGT, Int.reduceGE, reduceCtorEq, Nat.reduceEqDiff, List.getElem?_cons_zero, List.getElem?_cons_succ, Option.map_some, hlen, hlt', Bool.false_eq_true]
    exact ⟨by trivial, n, by trivial⟩

set_option maxRecDepth 20000 in
/-- rubriclaw15.great over one delta. -/
theorem great1_calls {keys x y : V} {H : Heap} {os : List OpA} {ks : List (List V)} {szk : Nat} (hk : SL H keys szk ks) (hkl : ks.length ≤ big) (hx : OpsIn H x os) (hy : SL H y 1 [[x]]) : SCalls PP 7 [keys, y] H fun r H' => H' = H ∧ ∃ b, r = .bool b ∧ (b = false → ks.length ≤ 64) := by
  refine SCalls.go c7 (by simp [fn7]) fun hw => ?_
  unfold big at hkl
  have hwk : IntKind.i64.wrap ((ks.length : Int) - 64) = (ks.length : Int) - 64 := wrap_i64 (by omega) (by omega)
  by_cases h64 : (ks.length : Int) - 64 > 0
  · simp only [fn7, enterFr, List.length, List.range, List.range.loop, List.zip, List.zipWith, stp, if_true, if_false, Int.reduceEq, Int.reduceLT, Int.reduceLE, Int.reduceGT, Int.reduceGE, reduceCtorEq, Nat.reduceEqDiff, List.getElem?_cons_zero, List.getElem?_cons_succ, Option.map_some, hk.len, hwk, h64]
    exact ⟨by trivial, true, by trivial, by simp⟩
  · simp only [fn7, enterFr, List.length, List.range, List.range.loop, List.zip, List.zipWith, stp, if_true, if_false, Int.reduceEq, Int.reduceLT, Int.reduceLE, Int.reduceGT, Int.reduceGE, reduceCtorEq, Nat.reduceEqDiff, List.getElem?_cons_zero, List.getElem?_cons_succ, Option.map_some, hk.len, hwk, h64, Bool.false_eq_true, hy.len]
    refine wp_range SCalls.scMono (len := 1) (by omega) (fun n : Int => [(1, y), (5, .int .i64 n)]) (fun k n H' => H' = H) 0 rfl
      (.cons rfl (.cons rfl (.cons rfl (.cons rfl .nil)))) (by decide) (fun s => ⟨rfl, rfl, rfl⟩) ?_ ?_
    · rintro k n H' hk1 rfl
      obtain rfl : k = 0 := by omega
      obtain ⟨id, o, hia, hat⟩ := hy.ia (H' := H') (i := 0) (e := [x]) rfl .i64
      have l0 := hat.ld (j := 0) (v := x) rfl 1
      rw [Nat.add_zero] at l0
      simp only [stp, if_true, if_false, Int.reduceEq, Int.reduceLT, Int.reduceLE, Int.reduceGT, Int.reduceGE, reduceCtorEq, Nat.reduceEqDiff, List.getElem?_cons_zero, List.getElem?_cons_succ, Option.map_some, hia, l0]
      refine SCalls.mono (refSize_calls hx) ?_
      rintro r H2 ⟨rfl, m, rfl⟩
      simp only [stp, if_true, if_false, Int.reduceEq, Int.reduceLT, Int.reduceLE, Int.reduceGT, Int.reduceGE, reduceCtorEq, Nat.reduceEqDiff, List.getElem?_cons_zero, List.getElem?_cons_succ, Option.map_some]
      exact ⟨_, by trivial, .cons rfl (.cons rfl (.cons rfl (.cons rfl .nil)))⟩
    · rintro n H' rfl
      simp only [stp, if_true, if_false, Int.reduceEq, Int.reduceLT, Int.reduceLE, Int.reduceGT, Int.reduceGE, reduceCtorEq, Nat.reduceEqDiff, List.getElem?_cons_zero, List.getElem?_cons_succ, Option.map_some]
      exact ⟨by trivial, _, rfl, fun _ => by omega⟩
end Go.Proofs.YtbadbkdpnbacnaaDoor.Fw

/- What functions of the program answer: keys and their schema. No condition but what slices.SortFunc leaves, which is a hypothesis here. -/
namespace Go.Proofs.YtbadbkdpnbacnaaDoor.Fw
open Go
set_option linter.unusedSimpArgs false
set_option linter.unusedVariables false

/-- slices.Clone of keys. -/
theorem cloneK_calls {x : V} {H : Heap} {es : List (List V)} (hx : SL H x 6 es) (hl : es.length ≤ big) : SCalls PP 24 [x] H fun r H' => Ext H H' ∧ WF H' ∧ ((es = [] ∧ SL H' r 6 es) ∨ ∃ id, r = .slice id 0 es.length none ∧ H.next ≤ id ∧ Own H' id 6 es) := by
  refine SCalls.go c24 (by simp [fn24]) fun hw => ?_
  unfold big at hl
  have hbs : exec (.bsl 6 0 [] []) [] H = some (.slice H.next 0 0 (some 0), H.new (.row false 6 [])) := rfl
  obtain ⟨hlen, ⟨rfl, rfl⟩ | ⟨id, off, cap, rfl, hid, hat⟩⟩ := id hx
  · have hn : exec (.eqnil 1 false) [.nils, .nils] H = some (.bool true, H) := rfl
    simp only [fn24, enterFr, List.length, List.range, List.range.loop, List.zip, List.zipWith, stp, if_true, if_false, Int.reduceEq, Int.reduceLT, Int.reduceLE, Int.reduceGT, Int.reduceGE, reduceCtorEq, Nat.reduceEqDiff, List.getElem?_cons_zero, List.getElem?_cons_succ, Option.map_some, hn]
    exact ⟨Ext.refl H, hw, .inl ⟨by trivial, by simp, .inl ⟨rfl, rfl⟩⟩⟩
  · have hn : exec (.eqnil 1 false) [.slice id off es.length cap, .nils] H = some (.bool false, H) := rfl
    have hx1 : Ext H (H.new (.row false 6 [])) := (Ext.refl H).new _
    have hw1 : WF (H.new (.row false 6 [])) := hw.new _
    have hg1 := new_get H (.row false 6 [])
    have hsl1 := hx.ext hx1
    by_cases he : es = []
    · subst he
      have happ : exec (.app 6 24) [.slice H.next 0 0 (some 0), .slice id off 0 cap] (H.new (.row false 6 [])) = some (.slice H.next 0 0 (some 0), H.new (.row false 6 [])) := by
        simp only [exec, appendA, lenV, srcCells, readN]
        rfl
      simp only [fn24, enterFr, List.length, List.range, List.range.loop, List.zip, List.zipWith, stp, if_true, if_false, Int.reduceEq, Int.reduceLT, Int.reduceLE, Int.reduceGT, Int.reduceGE, reduceCtorEq, Nat.reduceEqDiff, List.getElem?_cons_zero, List.getElem?_cons_succ, Option.map_some, hn, hbs, happ]
      refine ⟨.inr rfl, _, rfl, ?_⟩
      exact ⟨hx1, hw1, .inl ⟨by trivial, by simp, .inr ⟨H.next, 0, some 0, rfl, Nat.lt_succ_self _, by simp⟩⟩⟩
    · obtain ⟨s1, s2⟩ := hsl1.src he
      have hln : es.length ≠ 0 := fun h => he (List.length_eq_zero_iff.1 h)
      have happ : exec (.app 6 24) [.slice H.next 0 0 (some 0), .slice id off es.length cap] (H.new (.row false 6 [])) = some (.slice (H.new (.row false 6 [])).next 0 es.length none, (H.new (.row false 6 [])).new (.row false 6 es.flatten)) := by
        simp only [exec, appendA, s1, s2]
        rw [if_neg (by simp [flatLen fun e he => (hlen e he).1, flatAll fun e he => (hlen e he).2]), if_neg hln, if_neg (by simp; omega)]
        rw [if_neg (by omega)]
        simp [readN]
      simp only [fn24, enterFr, List.length, List.range, List.range.loop, List.zip, List.zipWith, stp, if_true, if_false, Int.reduceEq, Int.reduceLT, Int.reduceLE, Int.reduceGT, Int.reduceGE, reduceCtorEq, Nat.reduceEqDiff, List.getElem?_cons_zero, List.getElem?_cons_succ, Option.map_some, hn, hbs, happ]
      exact ⟨hx1.new _, hw1.new _, .inr ⟨_, rfl, Nat.le_succ _, Nat.lt_succ_self _, new_get _ _, hlen⟩⟩

def keyMay (k : KeyA) : Bool :=
  if decide (k.id < 1) || decide (k.id > 1000) || decide (k.kind < 1) || decide (k.kind > 4) then false
  else if k.block then !k.before && decide (k.group ≥ 0) && decide (k.group ≤ 8) else decide (k.group = 0)
set_option maxRecDepth 20000 in
set_option maxHeartbeats 2000000 in
theorem keyMay_calls (k : KeyA) (H : Heap) : SCalls PP 25 [.agg k.cells] H fun r H' => H' = H ∧ r = .bool (keyMay k) := by
  refine SCalls.keep (R := fun r => r = .bool (keyMay k)) (SCalls.go c25 (by simp [fn25]) fun hw => ?_)
  obtain ⟨H2, hx2, hw2, ha2, hbx⟩ := x_boxed (Ext.refl H) hw (e := k.cells) rfl
  have l0 := ha2.ld (j := 0) (v := .int .i64 k.id) rfl 1
  have l1 := ha2.ld (j := 1) (v := .bool k.block) rfl 1
  have l2 := ha2.ld (j := 2) (v := .int .u8 k.kind) rfl 1
  have l4 := ha2.ld (j := 4) (v := .bool k.before) rfl 1
  have l5 := ha2.ld (j := 5) (v := .int .i64 k.group) rfl 1
  by_cases i1 : k.id < 1
  · simp only [fn25, enterFr, List.length, List.range, List.range.loop, List.zip, List.zipWith, stp, if_true, if_false, Int.reduceEq, Int.reduceLT, Int.reduceLE, Int.reduceGT, Int.reduceGE, reduceCtorEq, Nat.reduceEqDiff, List.getElem?_cons_zero, List.getElem?_cons_succ, Option.map_some, hbx, l0, l1, l2, l4, l5, i1, Bool.false_eq_true]
    exact ⟨hx2, by simp [keyMay, i1], rfl⟩
  by_cases i2 : k.id > 1000
  · simp only [fn25, enterFr, List.length, List.range, List.range.loop, List.zip, List.zipWith, stp, if_true, if_false, Int.reduceEq, Int.reduceLT, Int.reduceLE, Int.reduceGT, Int.reduceGE, reduceCtorEq, Nat.reduceEqDiff, List.getElem?_cons_zero, List.getElem?_cons_succ, Option.map_some, hbx, l0, l1, l2, l4, l5, i1, i2, Bool.false_eq_true]
    exact ⟨hx2, by simp [keyMay, i2], rfl⟩
  by_cases i3 : k.kind < 1
  · simp only [fn25, enterFr, List.length, List.range, List.range.loop, List.zip, List.zipWith, stp, if_true, if_false, Int.reduceEq, Int.reduceLT, Int.reduceLE, Int.reduceGT, Int.reduceGE, reduceCtorEq, Nat.reduceEqDiff, List.getElem?_cons_zero, List.getElem?_cons_succ, Option.map_some, hbx, l0, l1, l2, l4, l5, i1, i2, i3, Bool.false_eq_true]
    exact ⟨hx2, by simp [keyMay, i3], rfl⟩
  by_cases i4 : k.kind > 4
  · simp only [fn25, enterFr, List.length, List.range, List.range.loop, List.zip, List.zipWith, stp, if_true, if_false, Int.reduceEq, Int.reduceLT, Int.reduceLE, Int.reduceGT, Int.reduceGE, reduceCtorEq, Nat.reduceEqDiff, List.getElem?_cons_zero, List.getElem?_cons_succ, Option.map_some, hbx, l0, l1, l2, l4, l5, i1, i2, i3, i4, Bool.false_eq_true]
    exact ⟨hx2, by simp [keyMay, i4], rfl⟩
  have e0 : keyMay k = if k.block then !k.before && decide (k.group ≥ 0) && decide (k.group ≤ 8) else decide (k.group = 0) := by
    unfold keyMay; rw [if_neg (by simp [i1, i2, i3, i4])]
  cases hb : k.block with
  | false =>
    rw [hb] at l1
    simp only [fn25, enterFr, List.length, List.range, List.range.loop, List.zip, List.zipWith, stp, if_true, if_false, Int.reduceEq, Int.reduceLT, Int.reduceLE, Int.reduceGT, Int.reduceGE, reduceCtorEq, Nat.reduceEqDiff, List.getElem?_cons_zero, List.getElem?_cons_succ, Option.map_some, hbx, l0, l1, l2, l4, l5, i1, i2, i3, i4, Bool.false_eq_true]
    exact ⟨hx2, by rw [e0, hb]; simp, rfl⟩
  | true =>
    rw [hb] at l1
    cases hbe : k.before with
    | true =>
      rw [hbe] at l4
      simp only [fn25, enterFr, List.length, List.range, List.range.loop, List.zip, List.zipWith, stp, if_true, if_false, Int.reduceEq, Int.reduceLT, Int.reduceLE, Int.reduceGT, Int.reduceGE, reduceCtorEq, Nat.reduceEqDiff, List.getElem?_cons_zero, List.getElem?_cons_succ, Option.map_some, hbx, l0, l1, l2, l4, l5, i1, i2, i3, i4, Bool.false_eq_true]
      exact ⟨hx2, by rw [e0, hb, hbe]; simp, rfl⟩
    | false =>
      rw [hbe] at l4
      by_cases g1 : k.group ≥ 0
      · simp only [fn25, enterFr, List.length, List.range, List.range.loop, List.zip, List.zipWith, stp, if_true, if_false, Int.reduceEq, Int.reduceLT, Int.reduceLE, Int.reduceGT, Int.reduceGE, reduceCtorEq, Nat.reduceEqDiff, List.getElem?_cons_zero, List.getElem?_cons_succ, Option.map_some, hbx, l0, l1, l2, l4, l5, i1, i2, i3, i4, g1, Bool.false_eq_true]
        exact ⟨hx2, by rw [e0, hb, hbe]; simp [g1], rfl⟩
      · simp only [fn25, enterFr, List.length, List.range, List.range.loop, List.zip, List.zipWith, stp, if_true, if_false, Int.reduceEq, Int.reduceLT, Int.reduceLE, Int.reduceGT, Int.reduceGE, reduceCtorEq, Nat.reduceEqDiff, List.getElem?_cons_zero, List.getElem?_cons_succ, Option.map_some, hbx, l0, l1, l2, l4, l5, i1, i2, i3, i4, g1, Bool.false_eq_true]
        exact ⟨hx2, by rw [e0, hb, hbe]; simp [g1], rfl⟩
end Go.Proofs.YtbadbkdpnbacnaaDoor.Fw

/- What functions of the program answer: schema.New. No condition but what slices.SortFunc leaves, which is a hypothesis here. -/
namespace Go.Proofs.YtbadbkdpnbacnaaDoor.Fw
open Go
set_option linter.unusedSimpArgs false
set_option linter.unusedVariables false

/-- What slices.SortFunc leaves: it ends, and turns its own row alone. -/
def SortIs : Prop := ∀ (H : Heap) (v : V) (es : List (List V)), WF H → es.length ≤ 64 → (∀ e ∈ es, ∃ k : KeyA, e = k.cells) → ((es = [] ∧ SL H v 6 es) ∨ ∃ id, v = .slice id 0 es.length none ∧ Own H id 6 es) →
  SCalls PP 26 [v, .fn (.func 27) [] []] H fun r H' => H'.gn = H.gn ∧ H.next ≤ H'.next ∧ WF H' ∧ ∀ j, j < H.next → (∀ id, v = .slice id 0 es.length none → es ≠ [] → j ≠ id) → H'.get j = H.get j

theorem find_none {ks : List KeyA} {id : Int} (h : findK ks id = none) : findE 0 (.int .i64 id) (ks.map fun k => (V.int .i64 k.id, V.agg k.cells)) = some none := by
  have := find_map id ks
  cases hf : findE 0 (.int .i64 id) (ks.map fun k => (V.int .i64 k.id, V.agg k.cells)) with
  | none => rw [hf] at this; exact this.elim
  | some o =>
    rw [hf] at this
    cases o with
    | none => rfl
    | some i => obtain ⟨k, h1, _⟩ := this; rw [h] at h1; cases h1
theorem mset_new {H : Heap} {mid : Nat} {ks : List KeyA} {k : KeyA} (hg : H.get mid = some (.mapo (ks.map fun k => (.int .i64 k.id, .agg k.cells)))) (hf : findK ks k.id = none) :
    exec (.mset 0) [.map mid, .int .i64 k.id, .agg k.cells] H = some (.undef, H.set mid (.mapo ((ks ++ [k]).map fun k => (.int .i64 k.id, .agg k.cells)))) := by
  simp only [exec, hg, keyOk, if_true, find_none hf, List.map_append, List.map_cons, List.map_nil]

set_option maxRecDepth 20000 in
set_option maxHeartbeats 2000000 in
theorem new_calls (hS : SortIs) {x : V} {H : Heap} {ks : List KeyA} (hx : SL H x 6 (ks.map KeyA.cells)) (hl : ks.length ≤ big) :
    SCalls PP 9 [x] H fun r H' => Ext H H' ∧ WF H' ∧ ((∃ s, r = .tup [s, .int .i64 3]) ∨ ∃ s, r = .tup [s, .int .i64 0] ∧ Sch H' s ks) := by
  refine SCalls.go c9 (by simp [fn9]) fun hw => ?_
  unfold big at hl
  have hlen : ∀ G, exec .len [x] G = some (.int .i64 ks.length, G) := fun G => by have := hx.len (H' := G); rwa [List.length_map] at this
  by_cases h64 : (ks.length : Int) > 64
  · simp only [fn9, enterFr, List.length, List.range, List.range.loop, List.zip, List.zipWith, stp, if_true, if_false, Int.reduceEq, Int.reduceLT, Int.reduceLE, Int.reduceGT, Int.reduceGE, reduceCtorEq, Nat.reduceEqDiff, List.getElem?_cons_zero, List.getElem?_cons_succ, Option.map_some, hlen, h64]
    exact ⟨Ext.refl H, hw, .inl ⟨_, rfl⟩⟩
  simp only [fn9, enterFr, List.length, List.range, List.range.loop, List.zip, List.zipWith, stp, if_true, if_false, Int.reduceEq, Int.reduceLT, Int.reduceLE, Int.reduceGT, Int.reduceGE, reduceCtorEq, Nat.reduceEqDiff, List.getElem?_cons_zero, List.getElem?_cons_succ, Option.map_some, hlen, h64, Bool.false_eq_true]
  refine SCalls.mono (cloneK_calls hx (by rw [List.length_map]; unfold big; omega)) ?_
  rintro c H1 ⟨hx1, hw1, hc⟩
  have hco : c.one = true ∧ c.cells = [c] := by
    rcases hc with ⟨h0, _, ⟨rfl, _⟩ | ⟨_, _, _, rfl, _⟩⟩ | ⟨_, rfl, _⟩ <;> exact ⟨rfl, rfl⟩
  have hmk : exec .mkmap [] H1 = some (.map H1.next, H1.new (.mapo [])) := rfl
  have hx2 : Ext H1 (H1.new (.mapo [])) := (Ext.refl H1).new _
  have hw2 : WF (H1.new (.mapo [])) := hw1.new _
  have hg2 : (H1.new (.mapo [])).get H1.next = some (.mapo (([] : List KeyA).map fun k => (.int .i64 k.id, .agg k.cells))) := new_get _ _
  have hn2 : (H1.new (.mapo [])).next = H1.next + 1 := rfl
  have hbd : ∀ G, exec (.build [.nils, .nilm] [(0, 1), (1, 1)]) [c, .map H1.next] G = some (.agg [c, .map H1.next], G) := fun G => by
    show (fillA [.nils, .nilm] [((0, 1), c), ((1, 1), .map H1.next)]).map (fun cs => (V.agg cs, G)) = _
    simp only [fillA, hco.2]
    rfl
  generalize hG2 : H1.new (.mapo []) = G2 at *
  obtain ⟨H3, hx3, hw3, ha3, hbx⟩ := x_boxed (Ext.refl G2) hw2 (e := [c, .map H1.next]) (by simp only [List.all_cons, hco.1, List.all_nil]; rfl)
  have hn3 := hx3.next
  have hg3 : H3.get H1.next = some (.mapo (([] : List KeyA).map fun k => (.int .i64 k.id, .agg k.cells))) := by rw [hx3.get _ (by omega)]; exact hg2
  have hxx : Ext H H3 := (hx1.trans hx2).trans hx3
  have hH1 := hx1.next
  simp only [stp, if_true, if_false, Int.reduceEq, Int.reduceLT, Int.reduceLE, Int.reduceGT, Int.reduceGE, reduceCtorEq, Nat.reduceEqDiff, List.getElem?_cons_zero, List.getElem?_cons_succ, Option.map_some, hmk, hG2, hbd, hbx, hlen]
  generalize hP : G2.next = p at *
  refine wp_range SCalls.scMono (by omega) (fun _ : Unit => [(17, x), (4, .ptr p 0)]) (fun k _ G => Ext H G ∧ WF G ∧ p < G.next ∧ At G p 0 [c, .map H1.next] ∧ G.get H1.next = some (.mapo ((ks.take k).map fun k => (.int .i64 k.id, .agg k.cells))) ∧ (∀ j, j < H3.next → j ≠ H1.next → G.get j = H3.get j) ∧ H3.next ≤ G.next) ()
    ⟨hxx, hw3, ha3.1, ha3, by simpa using hg3, fun j _ _ => rfl, Nat.le_refl _⟩ (.cons rfl (.cons rfl (.cons rfl (.cons rfl .nil)))) (by decide) (fun s => ⟨rfl, rfl, rfl⟩) ?_ ?_
  · rintro k _ G hk ⟨e1, e2, e3, e4, e5, e6, e7⟩
    have hm := hx.1 ks[k].cells (List.mem_map_of_mem (List.getElem_mem hk))
    obtain ⟨id, o, hia, hat⟩ := (hx.ext e1).ia (H' := G) (i := k) (e := ks[k].cells) (by simp [hk]) .i64
    obtain ⟨H4, hx4, hw4, ha4, hal, hst⟩ := x_copy (Ext.refl G) e2 (z := zk) (e := ks[k].cells) (n := 6) rfl rfl hm.1 hm.2
    have l0 := ha4.ld (j := 0) (v := .int .i64 ks[k].id) rfl 1
    have la := ha4.lda (n := 6) rfl
    have lm := (e4.ext hx4).ld (j := 1) (v := .map H1.next) rfl 1
    have hmid : H1.next < G.next := by omega
    have g4 : H4.get H1.next = some (.mapo ((ks.take k).map fun k => (.int .i64 k.id, .agg k.cells))) := by rw [hx4.get _ hmid]; exact e5
    have hlk := look_eq g4 ks[k].id
    obtain ⟨H5, hx5, hw5, ha5, hal5, hst5⟩ := x_copy (Ext.refl H4) hw4 (z := zk) (e := foundC (ks.take k) ks[k].id) (n := 6) rfl rfl rfl rfl
    have hx45 := hx4.trans hx5
    have la5 := (ha4.ext hx5).lda (n := 6) rfl
    have l05 := (ha4.ext hx5).ld (j := 0) (v := .int .i64 ks[k].id) rfl 1
    have lm5 := (e4.ext hx45).ld (j := 1) (v := .map H1.next) rfl 1
    have g5 : H5.get H1.next = some (.mapo ((ks.take k).map fun k => (.int .i64 k.id, .agg k.cells))) := by rw [hx45.get _ hmid]; exact e5
    cases hf : findK (ks.take k) ks[k].id with
    | some kk =>
      simp only [stp, if_true, if_false, Int.reduceEq, Int.reduceLT, Int.reduceLE, Int.reduceGT, Int.reduceGE, reduceCtorEq, Nat.reduceEqDiff, List.getElem?_cons_zero, List.getElem?_cons_succ, Option.map_some, hia, hat.lda (n := 6) rfl, hal, hst, l0, lm, hlk, hal5, hst5, hf, Option.isSome_some, Bool.false_eq_true]
      exact ⟨e1.trans hx45, hw5, .inl ⟨_, rfl⟩⟩
    | none =>
      simp only [stp, if_true, if_false, Int.reduceEq, Int.reduceLT, Int.reduceLE, Int.reduceGT, Int.reduceGE, reduceCtorEq, Nat.reduceEqDiff, List.getElem?_cons_zero, List.getElem?_cons_succ, Option.map_some, hia, hat.lda (n := 6) rfl, hal, hst, l0, lm, hlk, hal5, hst5, hf, Option.isSome_none, la5, Bool.false_eq_true]
      refine SCalls.mono (keyMay_calls ks[k] H5) ?_
      rintro r H6 ⟨rfl, rfl⟩
      cases hm' : keyMay ks[k] with
      | false =>
        simp only [stp, if_true, if_false, Int.reduceEq, Int.reduceLT, Int.reduceLE, Int.reduceGT, Int.reduceGE, reduceCtorEq, Nat.reduceEqDiff, List.getElem?_cons_zero, List.getElem?_cons_succ, Option.map_some, hm', Bool.false_eq_true]
        exact ⟨e1.trans hx45, hw5, .inl ⟨_, rfl⟩⟩
      | true =>
        have hms := mset_new (k := ks[k]) g5 hf
        simp only [stp, if_true, if_false, Int.reduceEq, Int.reduceLT, Int.reduceLE, Int.reduceGT, Int.reduceGE, reduceCtorEq, Nat.reduceEqDiff, List.getElem?_cons_zero, List.getElem?_cons_succ, Option.map_some, hm', l05, lm5, la5, hms, Bool.false_eq_true]
        have hn5 := hx45.next
        refine ⟨(), ⟨(e1.trans hx45).set (by omega) _, hw5.set g5 _, ?_, ?_, ?_, fun j hj hjm => ?_, ?_⟩, .cons rfl (.cons rfl (.cons rfl (.cons rfl .nil)))⟩
        · simp only [Heap.set_next]; omega
        · obtain ⟨b1, ro, esz, cells, b2, b3⟩ := e4.ext hx45
          refine ⟨b1, ro, esz, cells, ?_, b3⟩
          rw [Heap.set_get, if_neg (by omega)]; exact b2
        · rw [set_get', List.take_succ_eq_append_getElem hk]
        · rw [Heap.set_get, if_neg hjm, hx45.get _ (by omega)]; exact e6 j hj hjm
        · simp only [Heap.set_next]; omega
  · rintro _ G ⟨e1, e2, e3, e4, e5, e6, e7⟩
    rw [List.take_length] at e5
    have lc := e4.ld (j := 0) (v := c) rfl 1
    simp only [stp, if_true, if_false, Int.reduceEq, Int.reduceLT, Int.reduceLE, Int.reduceGT, Int.reduceGE, reduceCtorEq, Nat.reduceEqDiff, List.getElem?_cons_zero, List.getElem?_cons_succ, Option.map_some, lc]
    have hcl : (ks.map KeyA.cells).length ≤ 64 := by rw [List.length_map]; omega
    have keep : ∀ j, j < H1.next → G.get j = H1.get j := fun j hj => by
      rw [e6 j (by omega) (by omega), hx3.get j (by omega), hx2.get j (by omega)]
    refine SCalls.mono (hS G c (ks.map KeyA.cells) e2 hcl (fun e he => by obtain ⟨k, _, rfl⟩ := List.mem_map.1 he; exact ⟨k, rfl⟩) ?_) ?_
    · rcases hc with ⟨h0, h1⟩ | ⟨id, rfl, hid, ho⟩
      · refine .inl ⟨h0, h1.1, ?_⟩
        rcases h1.2 with h | ⟨id, off, cap, q1, q2, q3⟩
        · exact .inl h
        · exact .inr ⟨id, off, cap, q1, by omega, fun i e he => by rw [h0] at he; simp at he⟩
      · refine .inr ⟨id, rfl, ?_, ?_, ho.len⟩
        · have := ho.lt; omega
        · rw [keep id ho.lt]; exact ho.get
    · rintro r G7 ⟨f1, f2, f3, f4⟩
      have hne : ∀ j, (j < H.next ∨ H1.next ≤ j) → ∀ id, c = .slice id 0 (ks.map KeyA.cells).length none → ks.map KeyA.cells ≠ [] → j ≠ id := by
        intro j hj id hcid hnil
        rcases hc with ⟨h0, _⟩ | ⟨id', rfl, hid, ho⟩
        · exact absurd h0 hnil
        · have := ho.lt
          simp only [V.slice.injEq] at hcid
          omega
      simp only [stp, if_true, if_false, Int.reduceEq, Int.reduceLT, Int.reduceLE, Int.reduceGT, Int.reduceGE, reduceCtorEq, Nat.reduceEqDiff, List.getElem?_cons_zero, List.getElem?_cons_succ, Option.map_some]
      refine ⟨⟨f1.trans e1.gn, Nat.le_trans e1.next f2, fun j hj => ?_⟩, f3, .inr ⟨_, rfl, p, c, H1.next, rfl, ?_, by omega, ?_⟩⟩
      · have := e1.next
        rw [f4 j (by omega) (hne j (.inl hj))]; exact e1.get j hj
      · obtain ⟨b1, ro, esz, cells, b2, b3⟩ := e4
        refine ⟨by omega, ro, esz, cells, ?_, b3⟩
        rw [f4 p e3 (hne p (.inr (by omega)))]; exact b2
      · rw [f4 _ (by omega) (hne _ (.inr (Nat.le_refl _)))]; exact e5
end Go.Proofs.YtbadbkdpnbacnaaDoor.Fw

/- utf8.word: eight bytes. No condition. -/
namespace Go.Proofs.YtbadbkdpnbacnaaDoor.Fw
open Go
set_option linter.unusedSimpArgs false
set_option linter.unusedVariables false

theorem x_toInt (k j : IntKind) (n : Int) (H : Heap) : exec (.toInt k) [.int j n] H = some (.int k (k.wrap n), H) := rfl
def shl64 (a b : Int) : Int := IntKind.u64.wrap (a * 2 ^ (min b.toNat 64))
def or64 (a b : Int) : Int := IntKind.u64.wrap (BitVec.ofInt 64 a ||| BitVec.ofInt 64 b).toNat
def and64 (a b : Int) : Int := IntKind.u64.wrap (BitVec.ofInt 64 a &&& BitVec.ofInt 64 b).toNat
theorem x_shl (a b : Int) (hb : 0 ≤ b) (H : Heap) : exec (.ibin .shl) [.int .u64 a, .int .u64 b] H = some (.int .u64 (shl64 a b), H) := by
  simp only [exec, ibin, intSh]
  rw [if_neg (by omega)]
  rfl
theorem x_or (a b : Int) (H : Heap) : exec (.ibin .or) [.int .u64 a, .int .u64 b] H = some (.int .u64 (or64 a b), H) := rfl
theorem x_and (a b : Int) (H : Heap) : exec (.ibin .and) [.int .u64 a, .int .u64 b] H = some (.int .u64 (and64 a b), H) := rfl
def byteAt (bs : List Int) (i : Nat) : Int := IntKind.u64.wrap (bs.getD i 0)
def wordF (bs : List Int) : Int := or64 (or64 (or64 (or64 (or64 (or64 (or64 (byteAt bs 0) (shl64 (byteAt bs 1) 8)) (shl64 (byteAt bs 2) 16)) (shl64 (byteAt bs 3) 24)) (shl64 (byteAt bs 4) 32)) (shl64 (byteAt bs 5) 40)) (shl64 (byteAt bs 6) 48)) (shl64 (byteAt bs 7) 56)
theorem byte_ia {p : V} {H : Heap} {bs : List Int} (hp : SL H p 1 (bs.map fun b => [V.int .u8 b])) {i : Nat} (hi : i < bs.length) :
    ∃ id o, exec (.ia 1) [p, .int .i64 i] H = some (.ptr id o, H) ∧ exec (.ld 1) [.ptr id o] H = some (.int .u8 (bs.getD i 0), H) := by
  have hg : (bs.map fun b => [V.int .u8 b])[i]? = some [V.int .u8 (bs.getD i 0)] := by simp [List.getD_eq_getElem?_getD, hi]
  obtain ⟨id, o, h1, h2⟩ := hp.ia (H' := H) hg .i64
  have h3 := h2.ld (j := 0) rfl 1
  rw [Nat.add_zero] at h3
  exact ⟨id, o, h1, h3⟩
set_option maxRecDepth 20000 in
set_option maxHeartbeats 1000000 in
theorem word_calls {p : V} {H : Heap} {bs : List Int} (hp : SL H p 1 (bs.map fun b => [V.int .u8 b])) (hl : 8 ≤ bs.length) : SCalls PP 109 [p] H fun r H' => H' = H ∧ r = .int .u64 (wordF bs) := by
  refine SCalls.go c109 (by simp [fn109]) fun hw => ?_
  obtain ⟨i0, o0, a0', d0⟩ := byte_ia hp (i := 0) (by omega)
  have a0 : exec (.ia 1) [p, .int .i64 0] H = some (.ptr i0 o0, H) := a0'
  obtain ⟨i1, o1, a1', d1⟩ := byte_ia hp (i := 1) (by omega)
  have a1 : exec (.ia 1) [p, .int .i64 1] H = some (.ptr i1 o1, H) := a1'
  obtain ⟨i2, o2, a2', d2⟩ := byte_ia hp (i := 2) (by omega)
  have a2 : exec (.ia 1) [p, .int .i64 2] H = some (.ptr i2 o2, H) := a2'
  obtain ⟨i3, o3, a3', d3⟩ := byte_ia hp (i := 3) (by omega)
  have a3 : exec (.ia 1) [p, .int .i64 3] H = some (.ptr i3 o3, H) := a3'
  obtain ⟨i4, o4, a4', d4⟩ := byte_ia hp (i := 4) (by omega)
  have a4 : exec (.ia 1) [p, .int .i64 4] H = some (.ptr i4 o4, H) := a4'
  obtain ⟨i5, o5, a5', d5⟩ := byte_ia hp (i := 5) (by omega)
  have a5 : exec (.ia 1) [p, .int .i64 5] H = some (.ptr i5 o5, H) := a5'
  obtain ⟨i6, o6, a6', d6⟩ := byte_ia hp (i := 6) (by omega)
  have a6 : exec (.ia 1) [p, .int .i64 6] H = some (.ptr i6 o6, H) := a6'
  obtain ⟨i7, o7, a7', d7⟩ := byte_ia hp (i := 7) (by omega)
  have a7 : exec (.ia 1) [p, .int .i64 7] H = some (.ptr i7 o7, H) := a7'
  have s8 : ∀ a G, exec (.ibin .shl) [.int .u64 a, .int .u64 8] G = some (.int .u64 (shl64 a 8), G) := fun a G => x_shl a 8 (by decide) G
  have s16 : ∀ a G, exec (.ibin .shl) [.int .u64 a, .int .u64 16] G = some (.int .u64 (shl64 a 16), G) := fun a G => x_shl a 16 (by decide) G
  have s24 : ∀ a G, exec (.ibin .shl) [.int .u64 a, .int .u64 24] G = some (.int .u64 (shl64 a 24), G) := fun a G => x_shl a 24 (by decide) G
  have s32 : ∀ a G, exec (.ibin .shl) [.int .u64 a, .int .u64 32] G = some (.int .u64 (shl64 a 32), G) := fun a G => x_shl a 32 (by decide) G
  have s40 : ∀ a G, exec (.ibin .shl) [.int .u64 a, .int .u64 40] G = some (.int .u64 (shl64 a 40), G) := fun a G => x_shl a 40 (by decide) G
  have s48 : ∀ a G, exec (.ibin .shl) [.int .u64 a, .int .u64 48] G = some (.int .u64 (shl64 a 48), G) := fun a G => x_shl a 48 (by decide) G
  have s56 : ∀ a G, exec (.ibin .shl) [.int .u64 a, .int .u64 56] G = some (.int .u64 (shl64 a 56), G) := fun a G => x_shl a 56 (by decide) G
  simp only [fn109, enterFr, List.length, List.range, List.range.loop, List.zip, List.zipWith, stp, if_true, if_false, Int.reduceEq, Int.reduceLT, Int.reduceLE, Int.reduceGT, Int.reduceGE, reduceCtorEq, Nat.reduceEqDiff, List.getElem?_cons_zero, List.getElem?_cons_succ, Option.map_some, a0, d0, a1, d1, a2, d2, a3, d3, a4, d4, a5, d5, a6, d6, a7, d7, s8, s16, s24, s32, s40, s48, s56, x_toInt, x_or]
  exact ⟨by trivial, rfl⟩
end Go.Proofs.YtbadbkdpnbacnaaDoor.Fw

/- utf8.Valid: what it answers. No condition. -/
namespace Go.Proofs.YtbadbkdpnbacnaaDoor.Fw
open Go
set_option linter.unusedSimpArgs false
set_option linter.unusedVariables false

abbrev hi64 : Int := 9259542123273814144
def skip32 : Nat → List Int → List Int
  | 0, bs => bs
  | n + 1, bs => if 32 < bs.length ∧ and64 (or64 (or64 (wordF bs) (wordF (bs.drop 8))) (or64 (wordF (bs.drop 16)) (wordF (bs.drop 24)))) hi64 = 0 then skip32 n (bs.drop 32) else bs
theorem skip32_stop {bs : List Int} (h : ¬ (32 < bs.length ∧ and64 (or64 (or64 (wordF bs) (wordF (bs.drop 8))) (or64 (wordF (bs.drop 16)) (wordF (bs.drop 24)))) hi64 = 0)) : ∀ n, skip32 n bs = bs
  | 0 => rfl
  | n + 1 => by rw [skip32, if_neg h]
/-- Behind one ASCII byte. -/
def skipA (bs : List Int) : List Int :=
  if 8 < bs.length ∧ and64 (wordF bs) hi64 = 0 then
    if 16 < (bs.drop 8).length ∧ and64 (or64 (wordF (bs.drop 8)) (wordF ((bs.drop 8).drop 8))) hi64 = 0 then skip32 ((bs.drop 8).drop 16).length ((bs.drop 8).drop 16) else bs.drop 8
  else bs
theorem skip32_len : ∀ (n : Nat) (bs : List Int), (skip32 n bs).length ≤ bs.length
  | 0, bs => Nat.le_refl _
  | n + 1, bs => by
    rw [skip32]
    split
    · exact Nat.le_trans (skip32_len n _) (by simp)
    · exact Nat.le_refl _
theorem skipA_len (bs : List Int) : (skipA bs).length ≤ bs.length := by
  rw [skipA]
  split
  · split
    · exact Nat.le_trans (skip32_len _ _) (by simp)
    · simp
  · exact Nat.le_refl _

theorem x_and8 (a b : Int) (H : Heap) : exec (.ibin .and) [.int .u8 a, .int .u8 b] H = some (.int .u8 (IntKind.u8.wrap (BitVec.ofInt 8 a &&& BitVec.ofInt 8 b).toNat), H) := rfl
def sizeT (b : Int) : Int := IntKind.i64.wrap (IntKind.u8.wrap (BitVec.ofInt 8 (firstT.getD b.toNat 0) &&& BitVec.ofInt 8 7).toNat)
def accI (b : Int) : Int := (firstT.getD b.toNat 0).fdiv 16
theorem x_shr8 (a : Int) (H : Heap) : exec (.ibin .shr) [.int .u8 a, .int .u64 4] H = some (.int .u8 (a.fdiv 16), H) := rfl
theorem accI_fin : ∀ n : Fin 256, 0 ≤ accI (n.val : Int) ∧ accI (n.val : Int) < 16 := by decide +kernel
theorem accI_lt {b : Int} (h0 : 0 ≤ b) (h1 : b < 256) : 0 ≤ accI b ∧ accI b < 16 := by
  have := accI_fin ⟨b.toNat, by omega⟩
  have e : ((b.toNat : Nat) : Int) = b := by omega
  simpa only [e] using this
def loT (b : Int) : Int := accT.getD ((accI b).toNat * 2) 0
def hiT (b : Int) : Int := accT.getD ((accI b).toNat * 2 + 1) 0

/-- One round. -/
def vStep (b0 : Int) (bs : List Int) : Option (List Int) :=
  if b0 < 128 then some (skipA (bs.drop 1))
  else if sizeT b0 = 2 then
    if bs.length < 2 ∨ bs.getD 1 0 < loT b0 ∨ hiT b0 < bs.getD 1 0 then none else some (bs.drop 2)
  else if sizeT b0 = 3 then
    if bs.length < 3 ∨ bs.getD 1 0 < loT b0 ∨ hiT b0 < bs.getD 1 0 ∨ bs.getD 2 0 < 128 ∨ 191 < bs.getD 2 0 then none else some (bs.drop 3)
  else if sizeT b0 = 4 then
    if bs.length < 4 ∨ bs.getD 1 0 < loT b0 ∨ hiT b0 < bs.getD 1 0 ∨ bs.getD 2 0 < 128 ∨ 191 < bs.getD 2 0 ∨ bs.getD 3 0 < 128 ∨ 191 < bs.getD 3 0 then none else some (bs.drop 4)
  else none
def vF : Nat → List Int → Bool
  | 0, _ => true
  | _, [] => true
  | n + 1, b0 :: bs => match vStep b0 (b0 :: bs) with
    | some r => vF n r
    | none => false
theorem vF_nil (n : Nat) : vF n [] = true := by cases n <;> rfl

theorem At.sub {H : Heap} {id o : Nat} {e e' : List V} (h : At H id o e) (k : Nat) (hl : k + e'.length ≤ e.length) (he : ∀ j v, e'[j]? = some v → e[k + j]? = some v) : At H id (o + k) e' := by
  obtain ⟨h1, ro, esz, cells, h2, h3, h4⟩ := h
  exact ⟨h1, ro, esz, cells, h2, by omega, fun j v hj => by rw [Nat.add_assoc]; exact h4 _ v (he j v hj)⟩

abbrev byteR (bs : List Int) : List (List V) := bs.map fun b => [V.int .u8 b]
theorem sl_drop {H : Heap} {id off k : Nat} {c c' : Option Nat} {bs : List Int} (h : SL H (.slice id off bs.length c) 1 (byteR bs)) : SL H (.slice id (off + k * 1) (bs.length - k) c') 1 (byteR (bs.drop k)) := by
  obtain ⟨h0, h | ⟨id', off', cap', e1, e2, e3⟩⟩ := h
  · cases h.1
  · simp only [V.slice.injEq] at e1
    obtain ⟨rfl, rfl, _, rfl⟩ := e1
    refine ⟨fun e he => ?_, .inr ⟨_, _, _, by rw [List.length_map, List.length_drop], e2, fun i e he => ?_⟩⟩
    · obtain ⟨b, _, rfl⟩ := List.mem_map.1 he; exact ⟨rfl, rfl⟩
    · simp only [byteR, List.map_drop, List.getElem?_drop] at he
      have := e3 _ e he
      rwa [show off + (k + i) * 1 = off + k * 1 + i * 1 by omega] at this
theorem x_slcc {H : Heap} {id off n k : Nat} (hk : k ≤ n) : exec (.slc 1 true false false) [.slice id off n (some n), .int .i64 k] H = some (.slice id (off + k * 1) (n - k) (some (n - k)), H) := by
  have hb : bounds3 true false false n ((some n).getD n) [V.int .i64 k] = some (k, n, n) := by simp [bounds3, natV]
  simp only [exec, hb]
  rw [if_pos ⟨hk, Nat.le_refl _, Nat.le_refl _, by simp [slcOk]⟩]
theorem word_ok {p : V} {H : Heap} {bs : List Int} (hp : SL H p 1 (byteR bs)) (hl : 8 ≤ bs.length) (K : V → Heap → Prop) (hK : K (.int .u64 (wordF bs)) H) : SCalls PP 109 [p] H K :=
  SCalls.mono (word_calls hp hl) fun r H' ⟨h1, h2⟩ => by rw [h1, h2]; exact hK
theorem x_pickf (c : Bool) (a : V) (H : Heap) : exec .pick [.bool c, a, .bool false] H = some (if c then a else .bool false, H) := rfl

/-- What a byte slice's end is. -/
def Byt (H : Heap) (id off : Nat) (bs : List Int) : Prop := SL H (.slice id off bs.length (some bs.length)) 1 (byteR bs)
theorem Byt.drop {H : Heap} {id off : Nat} {bs : List Int} (h : Byt H id off bs) (k : Nat) : Byt H id (off + k * 1) (bs.drop k) := by
  unfold Byt
  rw [List.length_drop]
  exact sl_drop h
theorem Byt.slc {H H' : Heap} {id off : Nat} {bs : List Int} (h : Byt H id off bs) {k : Nat} (hk : k ≤ bs.length) : exec (.slc 1 true false false) [.slice id off bs.length (some bs.length), .int .i64 k] H' = some (.slice id (off + k * 1) (bs.drop k).length (some (bs.drop k).length), H') := by
  rw [List.length_drop]; exact x_slcc hk
theorem Byt.ia {H : Heap} {id off : Nat} {bs : List Int} (h : Byt H id off bs) {i : Nat} (hi : i < bs.length) :
    exec (.ia 1) [.slice id off bs.length (some bs.length), .int .i64 i] H = some (.ptr id (off + i), H) ∧ exec (.ld 1) [.ptr id (off + i)] H = some (.int .u8 (bs.getD i 0), H) := by
  obtain ⟨id', o', h1, h2⟩ := byte_ia h hi
  have h3 : exec (.ia 1) [.slice id off bs.length (some bs.length), .int .i64 i] H = some (.ptr id (off + i), H) := by
    simp only [exec]
    rw [if_pos ⟨by omega, by omega⟩]
    simp
  rw [h3] at h1
  cases h1
  exact ⟨h3, h2⟩
end Go.Proofs.YtbadbkdpnbacnaaDoor.Fw

/- Cells: their delta. No condition. -/
namespace Go.Proofs.YtbadbkdpnbacnaaDoor.Fw
open Go
set_option linter.unusedSimpArgs false
set_option linter.unusedVariables false

structure CellA where
  r : Int
  set : V
  ats : List AttrA
def CellA.cells (c : CellA) : List V := [.int .i32 c.r, c.set]
structure CellA.In (H : Heap) (c : CellA) : Prop where
  set : SL H c.set 5 (c.ats.map AttrA.cells)
  al : c.ats.length ≤ big
  sa : ∀ a ∈ c.ats, a.val.s.size ≤ big
theorem CellA.In.ext {H H' : Heap} {c : CellA} (h : c.In H) (k : Ext H H') : c.In H' := { h with set := h.set.ext k }
structure CellsIn (H : Heap) (x : V) (cs : List CellA) : Prop where
  sl : SL H x 2 (cs.map CellA.cells)
  ins : ∀ c ∈ cs, c.In H
  len : cs.length ≤ big
theorem CellsIn.ext {H H' : Heap} {x : V} {cs : List CellA} (h : CellsIn H x cs) (k : Ext H H') : CellsIn H' x cs := ⟨h.sl.ext k, fun c hc => (h.ins c hc).ext k, h.len⟩

theorem MkI.ext {H H' : Heap} {M : Nat → Prop} {p : Nat} {m : MkC} (h : MkI H M p m) (x : Ext H H') : MkI H' M p m := by
  obtain ⟨dv, iv, dcs, ics, dk, ik, rk, h⟩ := h
  have xm := x.toM M
  refine ⟨dv, iv, dcs, ics, dk, ik, rk, Nat.lt_of_lt_of_le h.lt x.next, h.mp, fun j q => Nat.lt_of_lt_of_le (h.mb j q) x.next, by rw [x.get p h.lt]; exact h.at', h.dvec.ext x, h.ivec.ext x, h.md, h.mi, h.di, h.mr, All2.imp (fun a b q => q.step xm (MGrow.refl M H)) h.done, ?_, h.dn, h.inn⟩
  rcases h.ins with q | ⟨ei, el, ci, cl, r, q1, q2, q3, q4, q5⟩
  · exact .inl q
  · exact .inr ⟨ei, el, ci, cl, r, q1, q2, q3, All2.imp (fun a b q => q.step xm (MGrow.refl M H)) q4, q5.step xm (MGrow.refl M H) (x.get r q5.own.lt) q5.mr⟩
theorem Ext.thenM {A H H' : Heap} {M : Nat → Prop} (h : Ext A H) (k : ExtM M H H') (hm : ∀ j, M j → A.next ≤ j) : Ext A H' :=
  ⟨k.gn.trans h.gn, Nat.le_trans h.next k.next, fun j hj => (k.get j (Nat.lt_of_lt_of_le hj h.next) (fun q => by have := hm j q; omega)).trans (h.get j hj)⟩

def tellF (m : MkC) (cs : List CellA) : MkC := cs.foldl (fun m c => m.insert [c.r] c.ats) m
theorem tellF_done : ∀ (cs : List CellA) (m : MkC), (tellF m cs).done = m.done ∧ (tellF m cs).gone = m.gone
  | [], m => ⟨rfl, rfl⟩
  | c :: cs, m => by
    obtain ⟨h1, h2⟩ := tellF_done cs (m.insert [c.r] c.ats)
    exact ⟨h1.trans (by simp [MkC.insert]), h2.trans (by simp [MkC.insert])⟩
theorem insLast_bd {ins : List OpC} {r : Int} {ats : List AttrA} {a : Nat} (h1 : ins.length ≤ a) (h2 : ∀ c ∈ ins, c.rs.length ≤ a) : (insLast ins [r] ats).length ≤ a + 1 ∧ ∀ c ∈ insLast ins [r] ats, c.rs.length ≤ a + 1 := by
  unfold insLast
  split
  · rename_i cl hcl
    split
    · have hne : ins ≠ [] := by rintro rfl; simp at hcl
      refine ⟨by rw [List.length_append, List.length_dropLast]; simp; omega, fun c hc => ?_⟩
      rcases List.mem_append.1 hc with hc | hc
      · have := h2 c ((List.dropLast_sublist ins).subset hc); omega
      · simp at hc
        subst hc
        have := h2 cl (List.mem_of_getLast? hcl)
        simp; omega
    · refine ⟨by rw [List.length_append]; simp; omega, fun c hc => ?_⟩
      rcases List.mem_append.1 hc with hc | hc
      · have := h2 c hc; omega
      · simp at hc; subst hc; simp
  · refine ⟨by rw [List.length_append]; simp; omega, fun c hc => ?_⟩
    rcases List.mem_append.1 hc with hc | hc
    · have := h2 c hc; omega
    · simp at hc; subst hc; simp
theorem tellF_bd : ∀ (cs : List CellA) (m : MkC) (a : Nat), m.ins.length ≤ a → (∀ c ∈ m.ins, c.rs.length ≤ a) → (tellF m cs).ins.length ≤ a + cs.length ∧ ∀ c ∈ (tellF m cs).ins, c.rs.length ≤ a + cs.length
  | [], m, a, h1, h2 => ⟨h1, h2⟩
  | c :: cs, m, a, h1, h2 => by
    obtain ⟨q1, q2⟩ := insLast_bd (r := c.r) (ats := c.ats) h1 h2
    have e : (m.insert [c.r] c.ats).ins = insLast m.ins [c.r] c.ats := by simp [MkC.insert]
    obtain ⟨q3, q4⟩ := tellF_bd cs (m.insert [c.r] c.ats) (a + 1) (by rw [e]; exact q1) (by rw [e]; exact q2)
    rw [List.length_cons]
    exact ⟨by have : (tellF m (c :: cs)) = tellF (m.insert [c.r] c.ats) cs := rfl
              rw [this]; omega, fun x hx => by have := q4 x hx; omega⟩

theorem bslR (r : Int) (H : Heap) : ∃ H', exec (.bsl 1 1 [.int .i32 0] [(0, 1)]) [.int .i32 r] H = some (.slice H.next 0 1 (some 1), H') ∧ Ext H H' ∧ (WF H → WF H') ∧ SL H' (.slice H.next 0 1 (some 1)) 1 (([r] : List Int).map fun x => [V.int .i32 x]) := by
  refine ⟨H.new (.row false 1 [.int .i32 r]), rfl, (Ext.refl H).new _, fun hw => hw.new _, ?_⟩
  have ow : Own (H.new (.row false 1 [.int .i32 r])) H.next 1 [[.int .i32 r]] := ⟨Nat.lt_succ_self _, by rw [new_get]; simp, by simp [V.one]⟩
  exact ow.sl (some 1)

set_option maxRecDepth 20000 in
set_option maxHeartbeats 2000000 in
theorem tell_calls {A H : Heap} (hA : Ext A H) {M : Nat → Prop} {p : Nat} (h : MkI H M p ⟨[], [], 0⟩) (hM : ∀ j, M j → A.next ≤ j) {d : V} {cs : List CellA} (hd : CellsIn A d cs) (hl : cs.length + 1 ≤ big) :
    SCalls PP 50 [.ptr p 0, d] H fun _ H' => ∃ M', MkI H' M' p (tellF ⟨[], [], 0⟩ cs) ∧ (∀ j, M' j → A.next ≤ j) ∧ Ext A H' ∧ WF H' := by
  refine SCalls.go c50 (by simp [fn50]) fun hw => ?_
  have hl' := hl
  unfold big at hl'
  have hlen : ∀ G, exec .len [d] G = some (.int .i64 cs.length, G) := fun G => by have := hd.sl.len (H' := G); rwa [List.length_map] at this
  simp (maxSteps := 1000000) (implicitDefEqProofs := false) only [stp, if_true, if_false, Int.reduceEq, Int.reduceLT, Int.reduceLE, Int.reduceGT, Int.reduceGE, reduceCtorEq, Nat.reduceEqDiff, List.getElem?_cons_zero, List.getElem?_cons_succ, Option.map_some, fn50, enterFr, List.length, List.range, List.range.loop, List.zip, List.zipWith, hlen]
  refine wp_range (len := cs.length) SCalls.scMono (by omega) (fun _ : Unit => [(6, d), (0, .ptr p 0)]) (fun k _ G => Ext A G ∧ WF G ∧ ∃ M, MkI G M p (tellF ⟨[], [], 0⟩ (cs.take k)) ∧ ∀ j, M j → A.next ≤ j) () ⟨hA, hw, M, by simpa [tellF] using h, hM⟩
    (.cons rfl (.cons rfl (.cons rfl (.cons rfl .nil)))) (by decide) (fun s => ⟨rfl, rfl, rfl⟩) ?_ ?_
  · rintro k _ G hk ⟨hAG, hwG, M, hmk, hM⟩
    obtain ⟨i1, o1, ha1, ht1⟩ := (hd.sl.ext hAG).ia (H' := G) (i := k) (e := cs[k].cells) (by rw [List.getElem?_map, List.getElem?_eq_getElem hk]; rfl) .i64
    have e1 := hd.sl.1 cs[k].cells (List.mem_map_of_mem (List.getElem_mem hk))
    obtain ⟨G2, hx2, hw2, hat2, hal2, hst2⟩ := x_copy (Ext.refl G) hwG (z := [.int .i32 0, .nils]) (e := cs[k].cells) (n := 2) rfl rfl e1.1 e1.2
    obtain ⟨G3, b1, b2, b3, b4⟩ := bslR cs[k].r G2
    have lr := hat2.ld (j := 0) (v := .int .i32 cs[k].r) rfl 1
    have ls := (hat2.ext b2).ld (j := 1) (v := cs[k].set) rfl 1
    have hin := (hd.ins cs[k] (List.getElem_mem hk)).ext (hAG.trans (hx2.trans b2))
    obtain ⟨q1, q2⟩ := tellF_bd (cs.take k) ⟨[], [], 0⟩ 0 (by simp) (by simp)
    have htk : (cs.take k).length = k := by rw [List.length_take]; omega
    rw [htk, Nat.zero_add] at q1 q2
    simp (maxSteps := 1000000) (implicitDefEqProofs := false) only [stp, if_true, if_false, Int.reduceEq, Int.reduceLT, Int.reduceLE, Int.reduceGT, Int.reduceGE, reduceCtorEq, Nat.reduceEqDiff, List.getElem?_cons_zero, List.getElem?_cons_succ, Option.map_some, ha1, ht1.lda (n := 2) rfl, hal2, hst2, lr, b1, ls]
    refine SCalls.mono (insert_calls (hmk.ext (hx2.trans b2)) b4 hin.set (by simp [big]) hin.al hin.sa (by unfold big; omega) (fun c hc => by have := q2 c hc; simp [big]; omega)) ?_
    rintro r G4 ⟨M', m1, m2, m3, m4⟩
    have hMA : ∀ j, M' j → A.next ≤ j := fun j hj => by
      rcases m3 j hj with q | q
      · exact hM j q
      · have := (hAG.trans (hx2.trans b2)).next; omega
    simp (maxSteps := 1000000) (implicitDefEqProofs := false) only [stp, if_true, if_false, Int.reduceEq, Int.reduceLT, Int.reduceLE, Int.reduceGT, Int.reduceGE, reduceCtorEq, Nat.reduceEqDiff, List.getElem?_cons_zero, List.getElem?_cons_succ, Option.map_some, if_true]
    refine ⟨(), ⟨(hAG.trans (hx2.trans b2)).thenM m2 hM, m4, M', ?_, hMA⟩, .cons rfl (.cons rfl (.cons rfl (.cons rfl .nil)))⟩
    have : tellF ⟨[], [], 0⟩ (cs.take (k + 1)) = (tellF ⟨[], [], 0⟩ (cs.take k)).insert [cs[k].r] cs[k].ats := by
      rw [List.take_succ_eq_append_getElem hk]; unfold tellF; rw [List.foldl_append]; rfl
    rw [this]
    exact m1
  · rintro _ G ⟨hAG, hwG, M, hmk, hM⟩
    rw [List.take_length] at hmk
    simp (maxSteps := 1000000) (implicitDefEqProofs := false) only [stp, if_true, if_false, Int.reduceEq, Int.reduceLT, Int.reduceLE, Int.reduceGT, Int.reduceGE, reduceCtorEq, Nat.reduceEqDiff, List.getElem?_cons_zero, List.getElem?_cons_succ, Option.map_some, if_true]
    exact ⟨M, hmk, hM, hAG, hwG⟩

/-! ### patch.Diff from nothing -/
def chgOf (a : AttrA) : ChgA := ⟨a.key, false, a.val⟩
abbrev zc : List V := [.int .i64 0, .bool false, .int .u8 0, .int .i64 0, .int .u64 0, .str ⟨#[]⟩]
abbrev za : List V := [.int .i64 0, .int .u8 0, .int .i64 0, .int .u64 0, .str ⟨#[]⟩]
theorem change_calls (a : AttrA) (H : Heap) : SCalls PP 72 [.agg a.cells] H fun r H' => Ext H H' ∧ WF H' ∧ r = .agg (chgOf a).cells := by
  refine SCalls.go c72 (by simp [fn72]) fun hw => ?_
  obtain ⟨H2, hx2, hw2, ha2, hbx⟩ := x_boxed (Ext.refl H) hw (e := a.cells) rfl
  have hal := x_alloc H2 zc rfl
  have hx3 : Ext H2 (H2.new (.row false 6 zc)) := (Ext.refl H2).new _
  have hw3 : WF (H2.new (.row false 6 zc)) := hw2.new _
  have hg := new_get H2 (.row false 6 zc)
  have ha3 := ha2.ext hx3
  have l0 := ha3.ld (j := 0) (v := .int .i64 a.key) rfl 1
  have hat1 : At (H2.new (.row false 6 zc)) H.next (0 + 1) a.val.cells := ha3.sub 1 (Nat.le_refl _) (fun j v hj => by
    rw [Nat.add_comm]; exact hj)
  have l1 := hat1.lda (n := 4) rfl
  have hb : exec (.build zc [(0, 1), (2, 4)]) [.int .i64 a.key, .agg a.val.cells] (H2.new (.row false 6 zc)) = some (.agg (chgOf a).cells, H2.new (.row false 6 zc)) := rfl
  have hst := x_st (v := .agg (chgOf a).cells) hg (n := 6) rfl rfl rfl
  have hat := at_set (H := H2.new (.row false 6 zc)) (i := H2.next) (e := (chgOf a).cells) (Nat.lt_succ_self _) 6
  simp only [zc] at hal hx3 hw3 hg ha3 l0 hat1 l1 hb hst hat
  simp (maxSteps := 1000000) (implicitDefEqProofs := false) only [stp, if_true, if_false, Int.reduceEq, Int.reduceLT, Int.reduceLE, Int.reduceGT, Int.reduceGE, reduceCtorEq, Nat.reduceEqDiff, List.getElem?_cons_zero, List.getElem?_cons_succ, Option.map_some, fn72, enterFr, List.length, List.range, List.range.loop, List.zip, List.zipWith, hbx, hal, l0, l1, hb, hst]
  show kfin _ _ (evCons (cellsAt _ 6 (some (.ptr H2.next 0))) (some []))
  rw [show (V.agg (chgOf a).cells).cells = (chgOf a).cells from rfl, hat.cells (n := 6) rfl]
  simp (maxSteps := 1000000) (implicitDefEqProofs := false) only [stp, if_true, if_false, Int.reduceEq, Int.reduceLT, Int.reduceLE, Int.reduceGT, Int.reduceGE, reduceCtorEq, Nat.reduceEqDiff, List.getElem?_cons_zero, List.getElem?_cons_succ, Option.map_some, if_true]
  exact ⟨(hx2.trans hx3).set (Nat.le_of_lt (by have := hx2.next; have : H.next < H2.next := ha2.1; omega)) _, hw3.set hg _, by trivial⟩
theorem bslC (e : List V) (he : e.length = 6) (ho : e.all V.one = true) (H : Heap) : ∃ H', exec (.bsl 6 1 zc [(0, 6)]) [.agg e] H = some (.slice H.next 0 1 (some 1), H') ∧ Ext H H' ∧ (WF H → WF H') ∧ SL H' (.slice H.next 0 1 (some 1)) 6 [e] := by
  refine ⟨H.new (.row false 6 e), ?_, (Ext.refl H).new _, fun hw => hw.new _, ?_⟩
  · match e, he with
    | [a, b, c, d, f, g], _ =>
      have hf : fillA zc [((0, 6), .agg [a, b, c, d, f, g])] = some [a, b, c, d, f, g] := by
        simp only [fillA]
        rfl
      simp only [exec, List.length_cons, List.length_nil, if_true, List.zip_cons_cons, List.zip_nil_right, hf, Option.bind_some, ho]
  · have ow : Own (H.new (.row false 6 e)) H.next 6 [e] := ⟨Nat.lt_succ_self _, by rw [new_get]; simp, by simpa using ⟨he, by simpa using ho⟩⟩
    exact ow.sl (some 1)
set_option maxRecDepth 20000 in
set_option maxHeartbeats 4000000 in
theorem diffNil_calls {H : Heap} {sv : V} {ats : List AttrA} (hs : SL H sv 5 (ats.map AttrA.cells)) (hl : ats.length ≤ big) :
    SCalls PP 52 [.nils, sv] H fun r H' => Ext H H' ∧ WF H' ∧ ∃ k, Vec H' r 6 ((ats.map chgOf).map ChgA.cells) k ∧ (∀ j, k = some j → H.next ≤ j) ∧ (k = none → ats = []) := by
  refine SCalls.go c52 (by simp [fn52]) fun hw => ?_
  unfold big at hl
  have hlen : ∀ G, exec .len [sv] G = some (.int .i64 ats.length, G) := fun G => by have := hs.len (H' := G); rwa [List.length_map] at this
  have hs0 : ∀ G, exec (.slc 5 true false false) [.nils, .int .i64 0] G = some (.nils, G) := fun _ => rfl
  simp (maxSteps := 1000000) (implicitDefEqProofs := false) only [stp, if_true, if_false, Int.reduceEq, Int.reduceLT, Int.reduceLE, Int.reduceGT, Int.reduceGE, reduceCtorEq, Nat.reduceEqDiff, List.getElem?_cons_zero, List.getElem?_cons_succ, Option.map_some, fn52, enterFr, List.length, List.range, List.range.loop, List.zip, List.zipWith, hlen]
  refine wp_range (len := ats.length) SCalls.scMono (by omega) (fun r : V => [(11, sv), (0, .nils), (5, r), (6, .int .i64 0)]) (fun k r G => Ext H G ∧ WF G ∧ ∃ kk, Vec G r 6 (((ats.take k).map chgOf).map ChgA.cells) kk ∧ (∀ j, kk = some j → H.next ≤ j) ∧ (kk = none → ats.take k = [])) .nils ⟨Ext.refl H, hw, none, by simpa using Vec.nil H 6, fun j e => (by cases e), fun _ => by simp⟩
    (.cons rfl (.cons rfl (.cons rfl (.cons rfl (.cons rfl (.cons rfl .nil)))))) (by decide) (fun s => ⟨rfl, rfl, rfl⟩) ?_ ?_
  · rintro k r G hk ⟨hx, hwG, kk, hv, hkk, hk0⟩
    obtain ⟨i1, o1, ha1, ht1⟩ := (hs.ext hx).ia (H' := G) (i := k) (e := ats[k].cells) (by rw [List.getElem?_map, List.getElem?_eq_getElem hk]; rfl) .i64
    obtain ⟨G2, hx2, hw2, hat2, hal2, hst2⟩ := x_copy (Ext.refl G) hwG (z := za) (e := ats[k].cells) (n := 5) rfl rfl rfl rfl
    have la := hat2.lda (n := 5) rfl
    simp only [za] at hal2
    simp (maxSteps := 1000000) (implicitDefEqProofs := false) only [stp, if_true, if_false, Int.reduceEq, Int.reduceLT, Int.reduceLE, Int.reduceGT, Int.reduceGE, reduceCtorEq, Nat.reduceEqDiff, List.getElem?_cons_zero, List.getElem?_cons_succ, Option.map_some, ha1, ht1.lda (n := 5) rfl, hal2, hst2]
    refine wp_loopI (fun m fr F => F = G2 ∧ FrSub [(13, .int .i64 k), (12, .int .i64 ats.length), (8, .ptr G.next 0), (11, sv), (0, .nils), (5, r), (6, .int .i64 0)] fr) 0 ⟨rfl, .cons rfl (.cons rfl (.cons rfl (.cons rfl (.cons rfl (.cons rfl (.cons rfl .nil))))))⟩ ?_
    rintro m fr F ⟨rfl, hsub⟩
    refine ⟨_, hsub, ?_⟩
    simp (maxSteps := 1000000) (implicitDefEqProofs := false) only [stp, if_true, if_false, Int.reduceEq, Int.reduceLT, Int.reduceLE, Int.reduceGT, Int.reduceGE, reduceCtorEq, Nat.reduceEqDiff, List.getElem?_cons_zero, List.getElem?_cons_succ, Option.map_some, x_len0, la]
    refine SCalls.mono (change_calls ats[k] F) ?_
    rintro r2 G3 ⟨hx3, hw3, rfl⟩
    obtain ⟨G4, b1, b2, b3, b4⟩ := bslC (chgOf ats[k]).cells rfl rfl G3
    have hxx := hx.trans ((hx2.trans hx3).trans b2)
    have hv4 := hv.ext ((hx2.trans hx3).trans b2)
    obtain ⟨s1, s2⟩ := b4.src (by simp)
    have htl : (((ats.take k).map chgOf).map ChgA.cells).length = k := by simp; omega
    obtain ⟨G5, a1, a2, a3, a4, a5, a6, a7⟩ := hv4.app (bytes := 56) (n := 1) (news := [(chgOf ats[k]).cells]) (b3 hw3) (by decide) rfl (by decide) (by simpa using s1) (by simpa using s2) (fun e he => by simp at he; subst he; exact ⟨rfl, rfl⟩) (by omega) (by omega)
    simp only [zc] at b1
    simp (maxSteps := 1000000) (implicitDefEqProofs := false) only [stp, if_true, if_false, Int.reduceEq, Int.reduceLT, Int.reduceLE, Int.reduceGT, Int.reduceGE, reduceCtorEq, Nat.reduceEqDiff, List.getElem?_cons_zero, List.getElem?_cons_succ, Option.map_some, b1, a1]
    have hn4 := hxx.next
    refine ⟨_, ⟨⟨a6.trans hxx.gn, by omega, fun j hj => ?_⟩, a4, some G4.next, ?_, fun j e => (by cases e; omega), fun e => (by cases e)⟩, .cons rfl (.cons rfl (.cons rfl (.cons rfl (.cons rfl (.cons rfl .nil)))))⟩
    · rw [a7 j (by omega) (fun q => by have := hkk j q; omega), hxx.get j hj]
    · rw [List.take_succ_eq_append_getElem hk, List.map_append, List.map_append]
      exact a2
  · rintro r G ⟨hx, hwG, kk, hv, hkk, hk0⟩
    rw [List.take_length] at hv hk0
    simp (maxSteps := 1000000) (implicitDefEqProofs := false) only [stp, if_true, if_false, Int.reduceEq, Int.reduceLT, Int.reduceLE, Int.reduceGT, Int.reduceGE, reduceCtorEq, Nat.reduceEqDiff, List.getElem?_cons_zero, List.getElem?_cons_succ, Option.map_some, hs0, x_len0]
    refine wp_range (len := 0) SCalls.scMono (by omega) (fun _ : Unit => [(5, r)]) (fun k _ F => F = G) () rfl (.cons rfl (.cons rfl (.cons rfl .nil))) (by decide) (fun s => ⟨rfl, rfl, rfl⟩) (fun k _ F hk => by omega) ?_
    rintro _ F rfl
    simp (maxSteps := 1000000) (implicitDefEqProofs := false) only [stp, if_true, if_false, Int.reduceEq, Int.reduceLT, Int.reduceLE, Int.reduceGT, Int.reduceGE, reduceCtorEq, Nat.reduceEqDiff, List.getElem?_cons_zero, List.getElem?_cons_succ, Option.map_some, if_true]
    exact ⟨hx, hwG, kk, hv, hkk, hk0⟩
end Go.Proofs.YtbadbkdpnbacnaaDoor.Fw

/- Cells: Delta, Same; deltas: Same. The plain law. No condition. -/
namespace Go.Proofs.YtbadbkdpnbacnaaDoor.Fw
open Go
set_option linter.unusedSimpArgs false
set_option linter.unusedVariables false

/-! ### Content -/
abbrev m0 : MkC := ⟨[], [], 0⟩
def deltaF (cs : List CellA) : List OpC := match cs.getLast? with
  | none => m0.ops
  | some c => ((tellF m0 cs.dropLast).retain 1 (c.ats.map chgOf)).ops
def CellA.pr (c : CellA) : Int × List AttrA := (c.r, c.ats)
def un (l : List OpC) : List (Int × List AttrA) := (l.map fun c => c.rs.map fun r => (r, c.ats)).flatten
theorem un_append (a b : List OpC) : un (a ++ b) = un a ++ un b := by simp [un]
theorem insLast_un {ins : List OpC} {r : Int} {ats : List AttrA} : un (insLast ins [r] ats) = un ins ++ [(r, ats)] := by
  unfold insLast
  split
  · rename_i cl hcl
    split
    · rename_i he
      have hat : cl.ats = ats := (listEq_iff fun a _ b _ => attrEq_iff).1 he
      have hi : ins = ins.dropLast ++ [cl] := by
        obtain ⟨ys, h⟩ := List.getLast?_eq_some_iff.1 hcl
        rw [h, List.dropLast_concat]
      rw [un_append]
      conv => rhs; rw [hi, un_append]
      simp [un, hat]
    · rw [un_append]; simp [un]
  · rw [un_append]; simp [un]
theorem insLast_kind {ins : List OpC} {r : Int} {ats : List AttrA} (h : ∀ c ∈ ins, c.kind = 2) : ∀ c ∈ insLast ins [r] ats, c.kind = 2 := by
  unfold insLast
  split
  · rename_i cl hcl
    split
    · intro c hc
      rcases List.mem_append.1 hc with hc | hc
      · exact h c ((List.dropLast_sublist ins).subset hc)
      · simp at hc; subst hc; exact h cl (List.mem_of_getLast? hcl)
    · intro c hc
      rcases List.mem_append.1 hc with hc | hc
      · exact h c hc
      · simp at hc; subst hc; rfl
  · intro c hc
    rcases List.mem_append.1 hc with hc | hc
    · exact h c hc
    · simp at hc; subst hc; rfl
theorem tellF_un : ∀ (cs : List CellA) (m : MkC), un (tellF m cs).ins = un m.ins ++ cs.map CellA.pr
  | [], m => by simp [tellF]
  | c :: cs, m => by
    have e : (m.insert [c.r] c.ats).ins = insLast m.ins [c.r] c.ats := by simp [MkC.insert]
    have := tellF_un cs (m.insert [c.r] c.ats)
    rw [e, insLast_un] at this
    show un (tellF (m.insert [c.r] c.ats) cs).ins = _
    rw [this]
    simp [CellA.pr]
theorem tellF_kind : ∀ (cs : List CellA) (m : MkC), (∀ c ∈ m.ins, c.kind = 2) → ∀ c ∈ (tellF m cs).ins, c.kind = 2
  | [], m, h => h
  | c :: cs, m, h => by
    have e : (m.insert [c.r] c.ats).ins = insLast m.ins [c.r] c.ats := by simp [MkC.insert]
    exact tellF_kind cs (m.insert [c.r] c.ats) (by rw [e]; exact insLast_kind h)
theorem tellF_congr : ∀ (cs ds : List CellA) (m : MkC), cs.map CellA.pr = ds.map CellA.pr → tellF m cs = tellF m ds
  | [], [], m, _ => rfl
  | [], d :: ds, m, h => by simp at h
  | c :: cs, [], m, h => by simp at h
  | c :: cs, d :: ds, m, h => by
    simp only [List.map_cons, List.cons.injEq, CellA.pr, Prod.mk.injEq] at h
    show tellF (m.insert [c.r] c.ats) cs = tellF (m.insert [d.r] d.ats) ds
    rw [h.1.1, h.1.2]
    exact tellF_congr cs ds _ (by simpa [CellA.pr] using h.2)

def retO (ats : List AttrA) : List OpC := if ats = [] then [] else [⟨1, 1, [], [], ats.map chgOf⟩]
theorem deltaF_eq (i : List CellA) (c : CellA) : deltaF (i ++ [c]) = (tellF m0 i).ins ++ retO c.ats := by
  obtain ⟨h1, h2⟩ := tellF_done i m0
  have hk := tellF_kind i m0 (by simp)
  unfold deltaF
  rw [List.getLast?_concat, List.dropLast_concat]
  generalize tellF m0 i = m at *
  obtain ⟨done, ins, gone⟩ := m
  simp only at h1 h2 hk
  subst h1 h2
  have hrd : retainDone ins 1 (c.ats.map chgOf) = ins ++ [⟨1, 1, [], [], c.ats.map chgOf⟩] := by
    unfold retainDone
    split
    · rename_i cl hcl
      have := hk cl (List.mem_of_getLast? hcl)
      have hn : ¬ (isRetain cl (c.ats.map chgOf) = true) := by simp [isRetain, this]
      rw [if_neg hn]
    · rfl
  have hr : (MkC.mk [] ins 0).retain 1 (c.ats.map chgOf) = ⟨ins ++ [⟨1, 1, [], [], c.ats.map chgOf⟩], [], 0⟩ := by
    unfold MkC.retain
    rw [if_neg (by decide)]
    simp [delO, hrd]
  show ((MkC.mk [] ins 0).retain 1 (c.ats.map chgOf)).ops = ins ++ retO c.ats
  rw [hr]
  unfold MkC.ops MkC.all trimO
  simp only [delO, List.nil_append, List.append_nil]
  rw [if_neg (by decide), List.append_nil, List.getLast?_concat]
  simp only
  unfold retO
  by_cases ha : c.ats = []
  · rw [if_pos ⟨trivial, by rw [ha]; rfl⟩, if_pos ha, List.dropLast_concat, List.append_nil]
  · rw [if_neg (fun q => ha (by simpa using q.2)), if_neg ha]
theorem chgOf_inj : ∀ {a b : List AttrA}, a.map chgOf = b.map chgOf → a = b
  | [], [], _ => rfl
  | [], b :: l, h => by simp at h
  | a :: l, [], h => by simp at h
  | a :: l, b :: k, h => by
    simp only [List.map_cons, List.cons.injEq] at h
    rw [chgOf_inj h.2]
    congr 1
    cases a; cases b
    have := h.1
    simp [chgOf] at this
    rw [this.1, this.2]
/-- CellsApart, as a plain law. -/
theorem apart_law {i1 i2 : List CellA} {c1 c2 : CellA} (hr : c1.r = c2.r) : deltaF (i1 ++ [c1]) = deltaF (i2 ++ [c2]) ↔ (i1 ++ [c1]).map CellA.pr = (i2 ++ [c2]).map CellA.pr := by
  rw [deltaF_eq, deltaF_eq]
  have hk1 := tellF_kind i1 m0 (by simp)
  have hk2 := tellF_kind i2 m0 (by simp)
  have hu1 := tellF_un i1 m0
  have hu2 := tellF_un i2 m0
  constructor
  · intro h
    have hf : ∀ (l : List OpC) (ats : List AttrA), (∀ c ∈ l, c.kind = 2) → (l ++ retO ats).filter (fun c => decide (c.kind = 2)) = l ∧ (l ++ retO ats).filter (fun c => decide (c.kind = 1)) = retO ats := by
      intro l ats hl
      constructor
      · rw [List.filter_append, List.filter_eq_self.2 (fun c hc => by simp [hl c hc])]
        have : (retO ats).filter (fun c => decide (c.kind = 2)) = [] := by
          unfold retO
          split <;> simp
        rw [this, List.append_nil]
      · rw [List.filter_append]
        have h0 : l.filter (fun c => decide (c.kind = 1)) = [] := List.filter_eq_nil_iff.2 fun c hc => by simp [hl c hc]
        have : (retO ats).filter (fun c => decide (c.kind = 1)) = retO ats := by
          unfold retO
          split <;> simp
        rw [h0, this, List.nil_append]
    obtain ⟨a1, a2⟩ := hf _ c1.ats hk1
    obtain ⟨b1, b2⟩ := hf _ c2.ats hk2
    rw [h] at a1 a2
    have e1 := a1.symm.trans b1
    have e2 := a2.symm.trans b2
    have hi : i1.map CellA.pr = i2.map CellA.pr := by
      have := congrArg un e1
      rw [hu1, hu2] at this
      simpa [un] using this
    have ha : c1.ats = c2.ats := by
      unfold retO at e2
      by_cases q1 : c1.ats = []
      · by_cases q2 : c2.ats = []
        · rw [q1, q2]
        · rw [if_pos q1, if_neg q2] at e2; simp at e2
      · by_cases q2 : c2.ats = []
        · rw [if_neg q1, if_pos q2] at e2; simp at e2
        · rw [if_neg q1, if_neg q2] at e2
          simp at e2
          exact chgOf_inj (by simpa using e2)
    simp [hi, CellA.pr, hr, ha]
  · intro h
    rw [List.map_append, List.map_append] at h
    obtain ⟨h1, h2⟩ := List.append_inj' h rfl
    simp only [List.map_cons, List.map_nil, List.cons.injEq, CellA.pr, Prod.mk.injEq, and_true] at h2
    rw [tellF_congr i1 i2 m0 h1, h2.2]

/-! ### Same -/
def opEq (a b : OpC) : Bool := decide (a.kind = b.kind) && (decide (a.n = b.n) && (listEq runeEq a.rs b.rs && (listEq attrEq a.ats b.ats && listEq chgEq a.chs b.chs)))
theorem runeEq_iff {a b : Int} : runeEq a b = true ↔ a = b := by simp [runeEq]
theorem opEq_iff {a b : OpC} : opEq a b = true ↔ a = b := by
  cases a; cases b
  simp only [opEq, Bool.and_eq_true, decide_eq_true_eq, OpC.mk.injEq, listEq_iff fun a _ b _ => runeEq_iff, listEq_iff fun a _ b _ => attrEq_iff, listEq_iff fun a _ b _ => chgEq_iff]
def pairEq (a b : Int × List AttrA) : Bool := decide (a.1 = b.1) && listEq attrEq a.2 b.2
theorem pairEq_iff {a b : Int × List AttrA} : pairEq a b = true ↔ a = b := by
  cases a; cases b
  simp only [pairEq, Bool.and_eq_true, decide_eq_true_eq, Prod.mk.injEq, listEq_iff fun a _ b _ => attrEq_iff]
theorem listEq_map {α β : Type} (e : β → β → Bool) (f : α → β) : ∀ (us bs : List α), listEq (fun a b => e (f a) (f b)) us bs = listEq e (us.map f) (bs.map f)
  | [], [] => rfl
  | [], b :: bs => rfl
  | a :: us, [] => rfl
  | a :: us, b :: bs => by simp only [listEq, List.map_cons, listEq_map e f us bs]

set_option maxRecDepth 20000 in
set_option maxHeartbeats 4000000 in
theorem opsSame1_calls {H : Heap} {o o' : OpA} (h : o.In H) (h' : o'.In H) (ho : o.cells.all V.one = true) (ho' : o'.cells.all V.one = true) : SCalls PP 46 [.agg o.cells, .agg o'.cells] H fun r H' => H' = H ∧ r = .bool (opEq o.con o'.con) := by
  refine SCalls.keep (R := fun r => r = .bool (opEq o.con o'.con)) (SCalls.go c46 (by simp [fn46]) fun hw => ?_)
  obtain ⟨H2, hx2, hw2, ha2, hb2⟩ := x_boxed (Ext.refl H) hw (e := o.cells) ho
  obtain ⟨H3, hx3, hw3, ha3, hb3⟩ := x_boxed (Ext.refl H2) hw2 (e := o'.cells) ho'
  have hxx := hx2.trans hx3
  have ha := ha2.ext hx3
  have l0 := ha.ld (j := 0) (v := .int .u8 o.kind) rfl 1
  have l1 := ha.ld (j := 1) (v := .int .i64 o.n) rfl 1
  have l2 := ha.ld (j := 2) (v := o.runes) rfl 1
  have l3 := ha.ld (j := 3) (v := o.set) rfl 1
  have l4 := ha.ld (j := 4) (v := o.patch) rfl 1
  have k0 := ha3.ld (j := 0) (v := .int .u8 o'.kind) rfl 1
  have k1 := ha3.ld (j := 1) (v := .int .i64 o'.n) rfl 1
  have k2 := ha3.ld (j := 2) (v := o'.runes) rfl 1
  have k3 := ha3.ld (j := 3) (v := o'.set) rfl 1
  have k4 := ha3.ld (j := 4) (v := o'.patch) rfl 1
  have h3 := h.ext hxx
  have h3' := h'.ext hxx
  by_cases e0 : o.kind = o'.kind
  rotate_left
  · simp (maxSteps := 1000000) (implicitDefEqProofs := false) only [stp, if_true, if_false, Int.reduceEq, Int.reduceLT, Int.reduceLE, Int.reduceGT, Int.reduceGE, reduceCtorEq, Nat.reduceEqDiff, List.getElem?_cons_zero, List.getElem?_cons_succ, Option.map_some, fn46, enterFr, List.length, List.range, List.range.loop, List.zip, List.zipWith, hb2, hb3, l0, k0, e0]
    exact ⟨hxx, by simp [opEq, OpA.con, e0], rfl⟩
  by_cases e1 : o.n = o'.n
  rotate_left
  · simp (maxSteps := 1000000) (implicitDefEqProofs := false) only [stp, if_true, if_false, Int.reduceEq, Int.reduceLT, Int.reduceLE, Int.reduceGT, Int.reduceGE, reduceCtorEq, Nat.reduceEqDiff, List.getElem?_cons_zero, List.getElem?_cons_succ, Option.map_some, fn46, enterFr, List.length, List.range, List.range.loop, List.zip, List.zipWith, hb2, hb3, l0, k0, e0, l1, k1, e1]
    exact ⟨hxx, by simp [opEq, OpA.con, e0, e1], rfl⟩
  simp (maxSteps := 1000000) (implicitDefEqProofs := false) only [stp, if_true, if_false, Int.reduceEq, Int.reduceLT, Int.reduceLE, Int.reduceGT, Int.reduceGE, reduceCtorEq, Nat.reduceEqDiff, List.getElem?_cons_zero, List.getElem?_cons_succ, Option.map_some, fn46, enterFr, List.length, List.range, List.range.loop, List.zip, List.zipWith, hb2, hb3, l0, k0, e0, l1, k1, e1, l2, k2]
  refine SCalls.mono (equalR_calls h3.runes h3'.runes h3.rl) ?_
  rintro r G ⟨rfl, rfl⟩
  cases e2 : listEq runeEq o.rs o'.rs with
  | false =>
    simp (maxSteps := 1000000) (implicitDefEqProofs := false) only [stp, if_true, if_false, Int.reduceEq, Int.reduceLT, Int.reduceLE, Int.reduceGT, Int.reduceGE, reduceCtorEq, Nat.reduceEqDiff, List.getElem?_cons_zero, List.getElem?_cons_succ, Option.map_some, e2]
    exact ⟨hxx, by simp [opEq, OpA.con, e0, e1, e2], rfl⟩
  | true =>
    simp (maxSteps := 1000000) (implicitDefEqProofs := false) only [stp, if_true, if_false, Int.reduceEq, Int.reduceLT, Int.reduceLE, Int.reduceGT, Int.reduceGE, reduceCtorEq, Nat.reduceEqDiff, List.getElem?_cons_zero, List.getElem?_cons_succ, Option.map_some, e2, l3, k3]
    refine SCalls.mono (attrsSame_calls h3.set h3'.set h3.al) ?_
    rintro r G ⟨rfl, rfl⟩
    cases e3 : listEq attrEq o.ats o'.ats with
    | false =>
      simp (maxSteps := 1000000) (implicitDefEqProofs := false) only [stp, if_true, if_false, Int.reduceEq, Int.reduceLT, Int.reduceLE, Int.reduceGT, Int.reduceGE, reduceCtorEq, Nat.reduceEqDiff, List.getElem?_cons_zero, List.getElem?_cons_succ, Option.map_some, e3]
      exact ⟨hxx, by simp [opEq, OpA.con, e0, e1, e2, e3], rfl⟩
    | true =>
      simp (maxSteps := 1000000) (implicitDefEqProofs := false) only [stp, if_true, if_false, Int.reduceEq, Int.reduceLT, Int.reduceLE, Int.reduceGT, Int.reduceGE, reduceCtorEq, Nat.reduceEqDiff, List.getElem?_cons_zero, List.getElem?_cons_succ, Option.map_some, e3, l4, k4]
      refine SCalls.mono (patchSame_calls h3.patch h3'.patch h3.cl) ?_
      rintro r G ⟨rfl, rfl⟩
      simp (maxSteps := 1000000) (implicitDefEqProofs := false) only [stp, if_true, if_false, Int.reduceEq, Int.reduceLT, Int.reduceLE, Int.reduceGT, Int.reduceGE, reduceCtorEq, Nat.reduceEqDiff, List.getElem?_cons_zero, List.getElem?_cons_succ, Option.map_some, if_true]
      exact ⟨hxx, by simp [opEq, OpA.con, e0, e1, e2, e3], rfl⟩
theorem opsSame_calls {H : Heap} {x y : V} {us bs : List OpA} (hx : OpsIn H x us) (hy : OpsIn H y bs) : SCalls PP 19 [x, y] H fun r H' => H' = H ∧ r = .bool (listEq opEq (us.map OpA.con) (bs.map OpA.con)) := by
  refine SCalls.go c19 (by simp [fn19]) fun hw => ?_
  simp (maxSteps := 1000000) (implicitDefEqProofs := false) only [stp, if_true, if_false, Int.reduceEq, Int.reduceLT, Int.reduceLE, Int.reduceGT, Int.reduceGE, reduceCtorEq, Nat.reduceEqDiff, List.getElem?_cons_zero, List.getElem?_cons_succ, Option.map_some, fn19, enterFr, List.length, List.range, List.range.loop, List.zip, List.zipWith]
  refine SCalls.mono (equalFunc_gen (enc := OpA.cells) (eq := fun a b => opEq a.con b.con) (show compFn PP 45 = some (equalFuncFn 5 zo) from c45) rfl rfl (fun H' hx' a ha b hb => opsSame1_calls ((hx.ins a ha).ext hx') ((hy.ins b hb).ext hx') (hx.sl.1 _ (List.mem_map_of_mem ha)).2 (hy.sl.1 _ (List.mem_map_of_mem hb)).2) hx.sl hy.sl hx.len) ?_
  rintro r G ⟨rfl, rfl⟩
  simp (maxSteps := 1000000) (implicitDefEqProofs := false) only [stp, if_true, if_false, Int.reduceEq, Int.reduceLT, Int.reduceLE, Int.reduceGT, Int.reduceGE, reduceCtorEq, Nat.reduceEqDiff, List.getElem?_cons_zero, List.getElem?_cons_succ, Option.map_some, if_true]
  exact ⟨by trivial, by rw [listEq_map]⟩
theorem cellsSame1_calls {H : Heap} {o o' : CellA} (h : o.In H) (h' : o'.In H) (ho : o.cells.all V.one = true) (ho' : o'.cells.all V.one = true) : SCalls PP 43 [.agg o.cells, .agg o'.cells] H fun r H' => H' = H ∧ r = .bool (pairEq o.pr o'.pr) := by
  refine SCalls.keep (R := fun r => r = .bool (pairEq o.pr o'.pr)) (SCalls.go c43 (by simp [fn43]) fun hw => ?_)
  obtain ⟨H2, hx2, hw2, ha2, hb2⟩ := x_boxed (Ext.refl H) hw (e := o.cells) ho
  obtain ⟨H3, hx3, hw3, ha3, hb3⟩ := x_boxed (Ext.refl H2) hw2 (e := o'.cells) ho'
  have hxx := hx2.trans hx3
  have ha := ha2.ext hx3
  have l0 := ha.ld (j := 0) (v := .int .i32 o.r) rfl 1
  have l1 := ha.ld (j := 1) (v := o.set) rfl 1
  have k0 := ha3.ld (j := 0) (v := .int .i32 o'.r) rfl 1
  have k1 := ha3.ld (j := 1) (v := o'.set) rfl 1
  by_cases e0 : o.r = o'.r
  rotate_left
  · simp (maxSteps := 1000000) (implicitDefEqProofs := false) only [stp, if_true, if_false, Int.reduceEq, Int.reduceLT, Int.reduceLE, Int.reduceGT, Int.reduceGE, reduceCtorEq, Nat.reduceEqDiff, List.getElem?_cons_zero, List.getElem?_cons_succ, Option.map_some, fn43, enterFr, List.length, List.range, List.range.loop, List.zip, List.zipWith, hb2, hb3, l0, k0, e0]
    exact ⟨hxx, by simp [pairEq, CellA.pr, e0], rfl⟩
  simp (maxSteps := 1000000) (implicitDefEqProofs := false) only [stp, if_true, if_false, Int.reduceEq, Int.reduceLT, Int.reduceLE, Int.reduceGT, Int.reduceGE, reduceCtorEq, Nat.reduceEqDiff, List.getElem?_cons_zero, List.getElem?_cons_succ, Option.map_some, fn43, enterFr, List.length, List.range, List.range.loop, List.zip, List.zipWith, hb2, hb3, l0, k0, e0, l1, k1]
  refine SCalls.mono (attrsSame_calls (h.ext hxx).set (h'.ext hxx).set h.al) ?_
  rintro r G ⟨rfl, rfl⟩
  simp (maxSteps := 1000000) (implicitDefEqProofs := false) only [stp, if_true, if_false, Int.reduceEq, Int.reduceLT, Int.reduceLE, Int.reduceGT, Int.reduceGE, reduceCtorEq, Nat.reduceEqDiff, List.getElem?_cons_zero, List.getElem?_cons_succ, Option.map_some, if_true]
  exact ⟨hxx, by simp [pairEq, CellA.pr, e0], rfl⟩
theorem cellsSame_calls {H : Heap} {x y : V} {us bs : List CellA} (hx : CellsIn H x us) (hy : CellsIn H y bs) : SCalls PP 18 [x, y] H fun r H' => H' = H ∧ r = .bool (listEq pairEq (us.map CellA.pr) (bs.map CellA.pr)) := by
  refine SCalls.go c18 (by simp [fn18]) fun hw => ?_
  simp (maxSteps := 1000000) (implicitDefEqProofs := false) only [stp, if_true, if_false, Int.reduceEq, Int.reduceLT, Int.reduceLE, Int.reduceGT, Int.reduceGE, reduceCtorEq, Nat.reduceEqDiff, List.getElem?_cons_zero, List.getElem?_cons_succ, Option.map_some, fn18, enterFr, List.length, List.range, List.range.loop, List.zip, List.zipWith]
  refine SCalls.mono (equalFunc_gen (enc := CellA.cells) (eq := fun a b => pairEq a.pr b.pr) (show compFn PP 42 = some (equalFuncFn 2 [.int .i32 0, .nils]) from c42) rfl rfl (fun H' hx' a ha b hb => cellsSame1_calls ((hx.ins a ha).ext hx') ((hy.ins b hb).ext hx') (hx.sl.1 _ (List.mem_map_of_mem ha)).2 (hy.sl.1 _ (List.mem_map_of_mem hb)).2) hx.sl hy.sl hx.len) ?_
  rintro r G ⟨rfl, rfl⟩
  simp (maxSteps := 1000000) (implicitDefEqProofs := false) only [stp, if_true, if_false, Int.reduceEq, Int.reduceLT, Int.reduceLE, Int.reduceGT, Int.reduceGE, reduceCtorEq, Nat.reduceEqDiff, List.getElem?_cons_zero, List.getElem?_cons_succ, Option.map_some, if_true]
  exact ⟨by trivial, by rw [listEq_map]⟩
end Go.Proofs.YtbadbkdpnbacnaaDoor.Fw

/- utf8.Valid: the walk. No condition. -/
namespace Go.Proofs.YtbadbkdpnbacnaaDoor.Fw
open Go
set_option linter.unusedSimpArgs false
set_option linter.unusedVariables false

theorem Byt.ext {H H' : Heap} {id off : Nat} {bs : List Int} (h : Byt H id off bs) (k : Ext H H') : Byt H' id off bs := SL.ext h k

theorem first_ia {H : Heap} (hT : Tabs H) {b : Int} (h0 : 0 ≤ b) (h1 : b < 256) : exec (.iar 256 1) [.ptr 1 0, .int .u8 b] H = some (.ptr 1 (0 + b.toNat * 1), H) ∧ exec (.ld 1) [.ptr 1 (0 + b.toNat * 1)] H = some (.int .u8 (firstT.getD b.toNat 0), H) := by
  constructor
  · simp only [exec]; rw [if_pos ⟨h0, by omega⟩]
  · have hl : b.toNat < firstT.length := by rw [show firstT.length = 256 by decide +kernel]; omega
    have := hT.first.ld (j := b.toNat) (v := .int .u8 (firstT.getD b.toNat 0)) (by simp [List.getD_eq_getElem?_getD, hl]) 1
    rwa [show 0 + b.toNat * 1 = 0 + b.toNat by omega]
theorem acc_ia {H : Heap} (hT : Tabs H) {b : Int} (h0 : 0 ≤ b) (h1 : b < 256) : exec (.iar 16 2) [.ptr 2 0, .int .u8 (accI b)] H = some (.ptr 2 (0 + (accI b).toNat * 2), H) ∧ exec (.lda 2) [.ptr 2 (0 + (accI b).toNat * 2)] H = some (.agg [.int .u8 (loT b), .int .u8 (hiT b)], H) := by
  obtain ⟨a0, a1⟩ := accI_lt h0 h1
  constructor
  · simp only [exec]; rw [if_pos ⟨a0, by omega⟩]
  · have hl : accT.length = 32 := by decide
    have hs : At H 2 (0 + (accI b).toNat * 2) [.int .u8 (loT b), .int .u8 (hiT b)] := by
      refine hT.acc.sub _ (by simp [hl]; omega) fun j v hj => ?_
      match j, hj with
      | 0, hj => simp at hj; subst hj; simp [loT, List.getD_eq_getElem?_getD, hl, show (accI b).toNat * 2 < 32 by omega]
      | 1, hj => simp at hj; subst hj; simp [hiT, List.getD_eq_getElem?_getD, hl, show (accI b).toNat * 2 + 1 < 32 by omega]
      | j + 2, hj => simp at hj
    exact hs.lda (n := 2) rfl

def v108loop : ACode := (.loop
                      (.seq
                       (.seq
                        (.draw (.op ⟨some 49, none, .ex (.mov) [.s 0]⟩ (.op ⟨some 50, none, .ex (.len) [.s 49]⟩ (.op ⟨some 51, none, .ex (.ibin .gtr) [.s 50, .k (.int .i64 32)]⟩ (.op ⟨some 52, none, .ex (.mov) [.s 51]⟩ (.op ⟨some 53, some (52, true), .ex (.mov) [.s 0]⟩ (.op ⟨some 55, some (52, true), .ex (.mov) [.s 0]⟩ (.op ⟨some 59, some (52, true), .ex (.mov) [.s 0]⟩ (.op ⟨some 62, some (52, true), .ex (.mov) [.s 0]⟩ (.fork (.op ⟨some 54, some (52, true), .callf 109 [.s 53]⟩ (.op ⟨some 56, some (52, true), .ex (.slc 1 true false false) [.s 55, .k (.int .i64 8)]⟩ (.fork (.op ⟨some 57, some (52, true), .callf 109 [.s 56]⟩ (.op ⟨some 58, some (52, true), .ex (.ibin .or) [.s 54, .s 57]⟩ (.op ⟨some 60, some (52, true), .ex (.slc 1 true false false) [.s 59, .k (.int .i64 16)]⟩ (.fork (.op ⟨some 61, some (52, true), .callf 109 [.s 60]⟩ (.op ⟨some 63, some (52, true), .ex (.slc 1 true false false) [.s 62, .k (.int .i64 24)]⟩ (.op ⟨some 64, some (52, true), .callf 109 [.s 63]⟩ (.op ⟨some 65, some (52, true), .ex (.ibin .or) [.s 61, .s 64]⟩ (.op ⟨some 66, some (52, true), .ex (.ibin .or) [.s 58, .s 65]⟩ (.op ⟨some 67, some (52, true), .ex (.ibin .and) [.s 66, .k (.int .u64 9259542123273814144)]⟩ (.op ⟨some 68, some (52, true), .ex (.ibin .eql) [.s 67, .k (.int .u64 0)]⟩ (.op ⟨some 69, none, .ex (.pick) [.s 52, .s 68, .k (.bool false)]⟩ .done)))))))) (.op ⟨some 63, some (52, true), .ex (.slc 1 true false false) [.s 62, .k (.int .i64 24)]⟩ (.op ⟨some 61, some (52, true), .callf 109 [.s 60]⟩ (.op ⟨some 64, some (52, true), .callf 109 [.s 63]⟩ (.op ⟨some 65, some (52, true), .ex (.ibin .or) [.s 61, .s 64]⟩ (.op ⟨some 66, some (52, true), .ex (.ibin .or) [.s 58, .s 65]⟩ (.op ⟨some 67, some (52, true), .ex (.ibin .and) [.s 66, .k (.int .u64 9259542123273814144)]⟩ (.op ⟨some 68, some (52, true), .ex (.ibin .eql) [.s 67, .k (.int .u64 0)]⟩ (.op ⟨some 69, none, .ex (.pick) [.s 52, .s 68, .k (.bool false)]⟩ .done)))))))))))) (.fork (.op ⟨some 60, some (52, true), .ex (.slc 1 true false false) [.s 59, .k (.int .i64 16)]⟩ (.fork (.op ⟨some 57, some (52, true), .callf 109 [.s 56]⟩ (.op ⟨some 58, some (52, true), .ex (.ibin .or) [.s 54, .s 57]⟩ (.fork (.op ⟨some 61, some (52, true), .callf 109 [.s 60]⟩ (.op ⟨some 63, some (52, true), .ex (.slc 1 true false false) [.s 62, .k (.int .i64 24)]⟩ (.op ⟨some 64, some (52, true), .callf 109 [.s 63]⟩ (.op ⟨some 65, some (52, true), .ex (.ibin .or) [.s 61, .s 64]⟩ (.op ⟨some 66, some (52, true), .ex (.ibin .or) [.s 58, .s 65]⟩ (.op ⟨some 67, some (52, true), .ex (.ibin .and) [.s 66, .k (.int .u64 9259542123273814144)]⟩ (.op ⟨some 68, some (52, true), .ex (.ibin .eql) [.s 67, .k (.int .u64 0)]⟩ (.op ⟨some 69, none, .ex (.pick) [.s 52, .s 68, .k (.bool false)]⟩ .done)))))))) (.op ⟨some 63, some (52, true), .ex (.slc 1 true false false) [.s 62, .k (.int .i64 24)]⟩ (.op ⟨some 61, some (52, true), .callf 109 [.s 60]⟩ (.op ⟨some 64, some (52, true), .callf 109 [.s 63]⟩ (.op ⟨some 65, some (52, true), .ex (.ibin .or) [.s 61, .s 64]⟩ (.op ⟨some 66, some (52, true), .ex (.ibin .or) [.s 58, .s 65]⟩ (.op ⟨some 67, some (52, true), .ex (.ibin .and) [.s 66, .k (.int .u64 9259542123273814144)]⟩ (.op ⟨some 68, some (52, true), .ex (.ibin .eql) [.s 67, .k (.int .u64 0)]⟩ (.op ⟨some 69, none, .ex (.pick) [.s 52, .s 68, .k (.bool false)]⟩ .done))))))))))) (.op ⟨some 63, some (52, true), .ex (.slc 1 true false false) [.s 62, .k (.int .i64 24)]⟩ (.op ⟨some 57, some (52, true), .callf 109 [.s 56]⟩ (.op ⟨some 58, some (52, true), .ex (.ibin .or) [.s 54, .s 57]⟩ (.op ⟨some 61, some (52, true), .callf 109 [.s 60]⟩ (.op ⟨some 64, some (52, true), .callf 109 [.s 63]⟩ (.op ⟨some 65, some (52, true), .ex (.ibin .or) [.s 61, .s 64]⟩ (.op ⟨some 66, some (52, true), .ex (.ibin .or) [.s 58, .s 65]⟩ (.op ⟨some 67, some (52, true), .ex (.ibin .and) [.s 66, .k (.int .u64 9259542123273814144)]⟩ (.op ⟨some 68, some (52, true), .ex (.ibin .eql) [.s 67, .k (.int .u64 0)]⟩ (.op ⟨some 69, none, .ex (.pick) [.s 52, .s 68, .k (.bool false)]⟩ .done)))))))))))) (.op ⟨some 63, some (52, true), .ex (.slc 1 true false false) [.s 62, .k (.int .i64 24)]⟩ (.fork (.op ⟨some 57, some (52, true), .callf 109 [.s 56]⟩ (.op ⟨some 58, some (52, true), .ex (.ibin .or) [.s 54, .s 57]⟩ (.op ⟨some 60, some (52, true), .ex (.slc 1 true false false) [.s 59, .k (.int .i64 16)]⟩ (.op ⟨some 61, some (52, true), .callf 109 [.s 60]⟩ (.op ⟨some 64, some (52, true), .callf 109 [.s 63]⟩ (.op ⟨some 65, some (52, true), .ex (.ibin .or) [.s 61, .s 64]⟩ (.op ⟨some 66, some (52, true), .ex (.ibin .or) [.s 58, .s 65]⟩ (.op ⟨some 67, some (52, true), .ex (.ibin .and) [.s 66, .k (.int .u64 9259542123273814144)]⟩ (.op ⟨some 68, some (52, true), .ex (.ibin .eql) [.s 67, .k (.int .u64 0)]⟩ (.op ⟨some 69, none, .ex (.pick) [.s 52, .s 68, .k (.bool false)]⟩ .done)))))))))) (.op ⟨some 60, some (52, true), .ex (.slc 1 true false false) [.s 59, .k (.int .i64 16)]⟩ (.op ⟨some 57, some (52, true), .callf 109 [.s 56]⟩ (.op ⟨some 58, some (52, true), .ex (.ibin .or) [.s 54, .s 57]⟩ (.op ⟨some 61, some (52, true), .callf 109 [.s 60]⟩ (.op ⟨some 64, some (52, true), .callf 109 [.s 63]⟩ (.op ⟨some 65, some (52, true), .ex (.ibin .or) [.s 61, .s 64]⟩ (.op ⟨some 66, some (52, true), .ex (.ibin .or) [.s 58, .s 65]⟩ (.op ⟨some 67, some (52, true), .ex (.ibin .and) [.s 66, .k (.int .u64 9259542123273814144)]⟩ (.op ⟨some 68, some (52, true), .ex (.ibin .eql) [.s 67, .k (.int .u64 0)]⟩ (.op ⟨some 69, none, .ex (.pick) [.s 52, .s 68, .k (.bool false)]⟩ .done)))))))))))))))) (.fork (.op ⟨some 56, some (52, true), .ex (.slc 1 true false false) [.s 55, .k (.int .i64 8)]⟩ (.fork (.op ⟨some 54, some (52, true), .callf 109 [.s 53]⟩ (.fork (.op ⟨some 57, some (52, true), .callf 109 [.s 56]⟩ (.op ⟨some 58, some (52, true), .ex (.ibin .or) [.s 54, .s 57]⟩ (.op ⟨some 60, some (52, true), .ex (.slc 1 true false false) [.s 59, .k (.int .i64 16)]⟩ (.fork (.op ⟨some 61, some (52, true), .callf 109 [.s 60]⟩ (.op ⟨some 63, some (52, true), .ex (.slc 1 true false false) [.s 62, .k (.int .i64 24)]⟩ (.op ⟨some 64, some (52, true), .callf 109 [.s 63]⟩ (.op ⟨some 65, some (52, true), .ex (.ibin .or) [.s 61, .s 64]⟩ (.op ⟨some 66, some (52, true), .ex (.ibin .or) [.s 58, .s 65]⟩ (.op ⟨some 67, some (52, true), .ex (.ibin .and) [.s 66, .k (.int .u64 9259542123273814144)]⟩ (.op ⟨some 68, some (52, true), .ex (.ibin .eql) [.s 67, .k (.int .u64 0)]⟩ (.op ⟨some 69, none, .ex (.pick) [.s 52, .s 68, .k (.bool false)]⟩ .done)))))))) (.op ⟨some 63, some (52, true), .ex (.slc 1 true false false) [.s 62, .k (.int .i64 24)]⟩ (.op ⟨some 61, some (52, true), .callf 109 [.s 60]⟩ (.op ⟨some 64, some (52, true), .callf 109 [.s 63]⟩ (.op ⟨some 65, some (52, true), .ex (.ibin .or) [.s 61, .s 64]⟩ (.op ⟨some 66, some (52, true), .ex (.ibin .or) [.s 58, .s 65]⟩ (.op ⟨some 67, some (52, true), .ex (.ibin .and) [.s 66, .k (.int .u64 9259542123273814144)]⟩ (.op ⟨some 68, some (52, true), .ex (.ibin .eql) [.s 67, .k (.int .u64 0)]⟩ (.op ⟨some 69, none, .ex (.pick) [.s 52, .s 68, .k (.bool false)]⟩ .done)))))))))))) (.fork (.op ⟨some 60, some (52, true), .ex (.slc 1 true false false) [.s 59, .k (.int .i64 16)]⟩ (.fork (.op ⟨some 57, some (52, true), .callf 109 [.s 56]⟩ (.op ⟨some 58, some (52, true), .ex (.ibin .or) [.s 54, .s 57]⟩ (.fork (.op ⟨some 61, some (52, true), .callf 109 [.s 60]⟩ (.op ⟨some 63, some (52, true), .ex (.slc 1 true false false) [.s 62, .k (.int .i64 24)]⟩ (.op ⟨some 64, some (52, true), .callf 109 [.s 63]⟩ (.op ⟨some 65, some (52, true), .ex (.ibin .or) [.s 61, .s 64]⟩ (.op ⟨some 66, some (52, true), .ex (.ibin .or) [.s 58, .s 65]⟩ (.op ⟨some 67, some (52, true), .ex (.ibin .and) [.s 66, .k (.int .u64 9259542123273814144)]⟩ (.op ⟨some 68, some (52, true), .ex (.ibin .eql) [.s 67, .k (.int .u64 0)]⟩ (.op ⟨some 69, none, .ex (.pick) [.s 52, .s 68, .k (.bool false)]⟩ .done)))))))) (.op ⟨some 63, some (52, true), .ex (.slc 1 true false false) [.s 62, .k (.int .i64 24)]⟩ (.op ⟨some 61, some (52, true), .callf 109 [.s 60]⟩ (.op ⟨some 64, some (52, true), .callf 109 [.s 63]⟩ (.op ⟨some 65, some (52, true), .ex (.ibin .or) [.s 61, .s 64]⟩ (.op ⟨some 66, some (52, true), .ex (.ibin .or) [.s 58, .s 65]⟩ (.op ⟨some 67, some (52, true), .ex (.ibin .and) [.s 66, .k (.int .u64 9259542123273814144)]⟩ (.op ⟨some 68, some (52, true), .ex (.ibin .eql) [.s 67, .k (.int .u64 0)]⟩ (.op ⟨some 69, none, .ex (.pick) [.s 52, .s 68, .k (.bool false)]⟩ .done))))))))))) (.op ⟨some 63, some (52, true), .ex (.slc 1 true false false) [.s 62, .k (.int .i64 24)]⟩ (.op ⟨some 57, some (52, true), .callf 109 [.s 56]⟩ (.op ⟨some 58, some (52, true), .ex (.ibin .or) [.s 54, .s 57]⟩ (.op ⟨some 61, some (52, true), .callf 109 [.s 60]⟩ (.op ⟨some 64, some (52, true), .callf 109 [.s 63]⟩ (.op ⟨some 65, some (52, true), .ex (.ibin .or) [.s 61, .s 64]⟩ (.op ⟨some 66, some (52, true), .ex (.ibin .or) [.s 58, .s 65]⟩ (.op ⟨some 67, some (52, true), .ex (.ibin .and) [.s 66, .k (.int .u64 9259542123273814144)]⟩ (.op ⟨some 68, some (52, true), .ex (.ibin .eql) [.s 67, .k (.int .u64 0)]⟩ (.op ⟨some 69, none, .ex (.pick) [.s 52, .s 68, .k (.bool false)]⟩ .done)))))))))))) (.op ⟨some 63, some (52, true), .ex (.slc 1 true false false) [.s 62, .k (.int .i64 24)]⟩ (.fork (.op ⟨some 57, some (52, true), .callf 109 [.s 56]⟩ (.op ⟨some 58, some (52, true), .ex (.ibin .or) [.s 54, .s 57]⟩ (.op ⟨some 60, some (52, true), .ex (.slc 1 true false false) [.s 59, .k (.int .i64 16)]⟩ (.op ⟨some 61, some (52, true), .callf 109 [.s 60]⟩ (.op ⟨some 64, some (52, true), .callf 109 [.s 63]⟩ (.op ⟨some 65, some (52, true), .ex (.ibin .or) [.s 61, .s 64]⟩ (.op ⟨some 66, some (52, true), .ex (.ibin .or) [.s 58, .s 65]⟩ (.op ⟨some 67, some (52, true), .ex (.ibin .and) [.s 66, .k (.int .u64 9259542123273814144)]⟩ (.op ⟨some 68, some (52, true), .ex (.ibin .eql) [.s 67, .k (.int .u64 0)]⟩ (.op ⟨some 69, none, .ex (.pick) [.s 52, .s 68, .k (.bool false)]⟩ .done)))))))))) (.op ⟨some 60, some (52, true), .ex (.slc 1 true false false) [.s 59, .k (.int .i64 16)]⟩ (.op ⟨some 57, some (52, true), .callf 109 [.s 56]⟩ (.op ⟨some 58, some (52, true), .ex (.ibin .or) [.s 54, .s 57]⟩ (.op ⟨some 61, some (52, true), .callf 109 [.s 60]⟩ (.op ⟨some 64, some (52, true), .callf 109 [.s 63]⟩ (.op ⟨some 65, some (52, true), .ex (.ibin .or) [.s 61, .s 64]⟩ (.op ⟨some 66, some (52, true), .ex (.ibin .or) [.s 58, .s 65]⟩ (.op ⟨some 67, some (52, true), .ex (.ibin .and) [.s 66, .k (.int .u64 9259542123273814144)]⟩ (.op ⟨some 68, some (52, true), .ex (.ibin .eql) [.s 67, .k (.int .u64 0)]⟩ (.op ⟨some 69, none, .ex (.pick) [.s 52, .s 68, .k (.bool false)]⟩ .done))))))))))))))) (.fork (.op ⟨some 60, some (52, true), .ex (.slc 1 true false false) [.s 59, .k (.int .i64 16)]⟩ (.fork (.op ⟨some 54, some (52, true), .callf 109 [.s 53]⟩ (.fork (.op ⟨some 57, some (52, true), .callf 109 [.s 56]⟩ (.op ⟨some 58, some (52, true), .ex (.ibin .or) [.s 54, .s 57]⟩ (.fork (.op ⟨some 61, some (52, true), .callf 109 [.s 60]⟩ (.op ⟨some 63, some (52, true), .ex (.slc 1 true false false) [.s 62, .k (.int .i64 24)]⟩ (.op ⟨some 64, some (52, true), .callf 109 [.s 63]⟩ (.op ⟨some 65, some (52, true), .ex (.ibin .or) [.s 61, .s 64]⟩ (.op ⟨some 66, some (52, true), .ex (.ibin .or) [.s 58, .s 65]⟩ (.op ⟨some 67, some (52, true), .ex (.ibin .and) [.s 66, .k (.int .u64 9259542123273814144)]⟩ (.op ⟨some 68, some (52, true), .ex (.ibin .eql) [.s 67, .k (.int .u64 0)]⟩ (.op ⟨some 69, none, .ex (.pick) [.s 52, .s 68, .k (.bool false)]⟩ .done)))))))) (.op ⟨some 63, some (52, true), .ex (.slc 1 true false false) [.s 62, .k (.int .i64 24)]⟩ (.op ⟨some 61, some (52, true), .callf 109 [.s 60]⟩ (.op ⟨some 64, some (52, true), .callf 109 [.s 63]⟩ (.op ⟨some 65, some (52, true), .ex (.ibin .or) [.s 61, .s 64]⟩ (.op ⟨some 66, some (52, true), .ex (.ibin .or) [.s 58, .s 65]⟩ (.op ⟨some 67, some (52, true), .ex (.ibin .and) [.s 66, .k (.int .u64 9259542123273814144)]⟩ (.op ⟨some 68, some (52, true), .ex (.ibin .eql) [.s 67, .k (.int .u64 0)]⟩ (.op ⟨some 69, none, .ex (.pick) [.s 52, .s 68, .k (.bool false)]⟩ .done))))))))))) (.op ⟨some 63, some (52, true), .ex (.slc 1 true false false) [.s 62, .k (.int .i64 24)]⟩ (.op ⟨some 57, some (52, true), .callf 109 [.s 56]⟩ (.op ⟨some 58, some (52, true), .ex (.ibin .or) [.s 54, .s 57]⟩ (.op ⟨some 61, some (52, true), .callf 109 [.s 60]⟩ (.op ⟨some 64, some (52, true), .callf 109 [.s 63]⟩ (.op ⟨some 65, some (52, true), .ex (.ibin .or) [.s 61, .s 64]⟩ (.op ⟨some 66, some (52, true), .ex (.ibin .or) [.s 58, .s 65]⟩ (.op ⟨some 67, some (52, true), .ex (.ibin .and) [.s 66, .k (.int .u64 9259542123273814144)]⟩ (.op ⟨some 68, some (52, true), .ex (.ibin .eql) [.s 67, .k (.int .u64 0)]⟩ (.op ⟨some 69, none, .ex (.pick) [.s 52, .s 68, .k (.bool false)]⟩ .done)))))))))))) (.op ⟨some 63, some (52, true), .ex (.slc 1 true false false) [.s 62, .k (.int .i64 24)]⟩ (.op ⟨some 54, some (52, true), .callf 109 [.s 53]⟩ (.op ⟨some 57, some (52, true), .callf 109 [.s 56]⟩ (.op ⟨some 58, some (52, true), .ex (.ibin .or) [.s 54, .s 57]⟩ (.op ⟨some 61, some (52, true), .callf 109 [.s 60]⟩ (.op ⟨some 64, some (52, true), .callf 109 [.s 63]⟩ (.op ⟨some 65, some (52, true), .ex (.ibin .or) [.s 61, .s 64]⟩ (.op ⟨some 66, some (52, true), .ex (.ibin .or) [.s 58, .s 65]⟩ (.op ⟨some 67, some (52, true), .ex (.ibin .and) [.s 66, .k (.int .u64 9259542123273814144)]⟩ (.op ⟨some 68, some (52, true), .ex (.ibin .eql) [.s 67, .k (.int .u64 0)]⟩ (.op ⟨some 69, none, .ex (.pick) [.s 52, .s 68, .k (.bool false)]⟩ .done))))))))))))) (.op ⟨some 63, some (52, true), .ex (.slc 1 true false false) [.s 62, .k (.int .i64 24)]⟩ (.fork (.op ⟨some 54, some (52, true), .callf 109 [.s 53]⟩ (.fork (.op ⟨some 57, some (52, true), .callf 109 [.s 56]⟩ (.op ⟨some 58, some (52, true), .ex (.ibin .or) [.s 54, .s 57]⟩ (.op ⟨some 60, some (52, true), .ex (.slc 1 true false false) [.s 59, .k (.int .i64 16)]⟩ (.op ⟨some 61, some (52, true), .callf 109 [.s 60]⟩ (.op ⟨some 64, some (52, true), .callf 109 [.s 63]⟩ (.op ⟨some 65, some (52, true), .ex (.ibin .or) [.s 61, .s 64]⟩ (.op ⟨some 66, some (52, true), .ex (.ibin .or) [.s 58, .s 65]⟩ (.op ⟨some 67, some (52, true), .ex (.ibin .and) [.s 66, .k (.int .u64 9259542123273814144)]⟩ (.op ⟨some 68, some (52, true), .ex (.ibin .eql) [.s 67, .k (.int .u64 0)]⟩ (.op ⟨some 69, none, .ex (.pick) [.s 52, .s 68, .k (.bool false)]⟩ .done)))))))))) (.op ⟨some 60, some (52, true), .ex (.slc 1 true false false) [.s 59, .k (.int .i64 16)]⟩ (.op ⟨some 57, some (52, true), .callf 109 [.s 56]⟩ (.op ⟨some 58, some (52, true), .ex (.ibin .or) [.s 54, .s 57]⟩ (.op ⟨some 61, some (52, true), .callf 109 [.s 60]⟩ (.op ⟨some 64, some (52, true), .callf 109 [.s 63]⟩ (.op ⟨some 65, some (52, true), .ex (.ibin .or) [.s 61, .s 64]⟩ (.op ⟨some 66, some (52, true), .ex (.ibin .or) [.s 58, .s 65]⟩ (.op ⟨some 67, some (52, true), .ex (.ibin .and) [.s 66, .k (.int .u64 9259542123273814144)]⟩ (.op ⟨some 68, some (52, true), .ex (.ibin .eql) [.s 67, .k (.int .u64 0)]⟩ (.op ⟨some 69, none, .ex (.pick) [.s 52, .s 68, .k (.bool false)]⟩ .done)))))))))))) (.op ⟨some 60, some (52, true), .ex (.slc 1 true false false) [.s 59, .k (.int .i64 16)]⟩ (.op ⟨some 54, some (52, true), .callf 109 [.s 53]⟩ (.op ⟨some 57, some (52, true), .callf 109 [.s 56]⟩ (.op ⟨some 58, some (52, true), .ex (.ibin .or) [.s 54, .s 57]⟩ (.op ⟨some 61, some (52, true), .callf 109 [.s 60]⟩ (.op ⟨some 64, some (52, true), .callf 109 [.s 63]⟩ (.op ⟨some 65, some (52, true), .ex (.ibin .or) [.s 61, .s 64]⟩ (.op ⟨some 66, some (52, true), .ex (.ibin .or) [.s 58, .s 65]⟩ (.op ⟨some 67, some (52, true), .ex (.ibin .and) [.s 66, .k (.int .u64 9259542123273814144)]⟩ (.op ⟨some 68, some (52, true), .ex (.ibin .eql) [.s 67, .k (.int .u64 0)]⟩ (.op ⟨some 69, none, .ex (.pick) [.s 52, .s 68, .k (.bool false)]⟩ .done)))))))))))))))) (.fork (.op ⟨some 60, some (52, true), .ex (.slc 1 true false false) [.s 59, .k (.int .i64 16)]⟩ (.fork (.op ⟨some 54, some (52, true), .callf 109 [.s 53]⟩ (.op ⟨some 56, some (52, true), .ex (.slc 1 true false false) [.s 55, .k (.int .i64 8)]⟩ (.fork (.op ⟨some 57, some (52, true), .callf 109 [.s 56]⟩ (.op ⟨some 58, some (52, true), .ex (.ibin .or) [.s 54, .s 57]⟩ (.fork (.op ⟨some 61, some (52, true), .callf 109 [.s 60]⟩ (.op ⟨some 63, some (52, true), .ex (.slc 1 true false false) [.s 62, .k (.int .i64 24)]⟩ (.op ⟨some 64, some (52, true), .callf 109 [.s 63]⟩ (.op ⟨some 65, some (52, true), .ex (.ibin .or) [.s 61, .s 64]⟩ (.op ⟨some 66, some (52, true), .ex (.ibin .or) [.s 58, .s 65]⟩ (.op ⟨some 67, some (52, true), .ex (.ibin .and) [.s 66, .k (.int .u64 9259542123273814144)]⟩ (.op ⟨some 68, some (52, true), .ex (.ibin .eql) [.s 67, .k (.int .u64 0)]⟩ (.op ⟨some 69, none, .ex (.pick) [.s 52, .s 68, .k (.bool false)]⟩ .done)))))))) (.op ⟨some 63, some (52, true), .ex (.slc 1 true false false) [.s 62, .k (.int .i64 24)]⟩ (.op ⟨some 61, some (52, true), .callf 109 [.s 60]⟩ (.op ⟨some 64, some (52, true), .callf 109 [.s 63]⟩ (.op ⟨some 65, some (52, true), .ex (.ibin .or) [.s 61, .s 64]⟩ (.op ⟨some 66, some (52, true), .ex (.ibin .or) [.s 58, .s 65]⟩ (.op ⟨some 67, some (52, true), .ex (.ibin .and) [.s 66, .k (.int .u64 9259542123273814144)]⟩ (.op ⟨some 68, some (52, true), .ex (.ibin .eql) [.s 67, .k (.int .u64 0)]⟩ (.op ⟨some 69, none, .ex (.pick) [.s 52, .s 68, .k (.bool false)]⟩ .done))))))))))) (.op ⟨some 63, some (52, true), .ex (.slc 1 true false false) [.s 62, .k (.int .i64 24)]⟩ (.op ⟨some 57, some (52, true), .callf 109 [.s 56]⟩ (.op ⟨some 58, some (52, true), .ex (.ibin .or) [.s 54, .s 57]⟩ (.op ⟨some 61, some (52, true), .callf 109 [.s 60]⟩ (.op ⟨some 64, some (52, true), .callf 109 [.s 63]⟩ (.op ⟨some 65, some (52, true), .ex (.ibin .or) [.s 61, .s 64]⟩ (.op ⟨some 66, some (52, true), .ex (.ibin .or) [.s 58, .s 65]⟩ (.op ⟨some 67, some (52, true), .ex (.ibin .and) [.s 66, .k (.int .u64 9259542123273814144)]⟩ (.op ⟨some 68, some (52, true), .ex (.ibin .eql) [.s 67, .k (.int .u64 0)]⟩ (.op ⟨some 69, none, .ex (.pick) [.s 52, .s 68, .k (.bool false)]⟩ .done))))))))))))) (.fork (.op ⟨some 56, some (52, true), .ex (.slc 1 true false false) [.s 55, .k (.int .i64 8)]⟩ (.fork (.op ⟨some 54, some (52, true), .callf 109 [.s 53]⟩ (.fork (.op ⟨some 57, some (52, true), .callf 109 [.s 56]⟩ (.op ⟨some 58, some (52, true), .ex (.ibin .or) [.s 54, .s 57]⟩ (.fork (.op ⟨some 61, some (52, true), .callf 109 [.s 60]⟩ (.op ⟨some 63, some (52, true), .ex (.slc 1 true false false) [.s 62, .k (.int .i64 24)]⟩ (.op ⟨some 64, some (52, true), .callf 109 [.s 63]⟩ (.op ⟨some 65, some (52, true), .ex (.ibin .or) [.s 61, .s 64]⟩ (.op ⟨some 66, some (52, true), .ex (.ibin .or) [.s 58, .s 65]⟩ (.op ⟨some 67, some (52, true), .ex (.ibin .and) [.s 66, .k (.int .u64 9259542123273814144)]⟩ (.op ⟨some 68, some (52, true), .ex (.ibin .eql) [.s 67, .k (.int .u64 0)]⟩ (.op ⟨some 69, none, .ex (.pick) [.s 52, .s 68, .k (.bool false)]⟩ .done)))))))) (.op ⟨some 63, some (52, true), .ex (.slc 1 true false false) [.s 62, .k (.int .i64 24)]⟩ (.op ⟨some 61, some (52, true), .callf 109 [.s 60]⟩ (.op ⟨some 64, some (52, true), .callf 109 [.s 63]⟩ (.op ⟨some 65, some (52, true), .ex (.ibin .or) [.s 61, .s 64]⟩ (.op ⟨some 66, some (52, true), .ex (.ibin .or) [.s 58, .s 65]⟩ (.op ⟨some 67, some (52, true), .ex (.ibin .and) [.s 66, .k (.int .u64 9259542123273814144)]⟩ (.op ⟨some 68, some (52, true), .ex (.ibin .eql) [.s 67, .k (.int .u64 0)]⟩ (.op ⟨some 69, none, .ex (.pick) [.s 52, .s 68, .k (.bool false)]⟩ .done))))))))))) (.op ⟨some 63, some (52, true), .ex (.slc 1 true false false) [.s 62, .k (.int .i64 24)]⟩ (.op ⟨some 57, some (52, true), .callf 109 [.s 56]⟩ (.op ⟨some 58, some (52, true), .ex (.ibin .or) [.s 54, .s 57]⟩ (.op ⟨some 61, some (52, true), .callf 109 [.s 60]⟩ (.op ⟨some 64, some (52, true), .callf 109 [.s 63]⟩ (.op ⟨some 65, some (52, true), .ex (.ibin .or) [.s 61, .s 64]⟩ (.op ⟨some 66, some (52, true), .ex (.ibin .or) [.s 58, .s 65]⟩ (.op ⟨some 67, some (52, true), .ex (.ibin .and) [.s 66, .k (.int .u64 9259542123273814144)]⟩ (.op ⟨some 68, some (52, true), .ex (.ibin .eql) [.s 67, .k (.int .u64 0)]⟩ (.op ⟨some 69, none, .ex (.pick) [.s 52, .s 68, .k (.bool false)]⟩ .done)))))))))))) (.op ⟨some 63, some (52, true), .ex (.slc 1 true false false) [.s 62, .k (.int .i64 24)]⟩ (.op ⟨some 54, some (52, true), .callf 109 [.s 53]⟩ (.op ⟨some 57, some (52, true), .callf 109 [.s 56]⟩ (.op ⟨some 58, some (52, true), .ex (.ibin .or) [.s 54, .s 57]⟩ (.op ⟨some 61, some (52, true), .callf 109 [.s 60]⟩ (.op ⟨some 64, some (52, true), .callf 109 [.s 63]⟩ (.op ⟨some 65, some (52, true), .ex (.ibin .or) [.s 61, .s 64]⟩ (.op ⟨some 66, some (52, true), .ex (.ibin .or) [.s 58, .s 65]⟩ (.op ⟨some 67, some (52, true), .ex (.ibin .and) [.s 66, .k (.int .u64 9259542123273814144)]⟩ (.op ⟨some 68, some (52, true), .ex (.ibin .eql) [.s 67, .k (.int .u64 0)]⟩ (.op ⟨some 69, none, .ex (.pick) [.s 52, .s 68, .k (.bool false)]⟩ .done))))))))))))) (.op ⟨some 63, some (52, true), .ex (.slc 1 true false false) [.s 62, .k (.int .i64 24)]⟩ (.fork (.op ⟨some 54, some (52, true), .callf 109 [.s 53]⟩ (.op ⟨some 56, some (52, true), .ex (.slc 1 true false false) [.s 55, .k (.int .i64 8)]⟩ (.op ⟨some 57, some (52, true), .callf 109 [.s 56]⟩ (.op ⟨some 58, some (52, true), .ex (.ibin .or) [.s 54, .s 57]⟩ (.op ⟨some 61, some (52, true), .callf 109 [.s 60]⟩ (.op ⟨some 64, some (52, true), .callf 109 [.s 63]⟩ (.op ⟨some 65, some (52, true), .ex (.ibin .or) [.s 61, .s 64]⟩ (.op ⟨some 66, some (52, true), .ex (.ibin .or) [.s 58, .s 65]⟩ (.op ⟨some 67, some (52, true), .ex (.ibin .and) [.s 66, .k (.int .u64 9259542123273814144)]⟩ (.op ⟨some 68, some (52, true), .ex (.ibin .eql) [.s 67, .k (.int .u64 0)]⟩ (.op ⟨some 69, none, .ex (.pick) [.s 52, .s 68, .k (.bool false)]⟩ .done))))))))))) (.op ⟨some 56, some (52, true), .ex (.slc 1 true false false) [.s 55, .k (.int .i64 8)]⟩ (.op ⟨some 54, some (52, true), .callf 109 [.s 53]⟩ (.op ⟨some 57, some (52, true), .callf 109 [.s 56]⟩ (.op ⟨some 58, some (52, true), .ex (.ibin .or) [.s 54, .s 57]⟩ (.op ⟨some 61, some (52, true), .callf 109 [.s 60]⟩ (.op ⟨some 64, some (52, true), .callf 109 [.s 63]⟩ (.op ⟨some 65, some (52, true), .ex (.ibin .or) [.s 61, .s 64]⟩ (.op ⟨some 66, some (52, true), .ex (.ibin .or) [.s 58, .s 65]⟩ (.op ⟨some 67, some (52, true), .ex (.ibin .and) [.s 66, .k (.int .u64 9259542123273814144)]⟩ (.op ⟨some 68, some (52, true), .ex (.ibin .eql) [.s 67, .k (.int .u64 0)]⟩ (.op ⟨some 69, none, .ex (.pick) [.s 52, .s 68, .k (.bool false)]⟩ .done)))))))))))))))) (.op ⟨some 63, some (52, true), .ex (.slc 1 true false false) [.s 62, .k (.int .i64 24)]⟩ (.fork (.op ⟨some 54, some (52, true), .callf 109 [.s 53]⟩ (.op ⟨some 56, some (52, true), .ex (.slc 1 true false false) [.s 55, .k (.int .i64 8)]⟩ (.fork (.op ⟨some 57, some (52, true), .callf 109 [.s 56]⟩ (.op ⟨some 58, some (52, true), .ex (.ibin .or) [.s 54, .s 57]⟩ (.op ⟨some 60, some (52, true), .ex (.slc 1 true false false) [.s 59, .k (.int .i64 16)]⟩ (.op ⟨some 61, some (52, true), .callf 109 [.s 60]⟩ (.op ⟨some 64, some (52, true), .callf 109 [.s 63]⟩ (.op ⟨some 65, some (52, true), .ex (.ibin .or) [.s 61, .s 64]⟩ (.op ⟨some 66, some (52, true), .ex (.ibin .or) [.s 58, .s 65]⟩ (.op ⟨some 67, some (52, true), .ex (.ibin .and) [.s 66, .k (.int .u64 9259542123273814144)]⟩ (.op ⟨some 68, some (52, true), .ex (.ibin .eql) [.s 67, .k (.int .u64 0)]⟩ (.op ⟨some 69, none, .ex (.pick) [.s 52, .s 68, .k (.bool false)]⟩ .done)))))))))) (.op ⟨some 60, some (52, true), .ex (.slc 1 true false false) [.s 59, .k (.int .i64 16)]⟩ (.op ⟨some 57, some (52, true), .callf 109 [.s 56]⟩ (.op ⟨some 58, some (52, true), .ex (.ibin .or) [.s 54, .s 57]⟩ (.op ⟨some 61, some (52, true), .callf 109 [.s 60]⟩ (.op ⟨some 64, some (52, true), .callf 109 [.s 63]⟩ (.op ⟨some 65, some (52, true), .ex (.ibin .or) [.s 61, .s 64]⟩ (.op ⟨some 66, some (52, true), .ex (.ibin .or) [.s 58, .s 65]⟩ (.op ⟨some 67, some (52, true), .ex (.ibin .and) [.s 66, .k (.int .u64 9259542123273814144)]⟩ (.op ⟨some 68, some (52, true), .ex (.ibin .eql) [.s 67, .k (.int .u64 0)]⟩ (.op ⟨some 69, none, .ex (.pick) [.s 52, .s 68, .k (.bool false)]⟩ .done))))))))))))) (.fork (.op ⟨some 56, some (52, true), .ex (.slc 1 true false false) [.s 55, .k (.int .i64 8)]⟩ (.fork (.op ⟨some 54, some (52, true), .callf 109 [.s 53]⟩ (.fork (.op ⟨some 57, some (52, true), .callf 109 [.s 56]⟩ (.op ⟨some 58, some (52, true), .ex (.ibin .or) [.s 54, .s 57]⟩ (.op ⟨some 60, some (52, true), .ex (.slc 1 true false false) [.s 59, .k (.int .i64 16)]⟩ (.op ⟨some 61, some (52, true), .callf 109 [.s 60]⟩ (.op ⟨some 64, some (52, true), .callf 109 [.s 63]⟩ (.op ⟨some 65, some (52, true), .ex (.ibin .or) [.s 61, .s 64]⟩ (.op ⟨some 66, some (52, true), .ex (.ibin .or) [.s 58, .s 65]⟩ (.op ⟨some 67, some (52, true), .ex (.ibin .and) [.s 66, .k (.int .u64 9259542123273814144)]⟩ (.op ⟨some 68, some (52, true), .ex (.ibin .eql) [.s 67, .k (.int .u64 0)]⟩ (.op ⟨some 69, none, .ex (.pick) [.s 52, .s 68, .k (.bool false)]⟩ .done)))))))))) (.op ⟨some 60, some (52, true), .ex (.slc 1 true false false) [.s 59, .k (.int .i64 16)]⟩ (.op ⟨some 57, some (52, true), .callf 109 [.s 56]⟩ (.op ⟨some 58, some (52, true), .ex (.ibin .or) [.s 54, .s 57]⟩ (.op ⟨some 61, some (52, true), .callf 109 [.s 60]⟩ (.op ⟨some 64, some (52, true), .callf 109 [.s 63]⟩ (.op ⟨some 65, some (52, true), .ex (.ibin .or) [.s 61, .s 64]⟩ (.op ⟨some 66, some (52, true), .ex (.ibin .or) [.s 58, .s 65]⟩ (.op ⟨some 67, some (52, true), .ex (.ibin .and) [.s 66, .k (.int .u64 9259542123273814144)]⟩ (.op ⟨some 68, some (52, true), .ex (.ibin .eql) [.s 67, .k (.int .u64 0)]⟩ (.op ⟨some 69, none, .ex (.pick) [.s 52, .s 68, .k (.bool false)]⟩ .done)))))))))))) (.op ⟨some 60, some (52, true), .ex (.slc 1 true false false) [.s 59, .k (.int .i64 16)]⟩ (.op ⟨some 54, some (52, true), .callf 109 [.s 53]⟩ (.op ⟨some 57, some (52, true), .callf 109 [.s 56]⟩ (.op ⟨some 58, some (52, true), .ex (.ibin .or) [.s 54, .s 57]⟩ (.op ⟨some 61, some (52, true), .callf 109 [.s 60]⟩ (.op ⟨some 64, some (52, true), .callf 109 [.s 63]⟩ (.op ⟨some 65, some (52, true), .ex (.ibin .or) [.s 61, .s 64]⟩ (.op ⟨some 66, some (52, true), .ex (.ibin .or) [.s 58, .s 65]⟩ (.op ⟨some 67, some (52, true), .ex (.ibin .and) [.s 66, .k (.int .u64 9259542123273814144)]⟩ (.op ⟨some 68, some (52, true), .ex (.ibin .eql) [.s 67, .k (.int .u64 0)]⟩ (.op ⟨some 69, none, .ex (.pick) [.s 52, .s 68, .k (.bool false)]⟩ .done))))))))))))) (.op ⟨some 60, some (52, true), .ex (.slc 1 true false false) [.s 59, .k (.int .i64 16)]⟩ (.fork (.op ⟨some 54, some (52, true), .callf 109 [.s 53]⟩ (.op ⟨some 56, some (52, true), .ex (.slc 1 true false false) [.s 55, .k (.int .i64 8)]⟩ (.op ⟨some 57, some (52, true), .callf 109 [.s 56]⟩ (.op ⟨some 58, some (52, true), .ex (.ibin .or) [.s 54, .s 57]⟩ (.op ⟨some 61, some (52, true), .callf 109 [.s 60]⟩ (.op ⟨some 64, some (52, true), .callf 109 [.s 63]⟩ (.op ⟨some 65, some (52, true), .ex (.ibin .or) [.s 61, .s 64]⟩ (.op ⟨some 66, some (52, true), .ex (.ibin .or) [.s 58, .s 65]⟩ (.op ⟨some 67, some (52, true), .ex (.ibin .and) [.s 66, .k (.int .u64 9259542123273814144)]⟩ (.op ⟨some 68, some (52, true), .ex (.ibin .eql) [.s 67, .k (.int .u64 0)]⟩ (.op ⟨some 69, none, .ex (.pick) [.s 52, .s 68, .k (.bool false)]⟩ .done))))))))))) (.op ⟨some 56, some (52, true), .ex (.slc 1 true false false) [.s 55, .k (.int .i64 8)]⟩ (.op ⟨some 54, some (52, true), .callf 109 [.s 53]⟩ (.op ⟨some 57, some (52, true), .callf 109 [.s 56]⟩ (.op ⟨some 58, some (52, true), .ex (.ibin .or) [.s 54, .s 57]⟩ (.op ⟨some 61, some (52, true), .callf 109 [.s 60]⟩ (.op ⟨some 64, some (52, true), .callf 109 [.s 63]⟩ (.op ⟨some 65, some (52, true), .ex (.ibin .or) [.s 61, .s 64]⟩ (.op ⟨some 66, some (52, true), .ex (.ibin .or) [.s 58, .s 65]⟩ (.op ⟨some 67, some (52, true), .ex (.ibin .and) [.s 66, .k (.int .u64 9259542123273814144)]⟩ (.op ⟨some 68, some (52, true), .ex (.ibin .eql) [.s 67, .k (.int .u64 0)]⟩ (.op ⟨some 69, none, .ex (.pick) [.s 52, .s 68, .k (.bool false)]⟩ .done))))))))))))))))))))))))))))
                        (.cond (.s 69)
                         .skip
                         (.exit 2)))
                       (.block 3
                        (.region [⟨some 70, none, .ex (.mov) [.s 0]⟩,
                          ⟨some 71, none, .ex (.slc 1 true false false) [.s 70, .k (.int .i64 32)]⟩,
                          ⟨some 0, none, .ex (.mov) [.s 71]⟩]))))

def P32 (F : Heap) (c : List Int) (id off : Nat) (e : Exit) (f : Fr) (G : Heap) : Prop :=
  G = F ∧ ((e = .normal ∧ and64 (or64 (or64 (wordF c) (wordF (c.drop 8))) (or64 (wordF (c.drop 16)) (wordF (c.drop 24)))) hi64 = 0 ∧ f.get 0 = some (.slice id (off + 32 * 1) (c.drop 32).length (some (c.drop 32).length)))
    ∨ (e = .exit 2 ∧ ¬ and64 (or64 (or64 (wordF c) (wordF (c.drop 8))) (or64 (wordF (c.drop 16)) (wordF (c.drop 24)))) hi64 = 0 ∧ f.get 0 = some (.slice id off c.length (some c.length))))

set_option maxRecDepth 100000 in
set_option maxHeartbeats 4000000 in
theorem inner32 {G : Heap} {id off : Nat} {c3 : List Int} (hB3 : Byt G id off c3) (hl : c3.length ≤ 1048576) (hsm3 : ∀ b ∈ c3, 0 ≤ b ∧ b < 256) {Q : Exit → Fr → Heap → Prop}
    (fin : ∀ (off : Nat) (c : List Int) (fr2 : Fr), skip32 c3.length c3 = c → Byt G id off c → c.length ≤ c3.length → (∀ b ∈ c, 0 ≤ b ∧ b < 256) → FrSub [(0, .slice id off c.length (some c.length))] fr2 → Q (.exit 2) fr2 G)
    {fr : Fr} (h0 : fr.get 0 = some (.slice id off c3.length (some c3.length))) : wpC (SCalls PP) v108loop fr G Q := by
  have hlen : ∀ (id off n : Nat) c G, exec .len [.slice id off n c] G = some (.int .i64 n, G) := fun _ _ _ _ _ => rfl
  unfold v108loop
  refine wp_loopI (fun m fr F => F = G ∧ ∃ (off : Nat) (c : List Int) (k : Nat), m = c.length ∧ Byt G id off c ∧ c.length ≤ k ∧ c.length ≤ c3.length ∧ skip32 k c = skip32 c3.length c3 ∧ (∀ b ∈ c, 0 ≤ b ∧ b < 256) ∧ FrSub [(0, .slice id off c.length (some c.length))] fr) c3.length ⟨rfl, _, c3, _, rfl, hB3, Nat.le_refl _, Nat.le_refl _, rfl, hsm3, .cons h0 .nil⟩ ?_
  rintro m fr F ⟨rfl, off, c, k, rfl, hC, hk, hkl, hs, hsc, hsub⟩
  refine ⟨_, hsub, ?_⟩
  by_cases h32 : (c.length : Int) > 32
  rotate_left
  · have e : skip32 c3.length c3 = c := by rw [← hs, skip32_stop (by omega)]
    simp only [stp, if_true, if_false, Int.reduceEq, Int.reduceLT, Int.reduceLE, Int.reduceGT, Int.reduceGE, reduceCtorEq, Nat.reduceEqDiff, List.getElem?_cons_zero, List.getElem?_cons_succ, Option.map_some, hlen, h32, Bool.false_eq_true]
    repeat' with_reducible refine And.intro ?_ ?_
    all_goals exact fin _ c _ e hC hkl hsc (.cons rfl .nil)
  obtain ⟨k, rfl⟩ : ∃ j, k = j + 1 := ⟨k - 1, by omega⟩
  have v0 := word_ok hC (by omega : 8 ≤ c.length)
  have t8 : exec (.slc 1 true false false) [.slice id off c.length (some c.length), .int .i64 8] F = some (.slice id (off + 8 * 1) (c.drop 8).length (some (c.drop 8).length), F) := hC.slc (k := 8) (by omega)
  have v1 := word_ok (hC.drop 8) (by simp; omega : 8 ≤ (c.drop 8).length)
  have t16 : exec (.slc 1 true false false) [.slice id off c.length (some c.length), .int .i64 16] F = some (.slice id (off + 16 * 1) (c.drop 16).length (some (c.drop 16).length), F) := hC.slc (k := 16) (by omega)
  have v2 := word_ok (hC.drop 16) (by simp; omega : 8 ≤ (c.drop 16).length)
  have t24 : exec (.slc 1 true false false) [.slice id off c.length (some c.length), .int .i64 24] F = some (.slice id (off + 24 * 1) (c.drop 24).length (some (c.drop 24).length), F) := hC.slc (k := 24) (by omega)
  have v3 := word_ok (hC.drop 24) (by simp; omega : 8 ≤ (c.drop 24).length)
  have t32 : exec (.slc 1 true false false) [.slice id off c.length (some c.length), .int .i64 32] F = some (.slice id (off + 32 * 1) (c.drop 32).length (some (c.drop 32).length), F) := hC.slc (k := 32) (by omega)
  refine wpC_mono SCalls.scMono _ _ _ (P32 F c id off) _ ?_ ?_
  · by_cases ha32 : and64 (or64 (or64 (wordF c) (wordF (c.drop 8))) (or64 (wordF (c.drop 16)) (wordF (c.drop 24)))) hi64 = 0
    · have done : ∀ f, f.get 0 = some (.slice id (off + 32 * 1) (c.drop 32).length (some (c.drop 32).length)) → P32 F c id off .normal f F := fun f hf => ⟨rfl, .inl ⟨rfl, ha32, hf⟩⟩
      simp only [stp, if_true, if_false, Int.reduceEq, Int.reduceLT, Int.reduceLE, Int.reduceGT, Int.reduceGE, reduceCtorEq, Nat.reduceEqDiff, List.getElem?_cons_zero, List.getElem?_cons_succ, Option.map_some, hlen, h32, Bool.false_eq_true]
      repeat' first | with_reducible refine v0 _ ?_ | with_reducible refine v1 _ ?_ | with_reducible refine v2 _ ?_ | with_reducible refine v3 _ ?_ | simp only [stp, if_true, if_false, Int.reduceEq, Int.reduceLT, Int.reduceLE, Int.reduceGT, Int.reduceGE, reduceCtorEq, Nat.reduceEqDiff, List.getElem?_cons_zero, List.getElem?_cons_succ, Option.map_some, t8, t16, t24, t32, x_or, x_and, ha32, Bool.false_eq_true] | with_reducible refine And.intro ?_ ?_
      all_goals exact done _ rfl
    · have done : ∀ f, f.get 0 = some (.slice id off c.length (some c.length)) → P32 F c id off (.exit 2) f F := fun f hf => ⟨rfl, .inr ⟨rfl, ha32, hf⟩⟩
      simp only [stp, if_true, if_false, Int.reduceEq, Int.reduceLT, Int.reduceLE, Int.reduceGT, Int.reduceGE, reduceCtorEq, Nat.reduceEqDiff, List.getElem?_cons_zero, List.getElem?_cons_succ, Option.map_some, hlen, h32, Bool.false_eq_true]
      repeat' first | with_reducible refine v0 _ ?_ | with_reducible refine v1 _ ?_ | with_reducible refine v2 _ ?_ | with_reducible refine v3 _ ?_ | simp only [stp, if_true, if_false, Int.reduceEq, Int.reduceLT, Int.reduceLE, Int.reduceGT, Int.reduceGE, reduceCtorEq, Nat.reduceEqDiff, List.getElem?_cons_zero, List.getElem?_cons_succ, Option.map_some, t8, t16, t24, x_or, x_and, ha32, Bool.false_eq_true] | with_reducible refine And.intro ?_ ?_
      all_goals exact done _ rfl
  · rintro e f G' ⟨rfl, ⟨rfl, ha, hg⟩ | ⟨rfl, ha, hg⟩⟩
    · rw [skip32, if_pos ⟨by omega, ha⟩] at hs
      exact ⟨(c.drop 32).length, by simp; omega, rfl, _, _, k, rfl, hC.drop 32, by simp; omega, by simp; omega, hs, fun b hb => hsc b (List.mem_of_mem_drop hb), .cons hg .nil⟩
    · have e : skip32 c3.length c3 = c := by rw [← hs, skip32_stop (fun h => ha h.2)]
      exact fin _ c _ e hC hkl hsc (.cons hg .nil)

set_option maxRecDepth 100000 in
set_option maxHeartbeats 4000000 in
theorem valid_calls {H : Heap} (hT : Tabs H) {id off : Nat} {bs : List Int} (hp : SL H (.slice id off bs.length none) 1 (byteR bs)) (hl : bs.length ≤ big) (hr : ∀ b ∈ bs, 0 ≤ b ∧ b < 256) :
    SCalls PP 108 [.slice id off bs.length none] H fun r H' => H' = H ∧ r = .bool (vF bs.length bs) := by
  refine SCalls.keep (R := fun r => r = .bool (vF bs.length bs)) (SCalls.go c108 (by simp [fn108]) fun hw => ?_)
  unfold big at hl
  have hlen : ∀ (id off n : Nat) c G, exec .len [.slice id off n c] G = some (.int .i64 n, G) := fun _ _ _ _ _ => rfl
  have hfull : exec (.slc 1 false true true) [.slice id off bs.length none, .int .i64 bs.length, .int .i64 bs.length] H = some (.slice id off bs.length (some bs.length), H) := by
    simp [exec, bounds3, natV, slcOk]
  simp only [fn108, enterFr, List.length, List.range, List.range.loop, List.zip, List.zipWith, stp, if_true, if_false, Int.reduceEq, Int.reduceLT, Int.reduceLE, Int.reduceGT, Int.reduceGE, reduceCtorEq, Nat.reduceEqDiff, List.getElem?_cons_zero, List.getElem?_cons_succ, Option.map_some, hlen, hfull]
  refine wp_loopI (fun m fr G => ∃ (off : Nat) (cur : List Int) (n : Nat), m = cur.length ∧ Ext H G ∧ WF G ∧ Byt G id off cur ∧ cur.length ≤ n ∧ vF n cur = vF bs.length bs ∧ (∀ b ∈ cur, 0 ≤ b ∧ b < 256) ∧ cur.length ≤ 1048576 ∧
    FrSub [(0, .slice id off cur.length (some cur.length))] fr) bs.length ⟨off, bs, bs.length, rfl, Ext.refl H, hw, by have := sl_drop (k := 0) (c' := some bs.length) hp; simpa [Byt] using this, Nat.le_refl _, rfl, hr, hl, .cons rfl .nil⟩ ?_
  rintro m fr G ⟨off, cur, n, rfl, hx, hw', hB, hn, hv, hrg, hcl, hsub⟩
  refine ⟨_, hsub, ?_⟩
  rcases hc : cur with _ | ⟨b0, t⟩
  · subst hc
    simp only [stp, if_true, if_false, Int.reduceEq, Int.reduceLT, Int.reduceLE, Int.reduceGT, Int.reduceGE, reduceCtorEq, Nat.reduceEqDiff, List.getElem?_cons_zero, List.getElem?_cons_succ, Option.map_some, hlen, List.length_nil, Int.natCast_zero, gt_iff_lt, Int.lt_irrefl]
    rw [vF_nil] at hv
    exact ⟨hx, by rw [← hv], rfl⟩
  rw [← hc]
  have hpos : (cur.length : Int) > 0 := by rw [hc, List.length_cons]; omega
  obtain ⟨n, rfl⟩ : ∃ k, n = k + 1 := ⟨n - 1, by omega⟩
  rw [hc, vF, ← hc] at hv
  have hb0 : cur.getD 0 0 = b0 := by rw [hc]; rfl
  obtain ⟨i0, d0⟩ := hB.ia (i := 0) (by omega)
  rw [hb0] at d0
  have i0' : exec (.ia 1) [.slice id off cur.length (some cur.length), .int .i64 0] G = some (.ptr id (off + 0), G) := i0
  obtain ⟨g0, g1⟩ := hrg b0 (by rw [hc]; simp)
  have drp : ∀ k, ∀ b ∈ cur.drop k, 0 ≤ b ∧ b < 256 := fun k b hb => hrg b (List.mem_of_mem_drop hb)
  by_cases ha : b0 < 128
  · -- ASCII
    have hv' : vF n (skipA (cur.drop 1)) = vF bs.length bs := by rw [← hv]; simp only [vStep, if_pos ha]
    have s1 : exec (.slc 1 true false false) [.slice id off cur.length (some cur.length), .int .i64 1] G = some (.slice id (off + 1 * 1) (cur.drop 1).length (some (cur.drop 1).length), G) := hB.slc (k := 1) (by omega)
    have hB1 := hB.drop 1
    have hl1 : (cur.drop 1).length = cur.length - 1 := by simp
    generalize hc1 : cur.drop 1 = c1 at *
    have hsm : ∀ b ∈ c1, 0 ≤ b ∧ b < 256 := by rw [← hc1]; exact drp 1
    have fin : ∀ (off' : Nat) (c2 : List Int) (fr2 : Fr), skipA c1 = c2 → Byt G id off' c2 → c2.length ≤ c1.length → (∀ b ∈ c2, 0 ≤ b ∧ b < 256) → FrSub [(0, .slice id off' c2.length (some c2.length))] fr2 →
        ∃ k', k' < cur.length ∧ ∃ (off : Nat) (cur : List Int) (n : Nat), k' = cur.length ∧ Ext H G ∧ WF G ∧ Byt G id off cur ∧ cur.length ≤ n ∧ vF n cur = vF bs.length bs ∧ (∀ b ∈ cur, 0 ≤ b ∧ b < 256) ∧ cur.length ≤ 1048576 ∧ FrSub [(0, .slice id off cur.length (some cur.length))] fr2 := by
      intro off' c2 fr2 e1 e2 e3 e4 e5
      exact ⟨c2.length, by omega, off', c2, n, rfl, hx, hw', e2, by omega, by rw [← e1]; exact hv', e4, by omega, e5⟩
    by_cases h8 : (c1.length : Int) > 8
    rotate_left
    · have e : skipA c1 = c1 := by rw [skipA, if_neg (by omega)]
      simp only [stp, if_true, if_false, Int.reduceEq, Int.reduceLT, Int.reduceLE, Int.reduceGT, Int.reduceGE, reduceCtorEq, Nat.reduceEqDiff, List.getElem?_cons_zero, List.getElem?_cons_succ, Option.map_some, hlen, hpos, i0', d0, ha, s1, h8, Bool.false_eq_true]
      exact fin _ c1 _ e hB1 (Nat.le_refl _) hsm (.cons rfl .nil)
    have w1 := word_ok hB1 (by omega : 8 ≤ c1.length)
    by_cases ha8 : and64 (wordF c1) hi64 = 0
    rotate_left
    · have e : skipA c1 = c1 := by rw [skipA, if_neg (fun h => ha8 h.2)]
      simp only [stp, if_true, if_false, Int.reduceEq, Int.reduceLT, Int.reduceLE, Int.reduceGT, Int.reduceGE, reduceCtorEq, Nat.reduceEqDiff, List.getElem?_cons_zero, List.getElem?_cons_succ, Option.map_some, hlen, hpos, i0', d0, ha, s1, h8, Bool.false_eq_true]
      refine w1 _ ?_
      simp only [stp, if_true, if_false, Int.reduceEq, Int.reduceLT, Int.reduceLE, Int.reduceGT, Int.reduceGE, reduceCtorEq, Nat.reduceEqDiff, List.getElem?_cons_zero, List.getElem?_cons_succ, Option.map_some, x_and, ha8, Bool.false_eq_true]
      exact fin _ c1 _ e hB1 (Nat.le_refl _) hsm (.cons rfl .nil)
    have s8 : exec (.slc 1 true false false) [.slice id (off + 1 * 1) c1.length (some c1.length), .int .i64 8] G = some (.slice id (off + 1 * 1 + 8 * 1) (c1.drop 8).length (some (c1.drop 8).length), G) := hB1.slc (k := 8) (by omega)
    have hB2 := hB1.drop 8
    have e0 : skipA c1 = if 16 < (c1.drop 8).length ∧ and64 (or64 (wordF (c1.drop 8)) (wordF ((c1.drop 8).drop 8))) hi64 = 0 then skip32 ((c1.drop 8).drop 16).length ((c1.drop 8).drop 16) else c1.drop 8 := by rw [skipA, if_pos ⟨by omega, ha8⟩]
    have hl2 : (c1.drop 8).length = c1.length - 8 := by simp
    have hsm2 : ∀ b ∈ c1.drop 8, 0 ≤ b ∧ b < 256 := fun b hb => hsm b (List.mem_of_mem_drop hb)
    generalize hc2 : c1.drop 8 = c2 at *
    by_cases h16 : (c2.length : Int) > 16
    rotate_left
    · have e : skipA c1 = c2 := by rw [e0, if_neg (by omega)]
      simp only [stp, if_true, if_false, Int.reduceEq, Int.reduceLT, Int.reduceLE, Int.reduceGT, Int.reduceGE, reduceCtorEq, Nat.reduceEqDiff, List.getElem?_cons_zero, List.getElem?_cons_succ, Option.map_some, hlen, hpos, i0', d0, ha, s1, h8, Bool.false_eq_true]
      refine w1 _ ?_
      simp only [stp, if_true, if_false, Int.reduceEq, Int.reduceLT, Int.reduceLE, Int.reduceGT, Int.reduceGE, reduceCtorEq, Nat.reduceEqDiff, List.getElem?_cons_zero, List.getElem?_cons_succ, Option.map_some, x_and, ha8, Bool.false_eq_true, s8, hlen, h16]
      constructor <;> exact fin _ c2 _ e hB2 (by omega) hsm2 (.cons rfl .nil)
    have w2 := word_ok hB2 (by omega : 8 ≤ c2.length)
    have s9 : exec (.slc 1 true false false) [.slice id (off + 1 * 1 + 8 * 1) c2.length (some c2.length), .int .i64 8] G = some (.slice id (off + 1 * 1 + 8 * 1 + 8 * 1) (c2.drop 8).length (some (c2.drop 8).length), G) := hB2.slc (k := 8) (by omega)
    have w3 := word_ok (hB2.drop 8) (by simp; omega : 8 ≤ (c2.drop 8).length)
    by_cases ha16 : and64 (or64 (wordF c2) (wordF (c2.drop 8))) hi64 = 0
    rotate_left
    · have e : skipA c1 = c2 := by rw [e0, if_neg (fun h => ha16 h.2)]
      simp only [stp, if_true, if_false, Int.reduceEq, Int.reduceLT, Int.reduceLE, Int.reduceGT, Int.reduceGE, reduceCtorEq, Nat.reduceEqDiff, List.getElem?_cons_zero, List.getElem?_cons_succ, Option.map_some, hlen, hpos, i0', d0, ha, s1, h8, Bool.false_eq_true]
      refine w1 _ ?_
      simp only [stp, if_true, if_false, Int.reduceEq, Int.reduceLT, Int.reduceLE, Int.reduceGT, Int.reduceGE, reduceCtorEq, Nat.reduceEqDiff, List.getElem?_cons_zero, List.getElem?_cons_succ, Option.map_some, x_and, ha8, Bool.false_eq_true, s8, hlen, h16]
      repeat' first | with_reducible refine w2 _ ?_ | with_reducible refine w3 _ ?_ | simp only [stp, if_true, if_false, Int.reduceEq, Int.reduceLT, Int.reduceLE, Int.reduceGT, Int.reduceGE, reduceCtorEq, Nat.reduceEqDiff, List.getElem?_cons_zero, List.getElem?_cons_succ, Option.map_some, s9, x_or, x_and, ha16, Bool.false_eq_true] | with_reducible refine And.intro ?_ ?_
      all_goals exact fin _ c2 _ e hB2 (by omega) hsm2 (.cons rfl .nil)
    have s16 : exec (.slc 1 true false false) [.slice id (off + 1 * 1 + 8 * 1) c2.length (some c2.length), .int .i64 16] G = some (.slice id (off + 1 * 1 + 8 * 1 + 16 * 1) (c2.drop 16).length (some (c2.drop 16).length), G) := hB2.slc (k := 16) (by omega)
    have e1 : skipA c1 = skip32 (c2.drop 16).length (c2.drop 16) := by rw [e0, if_pos ⟨by omega, ha16⟩]
    have hB3 := hB2.drop 16
    have hl3 : (c2.drop 16).length = c2.length - 16 := by simp
    have hsm3 : ∀ b ∈ c2.drop 16, 0 ≤ b ∧ b < 256 := fun b hb => hsm2 b (List.mem_of_mem_drop hb)
    generalize hc3 : c2.drop 16 = c3 at *
    simp only [stp, if_true, if_false, Int.reduceEq, Int.reduceLT, Int.reduceLE, Int.reduceGT, Int.reduceGE, reduceCtorEq, Nat.reduceEqDiff, List.getElem?_cons_zero, List.getElem?_cons_succ, Option.map_some, hlen, hpos, i0', d0, ha, s1, h8, Bool.false_eq_true]
    refine w1 _ ?_
    simp only [stp, if_true, if_false, Int.reduceEq, Int.reduceLT, Int.reduceLE, Int.reduceGT, Int.reduceGE, reduceCtorEq, Nat.reduceEqDiff, List.getElem?_cons_zero, List.getElem?_cons_succ, Option.map_some, x_and, ha8, Bool.false_eq_true, s8, hlen, h16]
    repeat' first | with_reducible refine w2 _ ?_ | with_reducible refine w3 _ ?_ | simp only [stp, if_true, if_false, Int.reduceEq, Int.reduceLT, Int.reduceLE, Int.reduceGT, Int.reduceGE, reduceCtorEq, Nat.reduceEqDiff, List.getElem?_cons_zero, List.getElem?_cons_succ, Option.map_some, s9, x_or, x_and, ha16, s16, Bool.false_eq_true] | with_reducible refine And.intro ?_ ?_
    all_goals
      refine inner32 hB3 (by omega) hsm3 (fun off c fr2 q1 q2 q3 q4 q5 => ?_) rfl
      simp only [stp, if_true, if_false, Int.reduceEq, Int.reduceLT, Int.reduceLE, Int.reduceGT, Int.reduceGE, reduceCtorEq, Nat.reduceEqDiff, List.getElem?_cons_zero, List.getElem?_cons_succ, Option.map_some]
      exact fin off c fr2 (by rw [e1, q1]) q2 (by omega) q4 q5
  · -- the tables
    have hTG := hT.ext hx
    have gn1 : ∀ f, (X.g 1).ev f G = some (.ptr 1 0) := fun f => by simp only [X.ev]; rw [if_pos (by have := hTG.gn; omega)]
    have gn2 : ∀ f, (X.g 2).ev f G = some (.ptr 2 0) := fun f => by simp only [X.ev]; rw [if_pos (by have := hTG.gn; omega)]
    obtain ⟨f1, f2⟩ := first_ia hTG g0 g1
    obtain ⟨a1, a2⟩ := acc_ia hTG g0 g1
    obtain ⟨G2, hx2, hw2, ha2, hal, hst⟩ := x_copy (Ext.refl G) hw' (z := [.int .u8 0, .int .u8 0]) (e := [.int .u8 (loT b0), .int .u8 (hiT b0)]) (n := 2) rfl rfl rfl rfl
    have l0 := ha2.ld (j := 0) (v := .int .u8 (loT b0)) rfl 1
    have l1 := ha2.ld (j := 1) (v := .int .u8 (hiT b0)) rfl 1
    have hxx := hx.trans hx2
    have hB2 := hB.ext hx2
    have bad : vStep b0 cur = none → vF bs.length bs = false := fun e => by rw [← hv, e]
    have good : ∀ k, 1 ≤ k → k ≤ cur.length → vStep b0 cur = some (cur.drop k) → ∀ fr2, FrSub [(0, .slice id (off + k * 1) (cur.drop k).length (some (cur.drop k).length))] fr2 →
        ∃ k', k' < cur.length ∧ ∃ (off : Nat) (cur : List Int) (n : Nat), k' = cur.length ∧ Ext H G2 ∧ WF G2 ∧ Byt G2 id off cur ∧ cur.length ≤ n ∧ vF n cur = vF bs.length bs ∧ (∀ b ∈ cur, 0 ≤ b ∧ b < 256) ∧ cur.length ≤ 1048576 ∧ FrSub [(0, .slice id off cur.length (some cur.length))] fr2 := by
      intro k h1 h2 h3 fr2 h4
      rw [h3] at hv
      exact ⟨(cur.drop k).length, by simp; omega, _, cur.drop k, n, rfl, hxx, hw2, hB2.drop k, by simp; omega, hv, drp k, by simp; omega, h4⟩
    have bytes : ∀ i : Nat, i < cur.length → exec (.ia 1) [.slice id off cur.length (some cur.length), .int .i64 i] G2 = some (.ptr id (off + i), G2) ∧ exec (.ld 1) [.ptr id (off + i)] G2 = some (.int .u8 (cur.getD i 0), G2) := fun i hi => hB2.ia hi
    have rest : exec (.toInt .i64) [.int .u8 (IntKind.u8.wrap (BitVec.ofInt 8 (firstT.getD b0.toNat 0) &&& BitVec.ofInt 8 7).toNat)] G = some (.int .i64 (sizeT b0), G) := rfl
    have hsh : exec (.ibin .shr) [.int .u8 (firstT.getD b0.toNat 0), .int .u64 4] G = some (.int .u8 (accI b0), G) := rfl
    simp only [stp, if_true, if_false, Int.reduceEq, Int.reduceLT, Int.reduceLE, Int.reduceGT, Int.reduceGE, reduceCtorEq, Nat.reduceEqDiff, List.getElem?_cons_zero, List.getElem?_cons_succ, Option.map_some, hlen, hpos, i0', d0, ha, gn1, gn2, f1, f2, x_and8, rest, hsh, a1, a2, hal, hst, Bool.false_eq_true]
    by_cases s2 : sizeT b0 = 2
    · have vs : vStep b0 cur = if cur.length < 2 ∨ cur.getD 1 0 < loT b0 ∨ hiT b0 < cur.getD 1 0 then none else some (cur.drop 2) := by rw [vStep, if_neg ha, if_pos s2]
      by_cases hn : (cur.length : Int) < 2
      · simp only [stp, if_true, if_false, Int.reduceEq, Int.reduceLT, Int.reduceLE, Int.reduceGT, Int.reduceGE, reduceCtorEq, Nat.reduceEqDiff, List.getElem?_cons_zero, List.getElem?_cons_succ, Option.map_some, hlen, s2, hn]
        exact ⟨hxx, by rw [bad (by rw [vs, if_pos (by omega)])], rfl⟩
      obtain ⟨p1, q1⟩ := bytes 1 (by omega)
      have p1' : exec (.ia 1) [.slice id off cur.length (some cur.length), .int .i64 1] G2 = some (.ptr id (off + 1), G2) := p1
      by_cases c1 : cur.getD 1 0 < loT b0
      · simp only [stp, if_true, if_false, Int.reduceEq, Int.reduceLT, Int.reduceLE, Int.reduceGT, Int.reduceGE, reduceCtorEq, Nat.reduceEqDiff, List.getElem?_cons_zero, List.getElem?_cons_succ, Option.map_some, hlen, s2, hn, p1', q1, l0, l1, c1]
        exact ⟨hxx, by rw [bad (by rw [vs, if_pos (by omega)])], rfl⟩
      by_cases c2 : hiT b0 < cur.getD 1 0
      · simp only [stp, if_true, if_false, Int.reduceEq, Int.reduceLT, Int.reduceLE, Int.reduceGT, Int.reduceGE, reduceCtorEq, Nat.reduceEqDiff, List.getElem?_cons_zero, List.getElem?_cons_succ, Option.map_some, hlen, s2, hn, p1', q1, l0, l1, c1, c2]
        exact ⟨hxx, by rw [bad (by rw [vs, if_pos (by omega)])], rfl⟩
      have sl : exec (.slc 1 true false false) [.slice id off cur.length (some cur.length), .int .i64 2] G2 = some (.slice id (off + 2 * 1) (cur.drop 2).length (some (cur.drop 2).length), G2) := hB2.slc (k := 2) (by omega)
      simp only [stp, if_true, if_false, Int.reduceEq, Int.reduceLT, Int.reduceLE, Int.reduceGT, Int.reduceGE, reduceCtorEq, Nat.reduceEqDiff, List.getElem?_cons_zero, List.getElem?_cons_succ, Option.map_some, hlen, s2, hn, p1', q1, l0, l1, c1, c2, sl, Bool.false_eq_true]
      exact good 2 (by omega) (by omega) (by rw [vs, if_neg (by omega)]) _ (.cons rfl .nil)
    by_cases s3 : sizeT b0 = 3
    · have vs : vStep b0 cur = if cur.length < 3 ∨ cur.getD 1 0 < loT b0 ∨ hiT b0 < cur.getD 1 0 ∨ cur.getD 2 0 < 128 ∨ 191 < cur.getD 2 0 then none else some (cur.drop 3) := by rw [vStep, if_neg ha, if_neg s2, if_pos s3]
      by_cases hn : (cur.length : Int) < 3
      · simp only [stp, if_true, if_false, Int.reduceEq, Int.reduceLT, Int.reduceLE, Int.reduceGT, Int.reduceGE, reduceCtorEq, Nat.reduceEqDiff, List.getElem?_cons_zero, List.getElem?_cons_succ, Option.map_some, hlen, s2, s3, hn]
        exact ⟨hxx, by rw [bad (by rw [vs, if_pos (by omega)])], rfl⟩
      obtain ⟨p1, q1⟩ := bytes 1 (by omega)
      have p1' : exec (.ia 1) [.slice id off cur.length (some cur.length), .int .i64 1] G2 = some (.ptr id (off + 1), G2) := p1
      obtain ⟨p2, q2⟩ := bytes 2 (by omega)
      have p2' : exec (.ia 1) [.slice id off cur.length (some cur.length), .int .i64 2] G2 = some (.ptr id (off + 2), G2) := p2
      by_cases c1 : cur.getD 1 0 < loT b0
      · simp only [stp, if_true, if_false, Int.reduceEq, Int.reduceLT, Int.reduceLE, Int.reduceGT, Int.reduceGE, reduceCtorEq, Nat.reduceEqDiff, List.getElem?_cons_zero, List.getElem?_cons_succ, Option.map_some, hlen, s2, s3, hn, p1', q1, l0, l1, c1]
        exact ⟨hxx, by rw [bad (by rw [vs, if_pos (by omega)])], rfl⟩
      by_cases c2 : hiT b0 < cur.getD 1 0
      · simp only [stp, if_true, if_false, Int.reduceEq, Int.reduceLT, Int.reduceLE, Int.reduceGT, Int.reduceGE, reduceCtorEq, Nat.reduceEqDiff, List.getElem?_cons_zero, List.getElem?_cons_succ, Option.map_some, hlen, s2, s3, hn, p1', q1, l0, l1, c1, c2]
        exact ⟨hxx, by rw [bad (by rw [vs, if_pos (by omega)])], rfl⟩
      by_cases c3 : cur.getD 2 0 < 128
      · simp only [stp, if_true, if_false, Int.reduceEq, Int.reduceLT, Int.reduceLE, Int.reduceGT, Int.reduceGE, reduceCtorEq, Nat.reduceEqDiff, List.getElem?_cons_zero, List.getElem?_cons_succ, Option.map_some, hlen, s2, s3, hn, p1', q1, l0, l1, c1, c2, p2', q2, c3]
        exact ⟨hxx, by rw [bad (by rw [vs, if_pos (by omega)])], rfl⟩
      by_cases c4 : 191 < cur.getD 2 0
      · simp only [stp, if_true, if_false, Int.reduceEq, Int.reduceLT, Int.reduceLE, Int.reduceGT, Int.reduceGE, reduceCtorEq, Nat.reduceEqDiff, List.getElem?_cons_zero, List.getElem?_cons_succ, Option.map_some, hlen, s2, s3, hn, p1', q1, l0, l1, c1, c2, p2', q2, c3, c4]
        exact ⟨hxx, by rw [bad (by rw [vs, if_pos (by omega)])], rfl⟩
      have sl : exec (.slc 1 true false false) [.slice id off cur.length (some cur.length), .int .i64 3] G2 = some (.slice id (off + 3 * 1) (cur.drop 3).length (some (cur.drop 3).length), G2) := hB2.slc (k := 3) (by omega)
      simp only [stp, if_true, if_false, Int.reduceEq, Int.reduceLT, Int.reduceLE, Int.reduceGT, Int.reduceGE, reduceCtorEq, Nat.reduceEqDiff, List.getElem?_cons_zero, List.getElem?_cons_succ, Option.map_some, hlen, s2, s3, hn, p1', q1, l0, l1, c1, c2, p2', q2, c3, c4, sl, Bool.false_eq_true]
      exact good 3 (by omega) (by omega) (by rw [vs, if_neg (by omega)]) _ (.cons rfl .nil)
    by_cases s4 : sizeT b0 = 4
    · have vs : vStep b0 cur = if cur.length < 4 ∨ cur.getD 1 0 < loT b0 ∨ hiT b0 < cur.getD 1 0 ∨ cur.getD 2 0 < 128 ∨ 191 < cur.getD 2 0 ∨ cur.getD 3 0 < 128 ∨ 191 < cur.getD 3 0 then none else some (cur.drop 4) := by rw [vStep, if_neg ha, if_neg s2, if_neg s3, if_pos s4]
      by_cases hn : (cur.length : Int) < 4
      · simp only [stp, if_true, if_false, Int.reduceEq, Int.reduceLT, Int.reduceLE, Int.reduceGT, Int.reduceGE, reduceCtorEq, Nat.reduceEqDiff, List.getElem?_cons_zero, List.getElem?_cons_succ, Option.map_some, hlen, s2, s3, s4, hn]
        exact ⟨hxx, by rw [bad (by rw [vs, if_pos (by omega)])], rfl⟩
      obtain ⟨p1, q1⟩ := bytes 1 (by omega)
      have p1' : exec (.ia 1) [.slice id off cur.length (some cur.length), .int .i64 1] G2 = some (.ptr id (off + 1), G2) := p1
      obtain ⟨p2, q2⟩ := bytes 2 (by omega)
      have p2' : exec (.ia 1) [.slice id off cur.length (some cur.length), .int .i64 2] G2 = some (.ptr id (off + 2), G2) := p2
      obtain ⟨p3, q3⟩ := bytes 3 (by omega)
      have p3' : exec (.ia 1) [.slice id off cur.length (some cur.length), .int .i64 3] G2 = some (.ptr id (off + 3), G2) := p3
      by_cases c1 : cur.getD 1 0 < loT b0
      · simp only [stp, if_true, if_false, Int.reduceEq, Int.reduceLT, Int.reduceLE, Int.reduceGT, Int.reduceGE, reduceCtorEq, Nat.reduceEqDiff, List.getElem?_cons_zero, List.getElem?_cons_succ, Option.map_some, hlen, s2, s3, s4, hn, p1', q1, l0, l1, c1]
        exact ⟨hxx, by rw [bad (by rw [vs, if_pos (by omega)])], rfl⟩
      by_cases c2 : hiT b0 < cur.getD 1 0
      · simp only [stp, if_true, if_false, Int.reduceEq, Int.reduceLT, Int.reduceLE, Int.reduceGT, Int.reduceGE, reduceCtorEq, Nat.reduceEqDiff, List.getElem?_cons_zero, List.getElem?_cons_succ, Option.map_some, hlen, s2, s3, s4, hn, p1', q1, l0, l1, c1, c2]
        exact ⟨hxx, by rw [bad (by rw [vs, if_pos (by omega)])], rfl⟩
      by_cases c3 : cur.getD 2 0 < 128
      · simp only [stp, if_true, if_false, Int.reduceEq, Int.reduceLT, Int.reduceLE, Int.reduceGT, Int.reduceGE, reduceCtorEq, Nat.reduceEqDiff, List.getElem?_cons_zero, List.getElem?_cons_succ, Option.map_some, hlen, s2, s3, s4, hn, p1', q1, l0, l1, c1, c2, p2', q2, c3]
        exact ⟨hxx, by rw [bad (by rw [vs, if_pos (by omega)])], rfl⟩
      by_cases c4 : 191 < cur.getD 2 0
      · simp only [stp, if_true, if_false, Int.reduceEq, Int.reduceLT, Int.reduceLE, Int.reduceGT, Int.reduceGE, reduceCtorEq, Nat.reduceEqDiff, List.getElem?_cons_zero, List.getElem?_cons_succ, Option.map_some, hlen, s2, s3, s4, hn, p1', q1, l0, l1, c1, c2, p2', q2, c3, c4]
        exact ⟨hxx, by rw [bad (by rw [vs, if_pos (by omega)])], rfl⟩
      by_cases c5 : cur.getD 3 0 < 128
      · simp only [stp, if_true, if_false, Int.reduceEq, Int.reduceLT, Int.reduceLE, Int.reduceGT, Int.reduceGE, reduceCtorEq, Nat.reduceEqDiff, List.getElem?_cons_zero, List.getElem?_cons_succ, Option.map_some, hlen, s2, s3, s4, hn, p1', q1, l0, l1, c1, c2, p2', q2, c3, c4, p3', q3, c5]
        exact ⟨hxx, by rw [bad (by rw [vs, if_pos (by omega)])], rfl⟩
      by_cases c6 : 191 < cur.getD 3 0
      · simp only [stp, if_true, if_false, Int.reduceEq, Int.reduceLT, Int.reduceLE, Int.reduceGT, Int.reduceGE, reduceCtorEq, Nat.reduceEqDiff, List.getElem?_cons_zero, List.getElem?_cons_succ, Option.map_some, hlen, s2, s3, s4, hn, p1', q1, l0, l1, c1, c2, p2', q2, c3, c4, p3', q3, c5, c6]
        exact ⟨hxx, by rw [bad (by rw [vs, if_pos (by omega)])], rfl⟩
      have sl : exec (.slc 1 true false false) [.slice id off cur.length (some cur.length), .int .i64 4] G2 = some (.slice id (off + 4 * 1) (cur.drop 4).length (some (cur.drop 4).length), G2) := hB2.slc (k := 4) (by omega)
      simp only [stp, if_true, if_false, Int.reduceEq, Int.reduceLT, Int.reduceLE, Int.reduceGT, Int.reduceGE, reduceCtorEq, Nat.reduceEqDiff, List.getElem?_cons_zero, List.getElem?_cons_succ, Option.map_some, hlen, s2, s3, s4, hn, p1', q1, l0, l1, c1, c2, p2', q2, c3, c4, p3', q3, c5, c6, sl, Bool.false_eq_true]
      exact good 4 (by omega) (by omega) (by rw [vs, if_neg (by omega)]) _ (.cons rfl .nil)
    have vs : vStep b0 cur = none := by rw [vStep, if_neg ha, if_neg s2, if_neg s3, if_neg s4]
    simp only [stp, if_true, if_false, Int.reduceEq, Int.reduceLT, Int.reduceLE, Int.reduceGT, Int.reduceGE, reduceCtorEq, Nat.reduceEqDiff, List.getElem?_cons_zero, List.getElem?_cons_succ, Option.map_some, s2, s3, s4]
    exact ⟨hxx, by rw [bad vs], rfl⟩
end Go.Proofs.YtbadbkdpnbacnaaDoor.Fw

/- utf8.Valid's contract as it is asked for. No condition. -/
namespace Go.Proofs.YtbadbkdpnbacnaaDoor.Fw
open Go
set_option linter.unusedSimpArgs false
set_option linter.unusedVariables false

def intsB (s : ByteArray) : List Int := s.data.toList.map fun b => (b.toNat : Int)
theorem intsB_len (s : ByteArray) : (intsB s).length = s.size := by rw [intsB, List.length_map]; rfl
theorem intsB_cells (s : ByteArray) : (intsB s).map (V.int .u8) = bytesV s := by simp [intsB, bytesV, Function.comp_def]
def validS (s : ByteArray) : Bool := vF (intsB s).length (intsB s)
theorem sl_bytes {H : Heap} {id : Nat} {s : ByteArray} (hid : id < H.next) (hg : H.get id = some (.row false 1 (bytesV s))) : SL H (.slice id 0 (intsB s).length none) 1 (byteR (intsB s)) := by
  refine ⟨fun e he => by obtain ⟨b, _, rfl⟩ := List.mem_map.1 he; exact ⟨rfl, rfl⟩, .inr ⟨id, 0, none, by rw [List.length_map], hid, fun i e he => ?_⟩⟩
  have hi : i < (intsB s).length := by have := (List.getElem?_eq_some_iff.1 he).1; simpa using this
  have hl : (bytesV s).length = (intsB s).length := by rw [← intsB_cells, List.length_map]
  refine ⟨hid, false, 1, bytesV s, hg, ?_, fun j v hj => ?_⟩
  · simp [hi] at he; subst he; simp; omega
  · simp [hi] at he; subst he
    match j, hj with
    | 0, hj =>
      simp at hj; subst hj
      rw [← intsB_cells]; simp [hi]
    | j + 1, hj => simp at hj
theorem validIs : ValidIs validS := by
  intro s H id hT hs hid hg
  have := valid_calls hT (off := 0) (sl_bytes hid hg) (by rw [intsB_len]; unfold big; omega) fun b hb => by
    obtain ⟨c, _, rfl⟩ := List.mem_map.1 hb
    have := c.toNat_lt
    omega
  rw [intsB_len] at this
  rw [validS, intsB_len]
  exact this
end Go.Proofs.YtbadbkdpnbacnaaDoor.Fw

/- CellsApart: the known answer, worked out. No condition. -/
namespace Go.Proofs.YtbadbkdpnbacnaaDoor.Fw
open Go
set_option linter.unusedSimpArgs false
set_option linter.unusedVariables false

def tblC : List (Nat × AFn) := [(16, fn16), (9, fn9), (20, fn20), (17, fn17), (34, fn34), (24, fn24), (25, fn25), (26, fn26), (54, fn54), (75, fn75), (27, fn27), (28, fn28), (56, fn56), (55, fn55), (84, fn84), (49, fn49), (50, fn50), (69, fn69), (44, fn44), (67, fn67), (93, fn93), (94, fn94), (60, fn60), (51, fn51), (70, fn70), (95, fn95), (48, fn48), (68, fn68), (71, fn71), (96, fn96), (52, fn52), (72, fn72), (53, fn53), (73, fn73), (97, fn97), (74, fn74), (35, fn35), (36, fn36), (63, fn63), (37, fn37), (38, fn38), (64, fn64), (39, fn39), (65, fn65), (66, fn66), (62, fn62), (89, fn89), (40, fn40), (41, fn41), (32, fn32), (61, fn61), (59, fn59), (87, fn87)]
theorem tblC_ok : ∀ p ∈ tblC, compFn Go.Proofs.Tryd.prog p.1 = some p.2 :=
  tbl_cons c16 (tbl_cons c9 (tbl_cons c20 (tbl_cons c17 (tbl_cons c34 (tbl_cons c24 (tbl_cons c25 (tbl_cons c26 (tbl_cons c54 (tbl_cons c75 (tbl_cons c27 (tbl_cons c28 (tbl_cons c56 (tbl_cons c55 (tbl_cons c84 (tbl_cons c49 (tbl_cons c50 (tbl_cons c69 (tbl_cons c44 (tbl_cons c67 (tbl_cons c93 (tbl_cons c94 (tbl_cons c60 (tbl_cons c51 (tbl_cons c70 (tbl_cons c95 (tbl_cons c48 (tbl_cons c68 (tbl_cons c71 (tbl_cons c96 (tbl_cons c52 (tbl_cons c72 (tbl_cons c53 (tbl_cons c73 (tbl_cons c97 (tbl_cons c74 (tbl_cons c35 (tbl_cons c36 (tbl_cons c63 (tbl_cons c37 (tbl_cons c38 (tbl_cons c64 (tbl_cons c39 (tbl_cons c65 (tbl_cons c66 (tbl_cons c62 (tbl_cons c89 (tbl_cons c40 (tbl_cons c41 (tbl_cons c32 (tbl_cons c61 (tbl_cons c59 (tbl_cons c87 tbl_nil))))))))))))))))))))))))))))))))))))))))))))))))))))
theorem knownC_calls (H : Heap) : SCalls PP 16 [] H fun r H' => H' = H ∧ r = .bool true :=
  SCalls.worked2 (fun f af => tblGet_ok tblC_ok) rfl rfl (k := 100) (n := 20) (by kernel_rfl) H
end Go.Proofs.YtbadbkdpnbacnaaDoor.Fw

/- Cells: Delta, Text, May; the document's Great and Same. No condition. -/
namespace Go.Proofs.YtbadbkdpnbacnaaDoor.Fw
open Go
set_option linter.unusedSimpArgs false
set_option linter.unusedVariables false

theorem MkI.mb {H : Heap} {M : Nat → Prop} {p : Nat} {m : MkC} (h : MkI H M p m) : ∀ j, M j → j < H.next := by
  obtain ⟨dv, iv, dcs, ics, dk, ik, rk, h⟩ := h
  exact h.mb
set_option maxRecDepth 20000 in
set_option maxHeartbeats 4000000 in
theorem delta_calls {H : Heap} {d : V} {cs : List CellA} (hd : CellsIn H d cs) {a : V} (hcut : ∀ i c, cs = i ++ [c] → (∀ G, exec (.slc 2 false true false) [d, .int .i64 (i.length : Nat)] G = some (a, G)) ∧ SL H a 2 (i.map CellA.cells)) (hl : cs.length ≤ 500) :
    SCalls PP 20 [d] H fun r H' => Ext H H' ∧ WF H' ∧ ∃ os, OpsIn H' r os ∧ os.map OpA.con = deltaF cs := by
  refine SCalls.go c20 (by simp [fn20]) fun hw => ?_
  have hlen : ∀ G, exec .len [d] G = some (.int .i64 cs.length, G) := fun G => by have := hd.sl.len (H' := G); rwa [List.length_map] at this
  simp (maxSteps := 1000000) (implicitDefEqProofs := false) only [stp, if_true, if_false, Int.reduceEq, Int.reduceLT, Int.reduceLE, Int.reduceGT, Int.reduceGE, reduceCtorEq, Nat.reduceEqDiff, List.getElem?_cons_zero, List.getElem?_cons_succ, Option.map_some, fn20, enterFr, List.length, List.range, List.range.loop, List.zip, List.zipWith]
  refine SCalls.mono (newMk_calls H) ?_
  rintro r G ⟨hx, hwG, p, rfl, hp, hm⟩
  have hw1 : IntKind.i64.wrap ((cs.length : Int) - 1) = (cs.length : Int) - 1 := wrap_i64 (by omega) (by omega)
  rcases List.eq_nil_or_concat cs with hcs | ⟨i, c, hcs⟩
  · subst hcs
    have hlt : ¬ ((([] : List CellA).length : Int) - 1 ≥ 0) := by simp
    simp only [List.length_nil, Int.natCast_zero] at hlt hw1 hlen
    simp (maxSteps := 1000000) (implicitDefEqProofs := false) only [stp, if_true, if_false, Int.reduceEq, Int.reduceLT, Int.reduceLE, Int.reduceGT, Int.reduceGE, reduceCtorEq, Nat.reduceEqDiff, List.getElem?_cons_zero, List.getElem?_cons_succ, Option.map_some, hlen, hw1, hlt]
    refine SCalls.mono (ops_calls hm (by simp [big]) (by simp)) ?_
    rintro r H' ⟨hx2, hw2, os, q1, q2⟩
    simp (maxSteps := 1000000) (implicitDefEqProofs := false) only [stp, if_true, if_false, Int.reduceEq, Int.reduceLT, Int.reduceLE, Int.reduceGT, Int.reduceGE, reduceCtorEq, Nat.reduceEqDiff, List.getElem?_cons_zero, List.getElem?_cons_succ, Option.map_some, if_true]
    exact ⟨hx.trans hx2, hw2, os, q1.here, q2⟩
  · rw [List.concat_eq_append] at hcs
    obtain ⟨hcut1, hcut2⟩ := hcut i c hcs
    have hol : cs.length = i.length + 1 := by rw [hcs, List.length_append]; rfl
    have hw1' : IntKind.i64.wrap ((cs.length : Int) - 1) = ((i.length : Nat) : Int) := by rw [hw1]; omega
    have hge : ((i.length : Nat) : Int) ≥ 0 := by omega
    have hci := hd.ins c (by rw [hcs]; simp)
    simp (maxSteps := 1000000) (implicitDefEqProofs := false) only [stp, if_true, if_false, Int.reduceEq, Int.reduceLT, Int.reduceLE, Int.reduceGT, Int.reduceGE, reduceCtorEq, Nat.reduceEqDiff, List.getElem?_cons_zero, List.getElem?_cons_succ, Option.map_some, hlen, hw1', hge, hcut1]
    refine SCalls.mono (tell_calls hx hm (fun j e => by rw [e]; exact hp) (cs := i) ⟨hcut2, fun x hx => hd.ins x (by rw [hcs]; simp [hx]), by unfold big; omega⟩ (by unfold big; omega)) ?_
    rintro r G2 ⟨M2, hm2, hM2, hx2, hw2⟩
    obtain ⟨i1, o1, ha1, ht1⟩ := (hd.sl.ext hx2).ia (H' := G2) (i := i.length) (e := c.cells) (by rw [hcs]; simp) .i64
    have ls := ht1.ld (j := 1) (v := c.set) rfl 1
    simp (maxSteps := 1000000) (implicitDefEqProofs := false) only [stp, if_true, if_false, Int.reduceEq, Int.reduceLT, Int.reduceLE, Int.reduceGT, Int.reduceGE, reduceCtorEq, Nat.reduceEqDiff, List.getElem?_cons_zero, List.getElem?_cons_succ, Option.map_some, ha1, ls]
    refine SCalls.mono (diffNil_calls (hci.ext hx2).set hci.al) ?_
    rintro pv G3 ⟨hx3, hw3, pk, hpv, hpk, hpk0⟩
    have hm3 := hm2.ext hx3
    have hfz : Fz M2 G3 fun H' => SL H' pv 6 ((c.ats.map chgOf).map ChgA.cells) := hpv.fz (fun e => by rw [hpk0 e]; rfl) (Nat.le_refl _) fun j e => by
      refine ⟨fun q => ?_, rfl⟩
      have := hm2.mb j q
      have := hpk j e
      omega
    obtain ⟨t1, t2⟩ := tellF_bd i m0 0 (by simp) (by simp)
    obtain ⟨t3, t4⟩ := tellF_done i m0
    have hbi : (tellF m0 i).done.length + (tellF m0 i).ins.length + 3 ≤ big := by rw [t3]; simp only [List.length_nil]; unfold big; omega
    simp (maxSteps := 1000000) (implicitDefEqProofs := false) only [stp, if_true, if_false, Int.reduceEq, Int.reduceLT, Int.reduceLE, Int.reduceGT, Int.reduceGE, reduceCtorEq, Nat.reduceEqDiff, List.getElem?_cons_zero, List.getElem?_cons_succ, Option.map_some, if_true]
    refine SCalls.mono (retain_calls hm3 hfz ⟨by simp, by simp, by simpa using hci.al, by simp, fun x hx => ?_, by simp, by simp⟩ hbi (by rw [t4]; simp)) ?_
    · simp only [List.mem_map] at hx
      obtain ⟨y, hy, rfl⟩ := hx
      exact hci.sa y hy
    rintro r G4 ⟨M4, hm4, hx4, hg4, hw4⟩
    have hA4 : Ext H G4 := (hx2.trans hx3).thenM hx4 (fun j q => hM2 j q)
    have e1 : ((tellF m0 i).retain 1 (c.ats.map chgOf)).ins = [] ∧ ((tellF m0 i).retain 1 (c.ats.map chgOf)).gone = 0 ∧ ((tellF m0 i).retain 1 (c.ats.map chgOf)).done.length ≤ 600 := by
      unfold MkC.retain
      rw [if_neg (by decide)]
      refine ⟨rfl, rfl, ?_⟩
      show (retainDone _ _ _).length ≤ 600
      unfold retainDone
      have hb : ((tellF m0 i).done ++ ((tellF m0 i).ins ++ delO (tellF m0 i).gone)).length ≤ 520 := by
        rw [t3, t4]
        simp only [List.nil_append, List.length_append, delO]
        have : (if (0 : Int) > 0 then [OpC.mk 3 0 [] [] []] else []).length ≤ 1 := by simp
        simp at this ⊢
        omega
      split
      · split
        · rw [List.length_append, List.length_dropLast]; simp only [List.length_cons, List.length_nil]; omega
        · rw [List.length_append]; simp only [List.length_cons, List.length_nil]; omega
      · rw [List.length_append]; simp only [List.length_cons, List.length_nil]; omega
    have e13 := e1.2.2
    simp (maxSteps := 1000000) (implicitDefEqProofs := false) only [stp, if_true, if_false, Int.reduceEq, Int.reduceLT, Int.reduceLE, Int.reduceGT, Int.reduceGE, reduceCtorEq, Nat.reduceEqDiff, List.getElem?_cons_zero, List.getElem?_cons_succ, Option.map_some, if_true]
    refine SCalls.mono (ops_calls hm4 (by rw [e1.1]; exact Nat.le_trans (Nat.add_le_add_right e13 3) (by simp [big])) (by rw [e1.2.1]; simp)) ?_
    rintro r H' ⟨hx5, hw5, os, q1, q2⟩
    simp (maxSteps := 1000000) (implicitDefEqProofs := false) only [stp, if_true, if_false, Int.reduceEq, Int.reduceLT, Int.reduceLE, Int.reduceGT, Int.reduceGE, reduceCtorEq, Nat.reduceEqDiff, List.getElem?_cons_zero, List.getElem?_cons_succ, Option.map_some, if_true]
    refine ⟨hA4.trans hx5, hw5, os, q1.here, ?_⟩
    rw [q2, hcs]
    unfold deltaF
    rw [List.getLast?_concat, List.dropLast_concat]

/-! ### Text -/
set_option maxRecDepth 20000 in
set_option maxHeartbeats 2000000 in
theorem cellsText_calls {H : Heap} {d : V} {cs : List CellA} (hd : CellsIn H d cs) : SCalls PP 22 [d] H fun r H' => Ext H H' ∧ WF H' ∧ SL H' r 1 ((cs.map (·.r)).map fun x => [V.int .i32 x]) := by
  refine SCalls.go c22 (by simp [fn22]) fun hw => ?_
  have hb := hd.len
  unfold big at hb
  have hlen : ∀ G, exec .len [d] G = some (.int .i64 cs.length, G) := fun G => by have := hd.sl.len (H' := G); rwa [List.length_map] at this
  simp (maxSteps := 1000000) (implicitDefEqProofs := false) only [stp, if_true, if_false, Int.reduceEq, Int.reduceLT, Int.reduceLE, Int.reduceGT, Int.reduceGE, reduceCtorEq, Nat.reduceEqDiff, List.getElem?_cons_zero, List.getElem?_cons_succ, Option.map_some, fn22, enterFr, List.length, List.range, List.range.loop, List.zip, List.zipWith, hlen]
  refine wp_range (len := cs.length) SCalls.scMono (by omega) (fun r : V => [(6, d), (3, r)]) (fun k r G => Ext H G ∧ WF G ∧ ∃ kk, Vec G r 1 (((cs.take k).map (·.r)).map fun x => [V.int .i32 x]) kk ∧ (∀ j, kk = some j → H.next ≤ j)) .nils ⟨Ext.refl H, hw, none, by simpa using Vec.nil H 1, fun j e => (by cases e)⟩
    (.cons rfl (.cons rfl (.cons rfl (.cons rfl .nil)))) (by decide) (fun s => ⟨rfl, rfl, rfl⟩) ?_ ?_
  · rintro k r G hk ⟨hx, hwG, kk, hv, hkk⟩
    obtain ⟨i1, o1, ha1, ht1⟩ := (hd.sl.ext hx).ia (H' := G) (i := k) (e := cs[k].cells) (by rw [List.getElem?_map, List.getElem?_eq_getElem hk]; rfl) .i64
    have e1 := hd.sl.1 cs[k].cells (List.mem_map_of_mem (List.getElem_mem hk))
    obtain ⟨G2, hx2, hw2, hat2, hal2, hst2⟩ := x_copy (Ext.refl G) hwG (z := [.int .i32 0, .nils]) (e := cs[k].cells) (n := 2) rfl rfl e1.1 e1.2
    obtain ⟨G3, b1, b2, b3, b4⟩ := bslR cs[k].r G2
    have lr := hat2.ld (j := 0) (v := .int .i32 cs[k].r) rfl 1
    have hxx := hx.trans (hx2.trans b2)
    have hv3 := hv.ext (hx2.trans b2)
    obtain ⟨s1, s2⟩ := b4.src (by simp)
    have htl : (((cs.take k).map (·.r)).map fun x => [V.int .i32 x]).length = k := by simp; omega
    obtain ⟨G5, a1, a2, a3, a4, a5, a6, a7⟩ := hv3.app (bytes := 4) (n := 1) (news := [[.int .i32 cs[k].r]]) (b3 hw2) (by decide) rfl (by decide) (by simpa using s1) (by simpa using s2) (fun e he => by simp at he; subst he; exact ⟨rfl, rfl⟩) (by omega) (by omega)
    simp (maxSteps := 1000000) (implicitDefEqProofs := false) only [stp, if_true, if_false, Int.reduceEq, Int.reduceLT, Int.reduceLE, Int.reduceGT, Int.reduceGE, reduceCtorEq, Nat.reduceEqDiff, List.getElem?_cons_zero, List.getElem?_cons_succ, Option.map_some, ha1, ht1.lda (n := 2) rfl, hal2, hst2, lr, b1, a1]
    have hn4 := hxx.next
    refine ⟨_, ⟨⟨a6.trans hxx.gn, by omega, fun j hj => ?_⟩, a4, some G3.next, ?_, fun j e => (by cases e; omega)⟩, .cons rfl (.cons rfl (.cons rfl (.cons rfl .nil)))⟩
    · rw [a7 j (by omega) (fun q => by have := hkk j q; omega), hxx.get j hj]
    · rw [List.take_succ_eq_append_getElem hk, List.map_append, List.map_append]
      exact a2
  · rintro r G ⟨hx, hwG, kk, hv, hkk⟩
    rw [List.take_length] at hv
    simp (maxSteps := 1000000) (implicitDefEqProofs := false) only [stp, if_true, if_false, Int.reduceEq, Int.reduceLT, Int.reduceLE, Int.reduceGT, Int.reduceGE, reduceCtorEq, Nat.reduceEqDiff, List.getElem?_cons_zero, List.getElem?_cons_succ, Option.map_some, if_true]
    exact ⟨hx, hwG, hv.sl⟩

/-! ### The document's Same -/
set_option maxRecDepth 20000 in
set_option maxHeartbeats 2000000 in
theorem refSame_calls {x y : V} {H : Heap} {us bs : List Int} (hx : SL H x 1 (us.map fun r => [V.int .i32 r])) (hy : SL H y 1 (bs.map fun r => [V.int .i32 r])) (hl : us.length ≤ big) :
    SCalls PP 21 [x, y] H fun r H' => H' = H ∧ r = .bool (listEq runeEq us bs) := by
  refine SCalls.go c21 (by simp [fn21]) fun hw => ?_
  unfold big at hl
  have hlx : ∀ G, exec .len [x] G = some (.int .i64 us.length, G) := fun G => by have := hx.len (H' := G); rwa [List.length_map] at this
  have hly : ∀ G, exec .len [y] G = some (.int .i64 bs.length, G) := fun G => by have := hy.len (H' := G); rwa [List.length_map] at this
  by_cases hne : (us.length : Int) = bs.length
  rotate_left
  · simp (maxSteps := 1000000) (implicitDefEqProofs := false) only [stp, if_true, if_false, Int.reduceEq, Int.reduceLT, Int.reduceLE, Int.reduceGT, Int.reduceGE, reduceCtorEq, Nat.reduceEqDiff, List.getElem?_cons_zero, List.getElem?_cons_succ, Option.map_some, fn21, enterFr, List.length, List.range, List.range.loop, List.zip, List.zipWith, hlx, hly, hne]
    exact ⟨by trivial, by rw [listEq_len (by omega)]⟩
  have hne' : us.length = bs.length := by omega
  simp (maxSteps := 1000000) (implicitDefEqProofs := false) only [stp, if_true, if_false, Int.reduceEq, Int.reduceLT, Int.reduceLE, Int.reduceGT, Int.reduceGE, reduceCtorEq, Nat.reduceEqDiff, List.getElem?_cons_zero, List.getElem?_cons_succ, Option.map_some, fn21, enterFr, List.length, List.range, List.range.loop, List.zip, List.zipWith, hlx, hly, hne]
  refine wp_loopI (fun m fr G => ∃ k : Nat, m = us.length - k ∧ k ≤ us.length ∧ G = H ∧ listEq runeEq (us.drop k) (bs.drop k) = listEq runeEq us bs ∧ FrSub [(5, .int .i64 k), (0, x), (1, y)] fr) us.length ⟨0, rfl, Nat.zero_le _, rfl, rfl, .cons rfl (.cons rfl (.cons rfl .nil))⟩ ?_
  rintro m fr G ⟨k, rfl, hk, rfl, hacc, hsub⟩
  refine ⟨_, hsub, ?_⟩
  by_cases hlt : (k : Int) < us.length
  · have hk1 : k < us.length := by omega
    have hk2 : k < bs.length := by omega
    obtain ⟨i1, o1, ha1, ht1⟩ := hx.ia (H' := G) (i := k) (e := [V.int .i32 us[k]]) (by rw [List.getElem?_map, List.getElem?_eq_getElem hk1]; rfl) .i64
    obtain ⟨i2, o2, ha2, ht2⟩ := hy.ia (H' := G) (i := k) (e := [V.int .i32 bs[k]]) (by rw [List.getElem?_map, List.getElem?_eq_getElem hk2]; rfl) .i64
    have l1 := ht1.ld (j := 0) (v := .int .i32 us[k]) rfl 1
    have l2 := ht2.ld (j := 0) (v := .int .i32 bs[k]) rfl 1
    rw [Nat.add_zero] at l1 l2
    rw [List.drop_eq_getElem_cons hk1, List.drop_eq_getElem_cons hk2] at hacc
    simp only [listEq, runeEq] at hacc
    have hw1 : IntKind.i64.wrap ((k : Int) + 1) = ((k + 1 : Nat) : Int) := by rw [wrap_i64 (by omega) (by omega)]; omega
    by_cases he : us[k] = bs[k]
    · simp only [he, decide_true, Bool.true_and] at hacc
      simp (maxSteps := 1000000) (implicitDefEqProofs := false) only [stp, if_true, if_false, Int.reduceEq, Int.reduceLT, Int.reduceLE, Int.reduceGT, Int.reduceGE, reduceCtorEq, Nat.reduceEqDiff, List.getElem?_cons_zero, List.getElem?_cons_succ, Option.map_some, hlx, ← hne, hlt, ha1, ha2, l1, l2, he, hw1]
      exact ⟨us.length - (k + 1), by omega, k + 1, rfl, by omega, by trivial, hacc, .cons rfl (.cons rfl (.cons rfl .nil))⟩
    · simp only [he, decide_false, Bool.false_and] at hacc
      simp (maxSteps := 1000000) (implicitDefEqProofs := false) only [stp, if_true, if_false, Int.reduceEq, Int.reduceLT, Int.reduceLE, Int.reduceGT, Int.reduceGE, reduceCtorEq, Nat.reduceEqDiff, List.getElem?_cons_zero, List.getElem?_cons_succ, Option.map_some, hlx, ← hne, hlt, ha1, ha2, l1, l2, he]
      exact ⟨by trivial, by rw [← hacc]⟩
  · obtain rfl : k = us.length := by omega
    simp (maxSteps := 1000000) (implicitDefEqProofs := false) only [stp, if_true, if_false, Int.reduceEq, Int.reduceLT, Int.reduceLE, Int.reduceGT, Int.reduceGE, reduceCtorEq, Nat.reduceEqDiff, List.getElem?_cons_zero, List.getElem?_cons_succ, Option.map_some, hlx, ← hne, hlt]
    rw [List.drop_length, List.drop_of_length_le (by omega)] at hacc
    exact ⟨by trivial, by rw [← hacc]; rfl⟩

/-! ### Great -/
set_option maxRecDepth 20000 in
set_option maxHeartbeats 4000000 in
theorem greatC_calls {H : Heap} {d : V} {cs : List CellA} (hd : CellsIn H d cs) (n : Int) : SCalls PP 15 [d, .int .i64 n] H fun r H' => H' = H ∧ ∃ b, r = .bool b ∧ (b = false → (cs.length : Int) ≤ n) := by
  refine SCalls.go c15 (by simp [fn15]) fun hw => ?_
  have hb := hd.len
  unfold big at hb
  have hlen : ∀ G, exec .len [d] G = some (.int .i64 cs.length, G) := fun G => by have := hd.sl.len (H' := G); rwa [List.length_map] at this
  by_cases hgt : (cs.length : Int) > n
  · simp (maxSteps := 1000000) (implicitDefEqProofs := false) only [stp, if_true, if_false, Int.reduceEq, Int.reduceLT, Int.reduceLE, Int.reduceGT, Int.reduceGE, reduceCtorEq, Nat.reduceEqDiff, List.getElem?_cons_zero, List.getElem?_cons_succ, Option.map_some, fn15, enterFr, List.length, List.range, List.range.loop, List.zip, List.zipWith, hlen, hgt]
    exact ⟨by trivial, _, rfl, fun h => (by cases h)⟩
  simp (maxSteps := 1000000) (implicitDefEqProofs := false) only [stp, if_true, if_false, Int.reduceEq, Int.reduceLT, Int.reduceLE, Int.reduceGT, Int.reduceGE, reduceCtorEq, Nat.reduceEqDiff, List.getElem?_cons_zero, List.getElem?_cons_succ, Option.map_some, fn15, enterFr, List.length, List.range, List.range.loop, List.zip, List.zipWith, hlen, hgt]
  refine wp_loopI (fun m fr G => ∃ (k : Nat) (acc : Int), m = cs.length - k ∧ k ≤ cs.length ∧ G = H ∧ FrSub [(6, .int .i64 k), (5, .int .i64 acc), (0, d), (1, .int .i64 n)] fr) cs.length ⟨0, 0, rfl, Nat.zero_le _, rfl, .cons rfl (.cons rfl (.cons rfl (.cons rfl .nil)))⟩ ?_
  rintro m fr G ⟨k, acc, rfl, hk, rfl, hsub⟩
  refine ⟨_, hsub, ?_⟩
  by_cases hlt : (k : Int) < cs.length
  rotate_left
  · simp (maxSteps := 1000000) (implicitDefEqProofs := false) only [stp, if_true, if_false, Int.reduceEq, Int.reduceLT, Int.reduceLE, Int.reduceGT, Int.reduceGE, reduceCtorEq, Nat.reduceEqDiff, List.getElem?_cons_zero, List.getElem?_cons_succ, Option.map_some, hlen, hlt]
    exact ⟨by trivial, _, rfl, fun _ => by omega⟩
  have hk1 : k < cs.length := by omega
  obtain ⟨i1, o1, ha1, ht1⟩ := hd.sl.ia (H' := G) (i := k) (e := cs[k].cells) (by rw [List.getElem?_map, List.getElem?_eq_getElem hk1]; rfl) .i64
  have ls := ht1.ld (j := 1) (v := cs[k].set) rfl 1
  have hci := hd.ins cs[k] (List.getElem_mem hk1)
  have hal := hci.al
  unfold big at hal
  have hsl : ∀ F, exec .len [cs[k].set] F = some (.int .i64 cs[k].ats.length, F) := fun F => by have := hci.set.len (H' := F); rwa [List.length_map] at this
  have hw1 : IntKind.i64.wrap ((k : Int) + 1) = ((k + 1 : Nat) : Int) := by rw [wrap_i64 (by omega) (by omega)]; omega
  by_cases h64 : (cs[k].ats.length : Int) > 64
  · simp (maxSteps := 1000000) (implicitDefEqProofs := false) only [stp, if_true, if_false, Int.reduceEq, Int.reduceLT, Int.reduceLE, Int.reduceGT, Int.reduceGE, reduceCtorEq, Nat.reduceEqDiff, List.getElem?_cons_zero, List.getElem?_cons_succ, Option.map_some, hlen, hlt, ha1, ls, hsl, h64]
    exact ⟨by trivial, _, rfl, fun h => (by cases h)⟩
  simp (maxSteps := 1000000) (implicitDefEqProofs := false) only [stp, if_true, if_false, Int.reduceEq, Int.reduceLT, Int.reduceLE, Int.reduceGT, Int.reduceGE, reduceCtorEq, Nat.reduceEqDiff, List.getElem?_cons_zero, List.getElem?_cons_succ, Option.map_some, hlen, hlt, ha1, ls, hsl, h64]
  refine wp_loopI (fun m fr F => ∃ (q : Nat) (acc : Int), m = cs[k].ats.length - q ∧ q ≤ cs[k].ats.length ∧ F = G ∧ FrSub [(7, .int .i64 q), (6, .int .i64 k), (5, .int .i64 acc), (0, d), (1, .int .i64 n)] fr) cs[k].ats.length ⟨0, acc, rfl, Nat.zero_le _, rfl, .cons rfl (.cons rfl (.cons rfl (.cons rfl (.cons rfl .nil))))⟩ ?_
  rintro m fr F ⟨q, acc, rfl, hq, rfl, hsub⟩
  refine ⟨_, hsub, ?_⟩
  by_cases hql : (q : Int) < cs[k].ats.length
  · have hq1 : q < cs[k].ats.length := by omega
    obtain ⟨i2, o2, ha2, ht2⟩ := hci.set.ia (H' := F) (i := q) (e := cs[k].ats[q].cells) (by rw [List.getElem?_map, List.getElem?_eq_getElem hq1]; rfl) .i64
    have lst := ht2.ld (j := 4) (v := .str cs[k].ats[q].val.s) rfl 1
    have lst' : exec (.ld 1) [.ptr i2 (o2 + 1 + 3)] F = some (.str cs[k].ats[q].val.s, F) := lst
    have hw2 : IntKind.i64.wrap ((q : Int) + 1) = ((q + 1 : Nat) : Int) := by rw [wrap_i64 (by omega) (by omega)]; omega
    simp (maxSteps := 1000000) (implicitDefEqProofs := false) only [stp, if_true, if_false, Int.reduceEq, Int.reduceLT, Int.reduceLE, Int.reduceGT, Int.reduceGE, reduceCtorEq, Nat.reduceEqDiff, List.getElem?_cons_zero, List.getElem?_cons_succ, Option.map_some, ha1, ls, hsl, hql, ha2, lst', hw2]
    exact ⟨cs[k].ats.length - (q + 1), by omega, q + 1, _, rfl, by omega, by trivial, .cons rfl (.cons rfl (.cons rfl (.cons rfl (.cons rfl .nil))))⟩
  · simp (maxSteps := 1000000) (implicitDefEqProofs := false) only [stp, if_true, if_false, Int.reduceEq, Int.reduceLT, Int.reduceLE, Int.reduceGT, Int.reduceGE, reduceCtorEq, Nat.reduceEqDiff, List.getElem?_cons_zero, List.getElem?_cons_succ, Option.map_some, ha1, ls, hsl, hql, hw1]
    exact ⟨cs.length - (k + 1), by omega, k + 1, _, rfl, by omega, by trivial, .cons rfl (.cons rfl (.cons rfl (.cons rfl .nil)))⟩
end Go.Proofs.YtbadbkdpnbacnaaDoor.Fw

