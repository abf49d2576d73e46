/- HistoryBack: of groups that were pushed the newest ones, at most max, are undone, the newest first, and done again, the other way round; then all is as it was; on the one condition that the arguments hold together at most 2^20 data, as the statement's own bound says. -/
import Derived.Test.YtkmaikggdbielaaGreatDoorBackM3

/- HistoryBack: the walk. No condition. -/
namespace Go.Proofs.YtkmaikggdbielaaGreatDoor.Fw
open Go
set_option linter.unusedSimpArgs false
set_option linter.unusedVariables false

theorem x_toI (k j : IntKind) (n : Int) (H : Heap) : exec (.toInt k) [.int j n] H = some (.int k (k.wrap n), H) := rfl
theorem wrapU {n : Int} (h : 0 ≤ n) (k : n < 18446744073709551616) : IntKind.u64.wrap n = n := by
  simp only [IntKind.wrap, IntKind.bits, IntKind.signed, Bool.false_and]
  exact Int.emod_eq_of_lt h k
theorem wrapI32 {n : Int} (h : 0 ≤ n) (k : n ≤ 2147483647) : IntKind.i32.wrap n = n := by
  have e : n % 4294967296 = n := Int.emod_eq_of_lt h (by omega)
  have hp : (2 : Int) ^ 32 = 4294967296 := by decide
  simp only [IntKind.wrap, IntKind.bits, IntKind.signed, Bool.true_and, hp, e]
  rw [if_neg (by simp; omega)]
def uF (n : Int) : Int := IntKind.u64.wrap n
theorem uF_lo (n : Int) : 0 ≤ uF n := by
  unfold uF
  simp only [IntKind.wrap, IntKind.bits, IntKind.signed, Bool.false_and]
  exact Int.emod_nonneg _ (by decide)
def cF (n : Int) : Int := 97 + uF n % 26
def dF (n : Int) : Int := 1 + uF n % 9
theorem dF_bd (n : Int) : 1 ≤ dF n ∧ dF n ≤ 9 := by
  unfold dF
  have := Int.emod_nonneg (uF n) (show (9 : Int) ≠ 0 by decide)
  have := Int.emod_lt_of_pos (uF n) (show (0 : Int) < 9 by decide)
  omega
abbrev gF (n : Int) : GrpC := ⟨[insC (cF n)], [delC1 (dF n)]⟩
section
variable (n : Int) (G : Heap)
theorem y_u : exec (.toInt .u64) [.int .i64 n] G = some (.int .u64 (uF n), G) := rfl
theorem y_26 : exec (.ibin .rem) [.int .u64 (uF n), .int .u64 26] G = some (.int .u64 (uF n % 26), G) := by
  show (some (V.int .u64 ((uF n).tmod 26))).map (·, G) = _
  rw [Int.tmod_eq_emod_of_nonneg (uF_lo n)]
  rfl
theorem y_9 : exec (.ibin .rem) [.int .u64 (uF n), .int .u64 9] G = some (.int .u64 (uF n % 9), G) := by
  show (some (V.int .u64 ((uF n).tmod 9))).map (·, G) = _
  rw [Int.tmod_eq_emod_of_nonneg (uF_lo n)]
  rfl
theorem y_97 : exec (.ibin .add) [.int .u64 97, .int .u64 (uF n % 26)] G = some (.int .u64 (cF n), G) := by
  have h0 := Int.emod_nonneg (uF n) (show (26 : Int) ≠ 0 by decide)
  have h1 := Int.emod_lt_of_pos (uF n) (show (0 : Int) < 26 by decide)
  show some (V.int .u64 (IntKind.u64.wrap (97 + uF n % 26)), G) = _
  rw [wrapU (by omega) (by omega)]
  rfl
theorem y_c : exec (.toInt .i32) [.int .u64 (cF n)] G = some (.int .i32 (cF n), G) := by
  have h0 := Int.emod_nonneg (uF n) (show (26 : Int) ≠ 0 by decide)
  have h1 := Int.emod_lt_of_pos (uF n) (show (0 : Int) < 26 by decide)
  rw [x_toI, wrapI32 (by unfold cF; omega) (by unfold cF; omega)]
theorem y_i9 : exec (.toInt .i64) [.int .u64 (uF n % 9)] G = some (.int .i64 (uF n % 9), G) := by
  have h0 := Int.emod_nonneg (uF n) (show (9 : Int) ≠ 0 by decide)
  have h1 := Int.emod_lt_of_pos (uF n) (show (0 : Int) < 9 by decide)
  rw [x_toI, wrap_i64 (by omega) (by omega)]
theorem y_d : IntKind.i64.wrap (1 + uF n % 9) = dF n := by
  have h0 := Int.emod_nonneg (uF n) (show (9 : Int) ≠ 0 by decide)
  have h1 := Int.emod_lt_of_pos (uF n) (show (0 : Int) < 9 by decide)
  rw [wrap_i64 (by omega) (by omega)]
  rfl
theorem y_ia (id : Nat) : exec (.ia 5) [.slice id 0 1 (some 1), .int .i64 0] G = some (.ptr id (0 + 0 * 5), G) := by
  simp only [exec]
  rw [if_pos ⟨by omega, by omega⟩]
  rfl
end
theorem keepL_app (mx : Int) (l : List GrpC) (g : GrpC) : keepL mx (keepL mx l ++ [g]) = keepL mx (l ++ [g]) := by
  unfold keepL
  rw [← List.drop_append_of_le_length (by omega), List.drop_drop]
  congr 1
  simp only [List.length_drop, List.length_append, List.length_cons, List.length_nil]
  omega
theorem con_one {os : List OpA} {c : OpC} (h : os.map OpA.con = [c]) : ∃ o, os = [o] ∧ o.con = c := by
  match os, h with
  | [o], h => exact ⟨o, rfl, by simpa using h⟩
  | [], h => simp at h
  | _ :: _ :: _, h => simp at h
set_option maxRecDepth 40000 in
set_option maxHeartbeats 16000000 in
theorem historyBack_calls (n0 : Int) {x : V} {ns : List Int} {H : Heap} (hs : SL H x 1 (ns.map fun n => [.int .i64 n])) (hb : ns.length ≤ big) : SCalls PP 3 [.int .i64 n0, x] H fun r H' => r = .bool true := by
  refine SCalls.go c3 (by simp [fn3]) fun hw => ?_
  unfold big at hb
  have hln : ∀ F, exec .len [x] F = some (.int .i64 ns.length, F) := fun F => by have := hs.len (H' := F); rwa [List.length_map] at this
  simp (maxSteps := 1000000) (implicitDefEqProofs := false) only [stp, if_true, if_false, Int.reduceEq, Int.reduceLT, Int.reduceLE, Int.reduceGT, Int.reduceGE, reduceCtorEq, Nat.reduceEqDiff, List.getElem?_cons_zero, List.getElem?_cons_succ, Option.map_some, fn3, enterFr, List.length, List.range, List.range.loop, List.zip, List.zipWith]
  refine SCalls.mono (newNoKeys H) ?_
  rintro _ G0 ⟨hw0, hx0, sid, rfl⟩
  simp (maxSteps := 1000000) (implicitDefEqProofs := false) only [stp, if_true, if_false, Int.reduceEq, Int.reduceLT, Int.reduceLE, Int.reduceGT, Int.reduceGE, reduceCtorEq, Nat.reduceEqDiff, List.getElem?_cons_zero, List.getElem?_cons_succ, Option.map_some, if_true]
  by_cases hm : n0 < 0 ∨ n0 > 65536
  · refine SCalls.mono (newH_no hm) ?_
    rintro _ G1 ⟨rfl, rfl⟩
    simp (maxSteps := 1000000) (implicitDefEqProofs := false) only [stp, if_true, if_false, Int.reduceEq, Int.reduceLT, Int.reduceLE, Int.reduceGT, Int.reduceGE, reduceCtorEq, Nat.reduceEqDiff, List.getElem?_cons_zero, List.getElem?_cons_succ, Option.map_some, Bool.false_eq_true]
    refine SCalls.mono known_ok ?_
    rintro r G ⟨rfl, rfl⟩
    simp (maxSteps := 1000000) (implicitDefEqProofs := false) only [stp, if_true, if_false, Int.reduceEq, Int.reduceLT, Int.reduceLE, Int.reduceGT, Int.reduceGE, reduceCtorEq, Nat.reduceEqDiff, List.getElem?_cons_zero, List.getElem?_cons_succ, Option.map_some, if_true]
  refine SCalls.mono (newT (s := .ptr sid 0) ⟨rfl, rfl⟩ (mx := n0) (by omega) (by omega)) ?_
  rintro _ G1 ⟨p, rfl, t1⟩
  have hne : exec (.eqnil 0 false) [.ptr p 0, .nilp] G1 = some (.bool false, G1) := rfl
  by_cases h40 : (ns.length : Int) > 40
  · simp (maxSteps := 1000000) (implicitDefEqProofs := false) only [stp, if_true, if_false, Int.reduceEq, Int.reduceLT, Int.reduceLE, Int.reduceGT, Int.reduceGE, reduceCtorEq, Nat.reduceEqDiff, List.getElem?_cons_zero, List.getElem?_cons_succ, Option.map_some, Bool.false_eq_true, hne, hln, h40]
    refine SCalls.mono known_ok ?_
    rintro r G ⟨rfl, rfl⟩
    simp (maxSteps := 1000000) (implicitDefEqProofs := false) only [stp, if_true, if_false, Int.reduceEq, Int.reduceLT, Int.reduceLE, Int.reduceGT, Int.reduceGE, reduceCtorEq, Nat.reduceEqDiff, List.getElem?_cons_zero, List.getElem?_cons_succ, Option.map_some, if_true]
  have hsl : ∀ {F}, Ext G0 F → SL F x 1 (ns.map fun n => [.int .i64 n]) := fun h => (hs.ext hx0).ext h
  have rd : ∀ {F} (k : Nat) (hk : k < ns.length), Ext G0 F → ∃ i o, exec (.ia 1) [x, .int .i64 k] F = some (.ptr i o, F) ∧ exec (.ld 1) [.ptr i o] F = some (.int .i64 ns[k], F) := fun {F} k hk h => by
    obtain ⟨i, o, ha, ht⟩ := (hsl h).ia (H' := F) (i := k) (e := [V.int .i64 ns[k]]) (by rw [List.getElem?_map, List.getElem?_eq_getElem hk]; rfl) .i64
    have l := ht.ld (j := 0) (v := .int .i64 ns[k]) rfl 1
    rw [Nat.add_zero] at l
    exact ⟨i, o, ha, l⟩
  simp (maxSteps := 1000000) (implicitDefEqProofs := false) only [stp, if_true, if_false, Int.reduceEq, Int.reduceLT, Int.reduceLE, Int.reduceGT, Int.reduceGE, reduceCtorEq, Nat.reduceEqDiff, List.getElem?_cons_zero, List.getElem?_cons_succ, Option.map_some, Bool.false_eq_true, hne, hln, h40]
  refine wp_range (len := ns.length) SCalls.scMono (by omega) (fun _ : Unit => [(0, .int .i64 n0), (1, x), (56, x), (7, .ptr p 0)]) (fun k _ F => ∃ M, HistT G0 F M p (.ptr sid 0) ⟨n0, keepL n0 ((ns.take k).map gF), [], false, []⟩) () ⟨_, by simpa [keepL] using t1⟩
    (.cons rfl (.cons rfl (.cons rfl (.cons rfl (.cons rfl (.cons rfl .nil)))))) (by decide) (fun s => ⟨rfl, rfl, rfl⟩) ?_ ?_
  · rintro k _ F hk ⟨M, t⟩
    obtain ⟨i1, o1, ha, hl⟩ := rd k hk t.ext
    simp (maxSteps := 1000000) (implicitDefEqProofs := false) only [stp, if_true, if_false, Int.reduceEq, Int.reduceLT, Int.reduceLE, Int.reduceGT, Int.reduceGE, reduceCtorEq, Nat.reduceEqDiff, List.getElem?_cons_zero, List.getElem?_cons_succ, Option.map_some, ha, hl, y_u, y_26, y_97, y_c]
    refine SCalls.mono (in_calls (cF ns[k]) F) ?_
    rintro _ F1 ⟨w1, x1, xv, id, o, rfl, d1, d2, d3, d4, d5⟩
    obtain ⟨F2, st, w2, g2, n2, gn2, k2⟩ := st_row w1 (k := 0 + 0 * 5 + 1) (v := .int .i64 (dF ns[k])) (c' := delCells (dF ns[k])) d3 (by simp [delCells]) rfl rfl rfl
    simp (maxSteps := 1000000) (implicitDefEqProofs := false) only [stp, if_true, if_false, Int.reduceEq, Int.reduceLT, Int.reduceLE, Int.reduceGT, Int.reduceGE, reduceCtorEq, Nat.reduceEqDiff, List.getElem?_cons_zero, List.getElem?_cons_succ, Option.map_some, y_u, y_9, y_i9, y_d, y_ia, st]
    have hbd := dF_bd ns[k]
    have hx2 : Ext F F2 := ⟨gn2.trans x1.gn, by have := x1.next; omega, fun j hj => by rw [k2 j (by omega), x1.get j hj]⟩
    have t2 := t.grow hx2 w2
    have fx := d5 F2 ⟨gn2, by omega, fun j hj hm => k2 j fun e => hm (.inl e)⟩
    have fy := del_ops (G := F2) (id := id) (by omega) g2 (by omega) (by omega)
    refine SCalls.mono (t2.push rfl fx fy (by simp only [keepL, List.length_drop, List.length_map, List.length_take, big]; omega) (show 0 ≤ n0 by omega) (show n0 ≤ 65536 by omega)) ?_
    rintro _ F3 ⟨rfl, M3, t3, nx⟩
    simp (maxSteps := 1000000) (implicitDefEqProofs := false) only [stp, if_true, if_false, Int.reduceEq, Int.reduceLT, Int.reduceLE, Int.reduceGT, Int.reduceGE, reduceCtorEq, Nat.reduceEqDiff, List.getElem?_cons_zero, List.getElem?_cons_succ, Option.map_some, Bool.false_eq_true]
    simp only [List.map_cons, List.map_nil, d4] at t3
    rw [keepL_app] at t3
    refine ⟨(), ⟨M3, ?_⟩, .cons rfl (.cons rfl (.cons rfl (.cons rfl (.cons rfl (.cons rfl .nil)))))⟩
    rw [List.take_succ_eq_append_getElem hk, List.map_append]
    exact t3
  rintro _ F ⟨M, t⟩
  rw [List.take_length] at t
  obtain ⟨kN, hkN, hkL⟩ : ∃ kN : Nat, (if (ns.length : Int) < n0 then (ns.length : Int) else n0) = kN ∧ kN = min n0.toNat ns.length := by
    refine ⟨min n0.toNat ns.length, ?_, rfl⟩
    split <;> omega
  obtain ⟨ms, hms⟩ : ∃ ms, ms = ns.drop (ns.length - kN) := ⟨_, rfl⟩
  have hml : ms.length = kN := by rw [hms, List.length_drop]; omega
  have hU : keepL n0 (ns.map gF) = ms.map gF := by
    rw [hms, List.map_drop]
    unfold keepL
    rw [List.length_map]
    congr 1
    omega
  have hmg : ∀ q (h : q < ms.length) (h2 : ns.length - kN + q < ns.length), ms[q] = ns[ns.length - kN + q] := fun q h h2 => by
    subst hms
    rw [List.getElem_drop]
  rw [hU] at t
  simp (maxSteps := 1000000) (implicitDefEqProofs := false) only [stp, if_true, if_false, Int.reduceEq, Int.reduceLT, Int.reduceLE, Int.reduceGT, Int.reduceGE, reduceCtorEq, Nat.reduceEqDiff, List.getElem?_cons_zero, List.getElem?_cons_succ, Option.map_some, hln, x_mn, hkN]
  refine wp_loopI (fun m fr F => ∃ (r : Nat) (M : Nat → Prop), m = 2 - r ∧ r ≤ 2 ∧ HistT G0 F M p (.ptr sid 0) ⟨n0, ms.map gF, [], false, []⟩ ∧ FrSub [(89, .int .i64 (r : Nat)), (13, .int .i64 kN), (7, .ptr p 0), (0, .int .i64 n0), (1, x)] fr) 2 ⟨0, M, rfl, by omega, t, .cons rfl (.cons rfl (.cons rfl (.cons rfl (.cons rfl .nil))))⟩ ?_
  rintro m fr F ⟨r, M, rfl, hr, t, hsub⟩
  refine ⟨_, hsub, ?_⟩
  by_cases hr2 : (r : Int) < 2
  rotate_left
  · simp (maxSteps := 1000000) (implicitDefEqProofs := false) only [stp, if_true, if_false, Int.reduceEq, Int.reduceLT, Int.reduceLE, Int.reduceGT, Int.reduceGE, reduceCtorEq, Nat.reduceEqDiff, List.getElem?_cons_zero, List.getElem?_cons_succ, Option.map_some, hr2]
    refine SCalls.mono known_ok ?_
    rintro r G ⟨rfl, rfl⟩
    simp (maxSteps := 1000000) (implicitDefEqProofs := false) only [stp, if_true, if_false, Int.reduceEq, Int.reduceLT, Int.reduceLE, Int.reduceGT, Int.reduceGE, reduceCtorEq, Nat.reduceEqDiff, List.getElem?_cons_zero, List.getElem?_cons_succ, Option.map_some, if_true]
  simp (maxSteps := 1000000) (implicitDefEqProofs := false) only [stp, if_true, if_false, Int.reduceEq, Int.reduceLT, Int.reduceLE, Int.reduceGT, Int.reduceGE, reduceCtorEq, Nat.reduceEqDiff, List.getElem?_cons_zero, List.getElem?_cons_succ, Option.map_some, hr2]
  refine wp_range (len := kN) SCalls.scMono (by omega) (fun _ : Unit => [(89, .int .i64 (r : Nat)), (14, .int .i64 (r : Nat)), (13, .int .i64 kN), (7, .ptr p 0), (0, .int .i64 n0), (1, x)]) (fun k _ F => ∃ M, HistT G0 F M p (.ptr sid 0) ⟨n0, (ms.map gF).take (kN - k), ((ms.map gF).drop (kN - k)).reverse, false, []⟩) () ⟨M, ?_⟩
    (.cons rfl (.cons rfl (.cons rfl (.cons rfl (.cons rfl (.cons rfl (.cons rfl (.cons rfl .nil)))))))) (by decide) (fun s => ⟨rfl, rfl, rfl⟩) ?_ ?_
  · rw [Nat.sub_zero, List.take_of_length_le (by simp; omega), List.drop_of_length_le (by simp; omega)]
    exact t
  · rintro k _ F hk ⟨M, t⟩
    have hq : kN - (k + 1) < ms.length := by omega
    have hq' : kN - (k + 1) < (ms.map gF).length := by simpa using hq
    have hkk : kN - k = kN - (k + 1) + 1 := by omega
    obtain ⟨i1, o1, ha, hl⟩ := rd (ns.length - 1 - k) (by omega) t.ext
    have hnn : ns[ns.length - 1 - k]'(by omega) = ms[kN - (k + 1)] := by
      rw [hmg _ hq (by omega)]
      congr 1
      omega
    rw [hnn] at hl
    have i1' : IntKind.i64.wrap ((ns.length : Int) - 1) = ((ns.length - 1 : Nat) : Int) := by rw [wrap_i64 (by omega) (by omega)]; omega
    have i2' : IntKind.i64.wrap (((ns.length - 1 : Nat) : Int) - k) = ((ns.length - 1 - k : Nat) : Int) := by rw [wrap_i64 (by omega) (by omega)]; omega
    simp (maxSteps := 1000000) (implicitDefEqProofs := false) only [stp, if_true, if_false, Int.reduceEq, Int.reduceLT, Int.reduceLE, Int.reduceGT, Int.reduceGE, reduceCtorEq, Nat.reduceEqDiff, List.getElem?_cons_zero, List.getElem?_cons_succ, Option.map_some, hln, i1', i2', ha, hl]
    refine SCalls.mono (t.undo (gi := (ms.map gF).take (kN - (k + 1))) (g := gF ms[kN - (k + 1)]) rfl (by rw [hkk, List.take_succ_eq_append_getElem hq', List.getElem_map]) (by simp only [List.length_take, List.length_map, big]; omega) (by simp only [List.length_reverse, List.length_drop, List.length_map, big]; omega)) ?_
    rintro _ F5 ⟨M5, x5, os5, rfl, t5, n5, f5, c5⟩
    obtain ⟨o5, rfl, c5'⟩ := con_one c5
    have hn5 : o5.n = dF ms[kN - (k + 1)] := congrArg OpC.n c5'
    have l5 : exec .len [x5] F5 = some (.int .i64 1, F5) := f5.here.sl.len (H' := F5)
    obtain ⟨i5, q5, ha5, ht5⟩ := f5.here.sl.ia (H' := F5) (i := 0) (e := o5.cells) rfl .i64
    have ha5' : exec (.ia 5) [x5, .int .i64 0] F5 = some (.ptr i5 q5, F5) := ha5
    have ln5 := ht5.ld (j := 1) (v := .int .i64 o5.n) rfl 1
    rw [hn5] at ln5
    simp (maxSteps := 1000000) (implicitDefEqProofs := false) only [stp, if_true, if_false, Int.reduceEq, Int.reduceLT, Int.reduceLE, Int.reduceGT, Int.reduceGE, reduceCtorEq, Nat.reduceEqDiff, List.getElem?_cons_zero, List.getElem?_cons_succ, Option.map_some, Bool.false_eq_true, l5, ha5', ln5, y_u, y_9, y_i9, y_d]
    refine SCalls.mono (depthsH t5.d.toI) ?_
    rintro _ _ ⟨rfl, rfl⟩
    have j1 : (((ms.map gF).take (kN - (k + 1))).length : Int) = ((kN - 1 - k : Nat) : Int) := by simp only [List.length_take, List.length_map]; omega
    have j2 : (((((ms.map gF).drop (kN - k)).reverse ++ [gF ms[kN - (k + 1)]]).length : Nat) : Int) = ((k + 1 : Nat) : Int) := by simp only [List.length_append, List.length_reverse, List.length_drop, List.length_map, List.length_cons, List.length_nil]; omega
    have j3 : IntKind.i64.wrap ((kN : Int) - 1) = ((kN - 1 : Nat) : Int) := by rw [wrap_i64 (by omega) (by omega)]; omega
    have j4 : IntKind.i64.wrap (((kN - 1 : Nat) : Int) - k) = ((kN - 1 - k : Nat) : Int) := by rw [wrap_i64 (by omega) (by omega)]; omega
    have j5 : IntKind.i64.wrap ((k : Int) + 1) = ((k + 1 : Nat) : Int) := by rw [wrap_i64 (by omega) (by omega)]; omega
    simp (maxSteps := 1000000) (implicitDefEqProofs := false) only [stp, if_true, if_false, Int.reduceEq, Int.reduceLT, Int.reduceLE, Int.reduceGT, Int.reduceGE, reduceCtorEq, Nat.reduceEqDiff, List.getElem?_cons_zero, List.getElem?_cons_succ, Option.map_some, j1, j2, j3, j4, j5]
    refine ⟨(), ⟨M5, ?_⟩, .cons rfl (.cons rfl (.cons rfl (.cons rfl (.cons rfl (.cons rfl (.cons rfl (.cons rfl .nil)))))))⟩
    have hd : (ms.map gF).drop (kN - (k + 1)) = gF ms[kN - (k + 1)] :: (ms.map gF).drop (kN - k) := by rw [List.drop_eq_getElem_cons hq', List.getElem_map, ← hkk]
    rw [hd, List.reverse_cons]
    exact t5
  rintro _ F ⟨M, t⟩
  rw [Nat.sub_self, List.take_zero, List.drop_zero] at t
  simp (maxSteps := 1000000) (implicitDefEqProofs := false) only [stp, if_true, if_false, Int.reduceEq, Int.reduceLT, Int.reduceLE, Int.reduceGT, Int.reduceGE, reduceCtorEq, Nat.reduceEqDiff, List.getElem?_cons_zero, List.getElem?_cons_succ, Option.map_some, if_true]
  refine SCalls.mono (t.undoNo (.inr rfl)) ?_
  rintro _ F7 ⟨x7, rfl, t7, e7, f7⟩
  simp (maxSteps := 1000000) (implicitDefEqProofs := false) only [stp, if_true, if_false, Int.reduceEq, Int.reduceLT, Int.reduceLE, Int.reduceGT, Int.reduceGE, reduceCtorEq, Nat.reduceEqDiff, List.getElem?_cons_zero, List.getElem?_cons_succ, Option.map_some, Bool.false_eq_true]
  refine wp_range (len := kN) SCalls.scMono (by omega) (fun _ : Unit => [(89, .int .i64 (r : Nat)), (14, .int .i64 (r : Nat)), (13, .int .i64 kN), (7, .ptr p 0), (0, .int .i64 n0), (1, x)]) (fun k _ F => ∃ M, HistT G0 F M p (.ptr sid 0) ⟨n0, (ms.map gF).take k, ((ms.map gF).drop k).reverse, false, []⟩) () ⟨M, ?_⟩
    (.cons rfl (.cons rfl (.cons rfl (.cons rfl (.cons rfl (.cons rfl (.cons rfl (.cons rfl .nil)))))))) (by decide) (fun s => ⟨rfl, rfl, rfl⟩) ?_ ?_
  · rw [List.take_zero, List.drop_zero]
    exact t7
  · rintro k _ F hk ⟨M, t⟩
    have hq : k < ms.length := by omega
    have hq' : k < (ms.map gF).length := by simpa using hq
    obtain ⟨i1, o1, ha, hl⟩ := rd (ns.length - kN + k) (by omega) t.ext
    rw [← hmg k hq (by omega)] at hl
    have i1' : IntKind.i64.wrap ((ns.length : Int) - kN) = ((ns.length - kN : Nat) : Int) := by rw [wrap_i64 (by omega) (by omega)]; omega
    have i2' : IntKind.i64.wrap (((ns.length - kN : Nat) : Int) + k) = ((ns.length - kN + k : Nat) : Int) := by rw [wrap_i64 (by omega) (by omega)]; omega
    simp (maxSteps := 1000000) (implicitDefEqProofs := false) only [stp, if_true, if_false, Int.reduceEq, Int.reduceLT, Int.reduceLE, Int.reduceGT, Int.reduceGE, reduceCtorEq, Nat.reduceEqDiff, List.getElem?_cons_zero, List.getElem?_cons_succ, Option.map_some, hln, i1', i2', ha, hl, y_u, y_26, y_97, y_c]
    refine SCalls.mono (inT (cF ms[k]) M F (fun j e => t.d.mb e)) ?_
    rintro _ F1 ⟨w1, x1, xv, yv, o, u, rfl, fx, fy, c1, c2⟩
    have t2 := t.grow x1 w1
    simp (maxSteps := 1000000) (implicitDefEqProofs := false) only [stp, if_true, if_false, Int.reduceEq, Int.reduceLT, Int.reduceLE, Int.reduceGT, Int.reduceGE, reduceCtorEq, Nat.reduceEqDiff, List.getElem?_cons_zero, List.getElem?_cons_succ, Option.map_some, if_true]
    have hdr : ((ms.map gF).drop k).reverse = ((ms.map gF).drop (k + 1)).reverse ++ [gF ms[k]] := by rw [List.drop_eq_getElem_cons hq', List.getElem_map, List.reverse_cons]
    refine SCalls.mono (t2.redo (gi := ((ms.map gF).drop (k + 1)).reverse) (g := gF ms[k]) rfl hdr (by simp only [List.length_reverse, List.length_drop, List.length_map, big]; omega) (by simp only [List.length_take, List.length_map, big]; omega)) ?_
    rintro _ F5 ⟨M5, x5, os5, rfl, t5, n5, f5, c5⟩
    simp (maxSteps := 1000000) (implicitDefEqProofs := false) only [stp, if_true, if_false, Int.reduceEq, Int.reduceLT, Int.reduceLE, Int.reduceGT, Int.reduceGE, reduceCtorEq, Nat.reduceEqDiff, List.getElem?_cons_zero, List.getElem?_cons_succ, Option.map_some, Bool.false_eq_true]
    refine SCalls.mono (refSameO f5.here (n5.fz fx).here) ?_
    rintro _ _ ⟨rfl, rfl⟩
    rw [c5, List.map_cons, List.map_nil, c1, opEq_self]
    simp (maxSteps := 1000000) (implicitDefEqProofs := false) only [stp, if_true, if_false, Int.reduceEq, Int.reduceLT, Int.reduceLE, Int.reduceGT, Int.reduceGE, reduceCtorEq, Nat.reduceEqDiff, List.getElem?_cons_zero, List.getElem?_cons_succ, Option.map_some, Bool.false_eq_true]
    refine ⟨(), ⟨M5, ?_⟩, .cons rfl (.cons rfl (.cons rfl (.cons rfl (.cons rfl (.cons rfl (.cons rfl (.cons rfl .nil)))))))⟩
    rw [List.take_succ_eq_append_getElem hq', List.getElem_map]
    exact t5
  rintro _ F ⟨M, t⟩
  rw [List.drop_of_length_le (by simp; omega), List.take_of_length_le (by simp; omega)] at t
  simp (maxSteps := 1000000) (implicitDefEqProofs := false) only [stp, if_true, if_false, Int.reduceEq, Int.reduceLT, Int.reduceLE, Int.reduceGT, Int.reduceGE, reduceCtorEq, Nat.reduceEqDiff, List.getElem?_cons_zero, List.getElem?_cons_succ, Option.map_some, if_true]
  refine SCalls.mono (t.redoNo (.inr rfl)) ?_
  rintro _ F9 ⟨x9, rfl, t9, e9, f9⟩
  have hr1 : ¬ (r : Int) > 1 := by omega
  have hrw : IntKind.i64.wrap ((r : Int) + 1) = ((r + 1 : Nat) : Int) := by rw [wrap_i64 (by omega) (by omega)]; omega
  simp (maxSteps := 1000000) (implicitDefEqProofs := false) only [stp, if_true, if_false, Int.reduceEq, Int.reduceLT, Int.reduceLE, Int.reduceGT, Int.reduceGE, reduceCtorEq, Nat.reduceEqDiff, List.getElem?_cons_zero, List.getElem?_cons_succ, Option.map_some, Bool.false_eq_true, hr1, hrw]
  exact ⟨2 - (r + 1), by omega, r + 1, M, rfl, by omega, t9, .cons rfl (.cons rfl (.cons rfl (.cons rfl (.cons rfl .nil))))⟩
end Go.Proofs.YtkmaikggdbielaaGreatDoor.Fw

/- What a reading of the arguments tells, in the program's own types. No condition. -/
namespace Go.Proofs.YtkmaikggdbielaaGreatDoor.Fw
open Go
set_option linter.unusedSimpArgs false
set_option linter.unusedVariables false
set_option maxRecDepth 100000

theorem cl3 : PP.cellsOf 3 = 1 := by kernel_rfl
theorem cl4 : PP.cellsOf 4 = 1 := by kernel_rfl
theorem cl5 : PP.cellsOf 5 = 1 := by kernel_rfl
theorem cl72 : PP.cellsOf 72 = 6 := by kernel_rfl
theorem good_int {P : Program} {B n : Nat} {G : Heap} {t : TypeId} {k : IntKind} {vs : List V} (hu : P.underlying t = some (.int k)) (h : GoodT P B G (n + 1) t vs) : ∃ i, vs = [.int k i] ∧ (Lit.int k i).wf = true := by
  simp only [GoodT, hu] at h; exact h
theorem good_bool {P : Program} {B n : Nat} {G : Heap} {t : TypeId} {vs : List V} (hu : P.underlying t = some .bool) (h : GoodT P B G (n + 1) t vs) : ∃ b, vs = [.bool b] := by
  simp only [GoodT, hu] at h; exact h
theorem good_struct {P : Program} {B n : Nat} {G : Heap} {t : TypeId} {fs : Array Field} {vs : List V} (hu : P.underlying t = some (.struct fs)) (h : GoodT P B G (n + 1) t vs) :
    vs.length = P.cellsOf t ∧ ∀ f ∈ fs.toList, GoodT P B G n f.type ((vs.drop f.offset).take (P.cellsOf f.type)) := by
  simp only [GoodT, hu] at h; exact h
theorem key_of {B n : Nat} {G : Heap} {l : List V} (h : GoodT PP B G (n + 2) 72 l) : ∃ k : KeyA, l = k.cells := by
  obtain ⟨hl, hf⟩ := good_struct Tryz.underlying72 h
  rw [cl72] at hl
  match l, hl with
  | [a, b, c, d, e, f], _ =>
    have g0 : GoodT PP B G (n + 1) 3 (([a, b, c, d, e, f].drop 0).take (PP.cellsOf 3)) := hf ⟨ "ID", 3, 0, false, "", "", 0⟩ (by simp)
    have g1 : GoodT PP B G (n + 1) 4 (([a, b, c, d, e, f].drop 1).take (PP.cellsOf 4)) := hf ⟨ "Block", 4, 1, false, "", "", 8⟩ (by simp)
    have g2 : GoodT PP B G (n + 1) 5 (([a, b, c, d, e, f].drop 2).take (PP.cellsOf 5)) := hf ⟨ "Kind", 5, 2, false, "", "", 9⟩ (by simp)
    have g3 : GoodT PP B G (n + 1) 4 (([a, b, c, d, e, f].drop 3).take (PP.cellsOf 4)) := hf ⟨ "After", 4, 3, false, "", "", 10⟩ (by simp)
    have g4 : GoodT PP B G (n + 1) 4 (([a, b, c, d, e, f].drop 4).take (PP.cellsOf 4)) := hf ⟨ "Before", 4, 4, false, "", "", 11⟩ (by simp)
    have g5 : GoodT PP B G (n + 1) 3 (([a, b, c, d, e, f].drop 5).take (PP.cellsOf 3)) := hf ⟨ "Group", 3, 5, false, "", "", 16⟩ (by simp)
    rw [cl3] at g0 g5
    rw [cl4] at g1 g3 g4
    rw [cl5] at g2
    obtain ⟨i0, e0, _⟩ := good_int Tryz.underlying3 g0
    obtain ⟨i1, e1⟩ := good_bool Tryz.underlying4 g1
    obtain ⟨i2, e2, _⟩ := good_int Tryz.underlying5 g2
    obtain ⟨i3, e3⟩ := good_bool Tryz.underlying4 g3
    obtain ⟨i4, e4⟩ := good_bool Tryz.underlying4 g4
    obtain ⟨i5, e5, _⟩ := good_int Tryz.underlying3 g5
    simp only [List.drop_zero, List.drop_succ_cons, List.take_succ_cons, List.take_zero, List.cons.injEq, and_true] at e0 e1 e2 e3 e4 e5
    exact ⟨⟨i0, i1, i2, i3, i4, i5⟩, by simp [KeyA.cells, e0, e1, e2, e3, e4, e5]⟩
theorem keys_of {B n : Nat} {G : Heap} : ∀ {ls : List (List V)}, (∀ l ∈ ls, GoodT PP B G (n + 2) 72 l) → ∃ ks : List KeyA, ls = ks.map KeyA.cells
  | [], h => ⟨[], rfl⟩
  | l :: ls, h => by
    obtain ⟨k, rfl⟩ := key_of (h l (by simp))
    obtain ⟨ks, rfl⟩ := keys_of (ls := ls) fun q hq => h q (List.mem_cons_of_mem _ hq)
    exact ⟨k :: ks, rfl⟩
end Go.Proofs.YtkmaikggdbielaaGreatDoor.Fw

/- HistoryBack, from what is read of the arguments. No condition. -/
namespace Go.Proofs.YtkmaikggdbielaaGreatDoor.Fw
open Go
set_option linter.unusedSimpArgs false
set_option linter.unusedVariables false
set_option maxRecDepth 20000 in
theorem ints_of {B n : Nat} {G : Heap} : ∀ {ls : List (List V)}, (∀ l ∈ ls, GoodT PP B G (n + 1) 3 l) → ∃ ns : List Int, ls = ns.map fun n => [V.int .i64 n]
  | [], h => ⟨[], rfl⟩
  | l :: ls, h => by
    obtain ⟨i, rfl, _⟩ := good_int Tryz.underlying3 (h l (by simp))
    obtain ⟨ns, rfl⟩ := ints_of (ls := ls) fun q hq => h q (List.mem_cons_of_mem _ hq)
    exact ⟨i :: ns, rfl⟩
set_option maxRecDepth 20000 in
theorem historyBack_main {G : Heap} (n0 : Int) {x : V} {l1 : List (List V)} (hs : SL G x 1 l1) (hl : l1.length ≤ big) (hg : ∀ l ∈ l1, GoodT PP big G 9 3 l) :
    SCalls PP 3 [.int .i64 n0, x] G fun r H' => r = .bool true := by
  obtain ⟨ns, rfl⟩ := ints_of (n := 8) hg
  rw [List.length_map] at hl
  exact historyBack_calls n0 hs hl
end Go.Proofs.YtkmaikggdbielaaGreatDoor.Fw

/- HistoryBack: the frame. No condition. Printed by mkH.py. -/
namespace Go.Proofs.YtkmaikggdbielaaGreatDoor.historyBack
open Go Go.ChangeShapes Go.WideShapes Go.ChangeAt Go.RowKit Go.Proofs.YtkmaikggdbielaaGreatDoor.Fw
set_option linter.unusedSimpArgs false
set_option linter.unusedVariables false

set_option maxRecDepth 100000 in
theorem main {W : World} {B : Nat} (hB : B = 1048576) (n0 : Int) (w0 : (Lit.int .i64 n0).wf = true) {x1 : V} {l1 : List (List V)} (hs1 : SL (hOf W) x1 1 l1) (hl1 : l1.length ≤ B) (hg1 : ∀ l ∈ l1, GoodT PP B (hOf W) 9 3 l) (hc1 : CapOk x1) (hL : laidMetH PP Rows.historyBackRow.laid W) :
    SCalls PP 3 [.int .i64 n0, x1] (hOf W) fun r H' => r = .bool true := by
  subst hB
  exact historyBack_main n0 hs1 hl1 hg1

set_option maxRecDepth 100000 in
theorem contract (H : Type) (enc : TypeId × Value → H) (W : World) (base : Nat) (args : Array Value) (ds gs : List (DataW H)) (before : List MemPlace)
    (hval : ∀ (j : Nat) t v, Tryz.f3.params[j]? = some t → args[j]? = some v → Value.okWide Tryz.prog W .any base t v)
    (hW : DataW.Whole enc Tryz.prog Tryz.f3.params.toList Rows.historyBackSpec.vars false W args.toList ds gs before) (hb : Rows.uptoBulkAll (ds ++ gs) ≤ 1048576) (hL : laidMetH Tryz.prog Rows.historyBackRow.laid W) :
    Calls Tryz.prog 3 args W fun e W' => ∃ v, e = .returned v ∧ Rows.historyBackSpec.post enc Tryz.prog Tryz.f3 false true false false W args v W' := by
  have hW' := hW
  obtain ⟨p, q, hA0, hV, rfl, hfz, hnd⟩ := hW
  have hA : DataW.TrodAll enc Tryz.prog W 0 (fun _ => true) true Tryz.f3.params.toList args.toList ds p := hA0
  rw [Tryz.params3] at hA hval
  obtain ⟨v0, vs0, d0, ds0, p0, q0, hargs, rfl, rfl, h0, r0⟩ := trodAll_cons hA
  obtain ⟨v1, vs1, d1, ds1, p1, q1, rfl, rfl, rfl, h1, r1⟩ := trodAll_cons r0
  obtain ⟨rfl, rfl, rfl⟩ := trodAll_nil r1
  obtain rfl : args = #[v0, v1] := by cases args; simp_all
  obtain ⟨rfl, rfl⟩ := trodVars_none hV
  simp only [Rows.uptoBulkAll, List.append_nil] at hb
  have hlt : ∀ x ∈ p0 ++ (p1 ++ []) ++ [], x.block < W.heap.size := fun x hx => by simpa using hW'.lt x hx
  obtain ⟨x1, l1, hv1, hs1, hl1, hg1, hc1⟩ := arg_slice2 (n := 9) Tryz.underlying22 (by kernel_rfl) (hval 1 22 v1 rfl rfl) h1 (B := 1048576) (by omega)
  have h1k := h1
  obtain ⟨n0, rfl, rfl, rfl, w0⟩ := open_int Tryz.underlying3 (hval 0 3 v0 rfl rfl) h0
  have walk := calls_of (main (W := W) rfl n0 w0 (x1 := x1) (l1 := l1) (by rw [show (1 : Nat) = PP.cellsOf 3 by kernel_rfl]; exact hs1) hl1 hg1 hc1 hL)
    (.mk_cons (.mk_int _ _) (.mk_cons hv1 .mk_nil))
  refine walk.mono fun e W' ⟨he, hB⟩ => ?_
  subst he
  refine ⟨_, rfl, _, _, _, [], [] ++ (p1 ++ []), [], hW', trodAll_cons_mk (shut_bool Tryz.underlying4 _) trodAll_mk0, ?_, rfl, hB.frame _, fun h => by cases h⟩
  exact trodAll_cons_mk (shut_int Tryz.underlying3 w0)
    (trodAll_cons_mk (Below.trod laidOut (by kernel_rfl) (of_decide_eq_true (by kernel_rfl)) h1k hB (fun x hx => hlt x (by simp [hx])))
    trodAll_mk0)

/-- A WORLD FOR THE WITNESS. -/
def flatD : DataW Unit → List Value
  | .lit (.int k n) => [.int k n]
  | .agg l => flatDL l
  | _ => []
  where flatDL : List (DataW Unit) → List Value
  | [] => []
  | d :: l => flatD d ++ flatDL l
def setCells (l : List Value) : Obj → Obj
  | .cells _ t frozen => .cells l.toArray t frozen
  | o => o
noncomputable def laidWorld (os : Os) : World :=
  { World.holding Tryz.prog os ⟨#[], #[], []⟩ with heap := ((World.holding Tryz.prog os ⟨#[], #[], []⟩).heap.modify 1 (setCells (flatD Rows.laid_unicode_utf8_first))).modify 2 (setCells (flatD Rows.laid_unicode_utf8_acceptRanges)) }
def wargs : Array Value := #[.int .i64 0, .slice none 0 0]
theorem laid_met (os : Os) : laidMet Tryz.prog Rows.historyBackRow.laid ((laidWorld os).forCall (fun _ _ => 0) ⟨#[], wargs, []⟩).memory :=
  laidMet_of_run' 8 (by kernel_rfl) (by kernel_rfl)
theorem reads (os : Os) {H : Type} (enc : TypeId × Value → H) : ∃ places, DataW.whole enc Tryz.prog ((laidWorld os).forCall (fun _ _ => 0) ⟨#[], wargs, []⟩).memory Tryz.f3.params.toList Rows.historyBackSpec.vars false wargs.toList 8 = some ([.lit (.int .i64 0), .nil], [], places) :=
  ⟨[], by kernel_rfl⟩

set_option maxRecDepth 100000 in
theorem liftedUpto (os : Os) (started : os.Started) (H : Type) (enc : TypeId × Value → H) (F : Stop.Interp) :
    ReturnsInHanded {} Tryz.checked os 3 .any ((Rows.OpenSpec.upto Rows.historyBackSpec).preRow enc Tryz.prog Tryz.f3 Rows.historyBackUptoRow.domain false Rows.historyBackUptoRow.laid) (((Rows.OpenSpec.upto Rows.historyBackSpec).at F).post enc Tryz.prog Tryz.f3 false true false false) := by
  obtain ⟨places, hx⟩ := reads os enc
  refine returnsInHanded_of_row (C := Tryz.checked) (s := Rows.OpenSpec.upto Rows.historyBackSpec) own started (by kernel_rfl) Tryz.func3
    (witness_row_at (enc := enc) (C := Tryz.checked) false (laidWorld os) wargs rfl (by kernel_rfl) (by kernel_rfl) (by kernel_rfl)
      (OpenSpec.preRow_of_cond 8 hx (by kernel_rfl) (fun k hk => (by cases hk; kernel_rfl)) (by kernel_rfl) (laid_met os))) ?_
  intro W base args ds gs before hval hW _ hcond _ hL _ _
  exact contract H enc W base args ds gs before hval hW (of_decide_eq_true (hcond _ rfl)) hL

theorem saidUpto : Rows.HistoryBackUptoSaid :=
  OpenClaim.holds_of_cond 3 Tryz.f3 rfl rfl rfl rfl rfl rfl rfl ⟨rfl, rfl, rfl, rfl, rfl⟩ rfl rfl rfl rfl rfl (by kernel_rfl) Tryz.func3 (by kernel_rfl)
    (of_decide_eq_true (by kernel_rfl)) (by unfold Func.isWrapper; first | (rw [if_pos (by decide +kernel)]; kernel_rfl) | (rw [if_neg (by decide +kernel)]; exact ⟨rfl, rfl⟩))
    (fun os started H enc _ F => by rw [OpenClaim.pre_eq_preRow]; exact liftedUpto os started H enc F)

theorem plain (f : FuncId) (fn : Func) (hf : Tryz.pinned.checked.prog.funcNamed "rubric/rubriclaw27.HistoryBack" = some f) (hfn : Tryz.pinned.checked.prog.funcs[f]? = some fn) :
    false = Tryz.pinned.checked.prog.looks [] ∧ ∀ (j : Nat) t, fn.params[j]? = some t → Tryz.pinned.checked.prog.wantsStandIn t = false := by
  obtain rfl : f = 3 := Option.some.inj ((show Tryz.prog.funcNamed "rubric/rubriclaw27.HistoryBack" = some 3 by kernel_rfl).symm.trans hf) |>.symm
  obtain rfl : fn = Tryz.f3 := (Option.some.inj (Tryz.func3.symm.trans hfn)).symm
  refine ⟨by kernel_rfl, fun j t ht => ?_⟩
  rw [Tryz.params3] at ht
  have hm : t ∈ #[3, 22] := Array.mem_of_getElem? ht
  simp at hm
  rcases hm with rfl | rfl
  · exact (show Tryz.prog.wantsStandIn 3 = false by kernel_rfl)
  · exact (show Tryz.prog.wantsStandIn 22 = false by kernel_rfl)

/-- THE CARD. -/
theorem cardUpto : Rows.HistoryBackUptoCardSaid :=
  Claim7.holds_tied_plain_at .later [] _ _ _ _ saidUpto (fun _ h => by cases h) (by kernel_rfl) (fun _ h => by cases h) historyBackUpto_row_tie rfl ⟨rfl, rfl⟩ (by kernel_rfl) rfl plain (by kernel_rfl)
end Go.Proofs.YtkmaikggdbielaaGreatDoor.historyBack

