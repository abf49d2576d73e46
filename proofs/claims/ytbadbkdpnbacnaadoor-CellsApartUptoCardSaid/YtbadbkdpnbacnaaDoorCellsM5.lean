/- Two rows of cells are the same exactly if their deltas are, and then their texts are the same too (CellsApart). The one condition: the arguments hold together at most 2^20 data, as the statement's own bound says. -/
import Derived.Test.YtbadbkdpnbacnaaDoorU
import Derived.Test.YtbadbkdpnbacnaaDoorCards
import Derived.Test.YtbadbkdpnbacnaaDoorTie
import Derived.WalkKit
import Derived.ProofKit
import Derived.OpenShut
import Derived.Deep.DeepHandedRow
import Derived.Lib.LaidTab
import Derived.ChangeSame
import Derived.Test.YtbadbkdpnbacnaaDoorCellsM4

/- Cells: May. No condition. -/
namespace Go.Proofs.YtbadbkdpnbacnaaDoor.Fw
open Go
set_option linter.unusedSimpArgs false
set_option linter.unusedVariables false

theorem indexFuncC_calls {x : V} {f : FuncId} {caps : List V} {H : Heap} {cs : List CellA} (hx : SL H x 2 (cs.map CellA.cells)) (hl : cs.length ≤ big)
    (hd : ∀ c ∈ cs, SCalls PP f (.agg c.cells :: caps) H fun r H' => H' = H ∧ ∃ b, r = .bool b) :
    SCalls PP 63 [x, .fn (.func f) [] caps] H fun r H' => H' = H ∧ ∃ i, r = .int .i64 i := by
  refine SCalls.keep (R := fun r => ∃ i, r = .int .i64 i) (SCalls.go c63 (by simp [fn63]) fun hw => ?_)
  unfold big at hl
  simp (maxSteps := 1000000) (implicitDefEqProofs := false) only [stp, if_true, if_false, Int.reduceEq, Int.reduceLT, Int.reduceLE, Int.reduceGT, Int.reduceGE, reduceCtorEq, Nat.reduceEqDiff, List.getElem?_cons_zero, List.getElem?_cons_succ, Option.map_some, fn63, enterFr, List.length, List.range, List.range.loop, List.zip, List.zipWith, hx.len]
  refine wp_range SCalls.scMono (by simp only [List.length_map]; omega) (fun _ : Unit => [(0, x), (1, .fn (.func f) [] caps)]) (fun k _ H' => H' = H) () rfl
    (.cons rfl (.cons rfl (.cons rfl (.cons rfl .nil)))) (by decide) (fun s => ⟨rfl, rfl, rfl⟩) ?_ ?_
  · rintro k _ H' hk rfl
    rw [List.length_map] at hk
    obtain ⟨id, p, hia, hat⟩ := hx.ia (H' := H') (i := k) (e := cs[k].cells) (by simp [hk]) .i64
    simp (maxSteps := 1000000) (implicitDefEqProofs := false) only [stp, if_true, if_false, Int.reduceEq, Int.reduceLT, Int.reduceLE, Int.reduceGT, Int.reduceGE, reduceCtorEq, Nat.reduceEqDiff, List.getElem?_cons_zero, List.getElem?_cons_succ, Option.map_some, hia, hat.lda (n := 2) rfl, List.nil_append, List.cons_append]
    refine SCalls.mono (hd cs[k] (List.getElem_mem hk)) ?_
    rintro v H2 ⟨rfl, b, rfl⟩
    cases b with
    | false =>
      simp (maxSteps := 1000000) (implicitDefEqProofs := false) only [stp, if_true, if_false, Int.reduceEq, Int.reduceLT, Int.reduceLE, Int.reduceGT, Int.reduceGE, reduceCtorEq, Nat.reduceEqDiff, List.getElem?_cons_zero, List.getElem?_cons_succ, Option.map_some, if_true]
      exact ⟨(), by trivial, .cons rfl (.cons rfl (.cons rfl (.cons rfl .nil)))⟩
    | true =>
      simp (maxSteps := 1000000) (implicitDefEqProofs := false) only [stp, if_true, if_false, Int.reduceEq, Int.reduceLT, Int.reduceLE, Int.reduceGT, Int.reduceGE, reduceCtorEq, Nat.reduceEqDiff, List.getElem?_cons_zero, List.getElem?_cons_succ, Option.map_some, if_true]
      exact ⟨Ext.refl _, ⟨_, rfl⟩, rfl⟩
  · rintro _ H' rfl
    simp (maxSteps := 1000000) (implicitDefEqProofs := false) only [stp, if_true, if_false, Int.reduceEq, Int.reduceLT, Int.reduceLE, Int.reduceGT, Int.reduceGE, reduceCtorEq, Nat.reduceEqDiff, List.getElem?_cons_zero, List.getElem?_cons_succ, Option.map_some, if_true]
    exact ⟨Ext.refl _, ⟨_, rfl⟩, rfl⟩
theorem may1_calls {d : V} {p : Nat} {f : FuncId} {caps : List V} {H : Heap} {cs : List CellA} (hx : SL H d 2 (cs.map CellA.cells)) (hl : cs.length ≤ big) (hp : At H p 0 [d])
    (hd : ∀ c ∈ cs, SCalls PP f (.agg c.cells :: caps) H fun r H' => H' = H ∧ ∃ b, r = .bool b) :
    SCalls PP 35 [.fn (.func f) [] caps, .ptr p 0] H fun r H' => H' = H ∧ ∃ b, r = .bool b := by
  refine SCalls.keep (R := fun r => ∃ b, r = .bool b) (SCalls.go c35 (by simp [fn35]) fun hw => ?_)
  have ls := hp.ld (j := 0) (v := d) rfl 1
  rw [Nat.add_zero] at ls
  simp (maxSteps := 1000000) (implicitDefEqProofs := false) only [stp, if_true, if_false, Int.reduceEq, Int.reduceLT, Int.reduceLE, Int.reduceGT, Int.reduceGE, reduceCtorEq, Nat.reduceEqDiff, List.getElem?_cons_zero, List.getElem?_cons_succ, Option.map_some, fn35, enterFr, List.length, List.range, List.range.loop, List.zip, List.zipWith, ls]
  have k36 : SCalls PP 36 [d, .fn (.func f) [] caps] H fun r H' => H' = H ∧ ∃ b, r = .bool b := by
    refine SCalls.keep (R := fun r => ∃ b, r = .bool b) (SCalls.go c36 (by simp [fn36]) fun hw => ?_)
    simp (maxSteps := 1000000) (implicitDefEqProofs := false) only [stp, if_true, if_false, Int.reduceEq, Int.reduceLT, Int.reduceLE, Int.reduceGT, Int.reduceGE, reduceCtorEq, Nat.reduceEqDiff, List.getElem?_cons_zero, List.getElem?_cons_succ, Option.map_some, fn36, enterFr, List.length, List.range, List.range.loop, List.zip, List.zipWith]
    refine SCalls.mono (indexFuncC_calls hx hl hd) ?_
    rintro r G ⟨rfl, i, rfl⟩
    simp (maxSteps := 1000000) (implicitDefEqProofs := false) only [stp, if_true, if_false, Int.reduceEq, Int.reduceLT, Int.reduceLE, Int.reduceGT, Int.reduceGE, reduceCtorEq, Nat.reduceEqDiff, List.getElem?_cons_zero, List.getElem?_cons_succ, Option.map_some, if_true]
    exact ⟨Ext.refl _, ⟨_, rfl⟩, rfl⟩
  refine SCalls.mono k36 ?_
  rintro r G ⟨rfl, b, rfl⟩
  simp (maxSteps := 1000000) (implicitDefEqProofs := false) only [stp, if_true, if_false, Int.reduceEq, Int.reduceLT, Int.reduceLE, Int.reduceGT, Int.reduceGE, reduceCtorEq, Nat.reduceEqDiff, List.getElem?_cons_zero, List.getElem?_cons_succ, Option.map_some, if_true]
  exact ⟨Ext.refl _, ⟨_, rfl⟩, rfl⟩
section
variable {s : V} {H : Heap} {ks : List KeyA} {p : Nat} {c : CellA}
theorem may2_calls (hT : Tabs H) (hs : Sch H s ks) (h1 : At H p 0 [s]) (hc : c.In H) (ho : c.cells.all V.one = true) : SCalls PP 37 [.agg c.cells, .ptr p 0] H fun r H' => H' = H ∧ ∃ b, r = .bool b := by
  refine SCalls.keep (R := fun r => ∃ b, r = .bool b) (SCalls.go c37 (by simp [fn37]) fun hw => ?_)
  obtain ⟨H2, hx2, hw2, ha2, hbx⟩ := x_boxed (Ext.refl H) hw (e := c.cells) ho
  have l0 := ha2.ld (j := 0) (v := .int .i32 c.r) rfl 1
  have l1 := ha2.ld (j := 1) (v := c.set) rfl 1
  have ls := (h1.ext hx2).ld (j := 0) (v := s) rfl 1
  rw [Nat.add_zero] at ls
  simp (maxSteps := 1000000) (implicitDefEqProofs := false) only [stp, if_true, if_false, Int.reduceEq, Int.reduceLT, Int.reduceLE, Int.reduceGT, Int.reduceGE, reduceCtorEq, Nat.reduceEqDiff, List.getElem?_cons_zero, List.getElem?_cons_succ, Option.map_some, fn37, enterFr, List.length, List.range, List.range.loop, List.zip, List.zipWith, hbx, l0]
  refine SCalls.mono (runesMay_calls c.r _) ?_
  rintro r G ⟨rfl, rfl⟩
  cases hr : runeOk c.r with
  | false =>
    simp (maxSteps := 1000000) (implicitDefEqProofs := false) only [stp, if_true, if_false, Int.reduceEq, Int.reduceLT, Int.reduceLE, Int.reduceGT, Int.reduceGE, reduceCtorEq, Nat.reduceEqDiff, List.getElem?_cons_zero, List.getElem?_cons_succ, Option.map_some, hr]
    exact ⟨hx2, ⟨_, rfl⟩, rfl⟩
  | true =>
    simp (maxSteps := 1000000) (implicitDefEqProofs := false) only [stp, if_true, if_false, Int.reduceEq, Int.reduceLT, Int.reduceLE, Int.reduceGT, Int.reduceGE, reduceCtorEq, Nat.reduceEqDiff, List.getElem?_cons_zero, List.getElem?_cons_succ, Option.map_some, hr, ls, l1]
    refine SCalls.mono (attrsMay_calls validIs (hT.ext hx2) (hs.ext hx2) (hc.ext hx2).set) ?_
    rintro r G ⟨rfl, rfl⟩
    simp (maxSteps := 1000000) (implicitDefEqProofs := false) only [stp, if_true, if_false, Int.reduceEq, Int.reduceLT, Int.reduceLE, Int.reduceGT, Int.reduceGE, reduceCtorEq, Nat.reduceEqDiff, List.getElem?_cons_zero, List.getElem?_cons_succ, Option.map_some, if_true]
    exact ⟨hx2, ⟨_, rfl⟩, rfl⟩
theorem may3_calls (hT : Tabs H) (hs : Sch H s ks) (h1 : At H p 0 [s]) (hc : c.In H) (ho : c.cells.all V.one = true) : SCalls PP 40 [.agg c.cells, .ptr p 0] H fun r H' => H' = H ∧ ∃ b, r = .bool b := by
  refine SCalls.keep (R := fun r => ∃ b, r = .bool b) (SCalls.go c40 (by simp [fn40]) fun hw => ?_)
  obtain ⟨H2, hx2, hw2, ha2, hbx⟩ := x_boxed (Ext.refl H) hw (e := c.cells) ho
  have l1 := ha2.ld (j := 1) (v := c.set) rfl 1
  have ls := (h1.ext hx2).ld (j := 0) (v := s) rfl 1
  rw [Nat.add_zero] at ls
  simp (maxSteps := 1000000) (implicitDefEqProofs := false) only [stp, if_true, if_false, Int.reduceEq, Int.reduceLT, Int.reduceLE, Int.reduceGT, Int.reduceGE, reduceCtorEq, Nat.reduceEqDiff, List.getElem?_cons_zero, List.getElem?_cons_succ, Option.map_some, fn40, enterFr, List.length, List.range, List.range.loop, List.zip, List.zipWith, hbx, ls, l1]
  refine SCalls.mono (attrsMay_calls validIs (hT.ext hx2) (hs.ext hx2) (hc.ext hx2).set) ?_
  rintro r G ⟨rfl, rfl⟩
  simp (maxSteps := 1000000) (implicitDefEqProofs := false) only [stp, if_true, if_false, Int.reduceEq, Int.reduceLT, Int.reduceLE, Int.reduceGT, Int.reduceGE, reduceCtorEq, Nat.reduceEqDiff, List.getElem?_cons_zero, List.getElem?_cons_succ, Option.map_some, if_true]
  exact ⟨hx2, ⟨_, rfl⟩, rfl⟩
theorem may4_calls (hs : Sch H s ks) (h1 : At H p 0 [s]) (hc : c.In H) (ho : c.cells.all V.one = true) : SCalls PP 41 [.agg c.cells, .ptr p 0] H fun r H' => H' = H ∧ ∃ b, r = .bool b := by
  refine SCalls.keep (R := fun r => ∃ b, r = .bool b) (SCalls.go c41 (by simp [fn41]) fun hw => ?_)
  obtain ⟨H2, hx2, hw2, ha2, hbx⟩ := x_boxed (Ext.refl H) hw (e := c.cells) ho
  have l0 := ha2.ld (j := 0) (v := .int .i32 c.r) rfl 1
  have l1 := ha2.ld (j := 1) (v := c.set) rfl 1
  have ls := (h1.ext hx2).ld (j := 0) (v := s) rfl 1
  rw [Nat.add_zero] at ls
  simp (maxSteps := 1000000) (implicitDefEqProofs := false) only [stp, if_true, if_false, Int.reduceEq, Int.reduceLT, Int.reduceLE, Int.reduceGT, Int.reduceGE, reduceCtorEq, Nat.reduceEqDiff, List.getElem?_cons_zero, List.getElem?_cons_succ, Option.map_some, fn41, enterFr, List.length, List.range, List.range.loop, List.zip, List.zipWith, hbx, ls, l0, l1]
  refine SCalls.mono (part_calls (hs.ext hx2) (hc.ext hx2).set hc.al _) ?_
  rintro r G ⟨hx3, hw3, hlen⟩
  simp (maxSteps := 1000000) (implicitDefEqProofs := false) only [stp, if_true, if_false, Int.reduceEq, Int.reduceLT, Int.reduceLE, Int.reduceGT, Int.reduceGE, reduceCtorEq, Nat.reduceEqDiff, List.getElem?_cons_zero, List.getElem?_cons_succ, Option.map_some, hlen]
  exact ⟨hx2.trans hx3, ⟨_, rfl⟩, rfl⟩
end
theorem x_box1 {H : Heap} {x : V} (ho : x.one = true) (hc : x.cells = [x]) (hw : WF H) : ∃ G, exec .box [x] H = some (.ptr H.next 0, G) ∧ Ext H G ∧ WF G ∧ At G H.next 0 [x] := by
  refine ⟨H.new (.row false 1 [x]), ?_, (Ext.refl H).new _, hw.new _, ⟨Nat.lt_succ_self _, false, 1, [x], new_get _ _, by simp, fun j v hj => by rw [Nat.zero_add]; exact hj⟩⟩
  have := x_box H x (by rw [hc]; simp [ho])
  rw [hc] at this; exact this

set_option maxRecDepth 20000 in
set_option maxHeartbeats 4000000 in
theorem cellsMay_calls {s d : V} {H : Heap} {ks : List KeyA} {cs : List CellA} (hT : Tabs H) (hs : Sch H s ks) (hd : CellsIn H d cs) :
    SCalls PP 17 [s, d] H fun r H' => H' = H ∧ ∃ e, r = .int .i64 e ∧ (e = 0 → ∃ (i : List CellA) (c : CellA), cs = i ++ [c] ∧ c.r = 10) := by
  refine SCalls.keep (R := fun r => ∃ e, r = .int .i64 e ∧ (e = 0 → ∃ (i : List CellA) (c : CellA), cs = i ++ [c] ∧ c.r = 10)) (SCalls.go c17 (by simp [fn17]) fun hw => ?_)
  have hb := hd.len
  have hlen : ∀ G, exec .len [d] G = some (.int .i64 cs.length, G) := fun G => by have := hd.sl.len (H' := G); rwa [List.length_map] at this
  have hso : s.one = true ∧ s.cells = [s] := by obtain ⟨p, sl, mid, rfl, _⟩ := hs.is; exact ⟨rfl, rfl⟩
  have hdo : d.one = true ∧ d.cells = [d] := by
    rcases hd.sl.2 with h | ⟨id, off, cap, rfl, _⟩
    · rw [h.1]; exact ⟨rfl, rfl⟩
    · exact ⟨rfl, rfl⟩
  obtain ⟨G1, hb1, hx1, hw1, ha1⟩ := x_box1 hso.1 hso.2 hw
  obtain ⟨G2, hb2, hx2, hw2, ha2⟩ := x_box1 hdo.1 hdo.2 hw1
  have hxx := hx1.trans hx2
  have hT2 := hT.ext hxx
  have hs2 := hs.ext hxx
  have hd2 := hd.ext hxx
  have hp1 := ha1.ext hx2
  have ls := hp1.ld (j := 0) (v := s) rfl 1
  have ld := ha2.ld (j := 0) (v := d) rfl 1
  rw [Nat.add_zero] at ls ld
  have hone : ∀ c ∈ cs, c.cells.all V.one = true := fun c hc => (hd.sl.1 _ (List.mem_map_of_mem hc)).2
  have k2 := may1_calls hd2.sl hd2.len ha2 (fun c hc => may2_calls hT2 hs2 hp1 (hd2.ins c hc) (hone c hc))
  have k3 := may1_calls hd2.sl hd2.len ha2 (fun c hc => may3_calls hT2 hs2 hp1 (hd2.ins c hc) (hone c hc))
  have k4 := may1_calls hd2.sl hd2.len ha2 (fun c hc => may4_calls hs2 hp1 (hd2.ins c hc) (hone c hc))
  rcases List.eq_nil_or_concat cs with hcs | ⟨i, c, hcs⟩
  · have h0 : (cs.length : Int) < 1 := by rw [hcs]; decide
    simp (maxSteps := 1000000) (implicitDefEqProofs := false) only [stp, if_true, if_false, Int.reduceEq, Int.reduceLT, Int.reduceLE, Int.reduceGT, Int.reduceGE, reduceCtorEq, Nat.reduceEqDiff, List.getElem?_cons_zero, List.getElem?_cons_succ, Option.map_some, fn17, enterFr, List.length, List.range, List.range.loop, List.zip, List.zipWith, hb1, hb2, List.take_zero, List.drop_zero, ld, hlen, h0]
    exact ⟨hxx, ⟨_, rfl, fun h => (by cases h)⟩, rfl⟩
  rw [List.concat_eq_append] at hcs
  have hol : cs.length = i.length + 1 := by rw [hcs, List.length_append]; rfl
  have h0 : ¬ (cs.length : Int) < 1 := by omega
  have h1 : ¬ (cs.length : Int) > 536870912 := by unfold big at hb; omega
  simp (maxSteps := 1000000) (implicitDefEqProofs := false) only [stp, if_true, if_false, Int.reduceEq, Int.reduceLT, Int.reduceLE, Int.reduceGT, Int.reduceGE, reduceCtorEq, Nat.reduceEqDiff, List.getElem?_cons_zero, List.getElem?_cons_succ, Option.map_some, fn17, enterFr, List.length, List.range, List.range.loop, List.zip, List.zipWith, hb1, hb2, List.take_zero, List.drop_zero, ld, hlen, h0, h1, List.nil_append, List.cons_append]
  refine SCalls.mono k2 ?_
  rintro r G ⟨rfl, b, rfl⟩
  cases b with
  | true =>
    simp (maxSteps := 1000000) (implicitDefEqProofs := false) only [stp, if_true, if_false, Int.reduceEq, Int.reduceLT, Int.reduceLE, Int.reduceGT, Int.reduceGE, reduceCtorEq, Nat.reduceEqDiff, List.getElem?_cons_zero, List.getElem?_cons_succ, Option.map_some, if_true]
    exact ⟨hxx, ⟨_, rfl, fun h => (by cases h)⟩, rfl⟩
  | false =>
  simp (maxSteps := 1000000) (implicitDefEqProofs := false) only [stp, if_true, if_false, Int.reduceEq, Int.reduceLT, Int.reduceLE, Int.reduceGT, Int.reduceGE, reduceCtorEq, Nat.reduceEqDiff, List.getElem?_cons_zero, List.getElem?_cons_succ, Option.map_some, List.take_zero, List.drop_zero, List.nil_append, List.cons_append]
  refine SCalls.mono k3 ?_
  rintro r G ⟨rfl, b, rfl⟩
  cases b with
  | true =>
    simp (maxSteps := 1000000) (implicitDefEqProofs := false) only [stp, if_true, if_false, Int.reduceEq, Int.reduceLT, Int.reduceLE, Int.reduceGT, Int.reduceGE, reduceCtorEq, Nat.reduceEqDiff, List.getElem?_cons_zero, List.getElem?_cons_succ, Option.map_some, if_true]
    exact ⟨hxx, ⟨_, rfl, fun h => (by cases h)⟩, rfl⟩
  | false =>
  have hw1' : IntKind.i64.wrap ((cs.length : Int) - 1) = ((i.length : Nat) : Int) := by unfold big at hb; rw [wrap_i64 (by omega) (by omega)]; omega
  obtain ⟨i1, o1, hia, ht1⟩ := hd2.sl.ia (H' := G) (i := i.length) (e := c.cells) (by rw [hcs]; simp) .i64
  have lr := ht1.ld (j := 0) (v := .int .i32 c.r) rfl 1
  by_cases hr : c.r = 10
  rotate_left
  · simp (maxSteps := 1000000) (implicitDefEqProofs := false) only [stp, if_true, if_false, Int.reduceEq, Int.reduceLT, Int.reduceLE, Int.reduceGT, Int.reduceGE, reduceCtorEq, Nat.reduceEqDiff, List.getElem?_cons_zero, List.getElem?_cons_succ, Option.map_some, ld, hlen, hw1', hia, lr, hr]
    exact ⟨hxx, ⟨_, rfl, fun h => (by cases h)⟩, rfl⟩
  simp (maxSteps := 1000000) (implicitDefEqProofs := false) only [stp, if_true, if_false, Int.reduceEq, Int.reduceLT, Int.reduceLE, Int.reduceGT, Int.reduceGE, reduceCtorEq, Nat.reduceEqDiff, List.getElem?_cons_zero, List.getElem?_cons_succ, Option.map_some, ld, hlen, hw1', hia, lr, hr, List.take_zero, List.drop_zero, List.nil_append, List.cons_append]
  refine SCalls.mono k4 ?_
  rintro r G ⟨rfl, b, rfl⟩
  cases b with
  | true =>
    simp (maxSteps := 1000000) (implicitDefEqProofs := false) only [stp, if_true, if_false, Int.reduceEq, Int.reduceLT, Int.reduceLE, Int.reduceGT, Int.reduceGE, reduceCtorEq, Nat.reduceEqDiff, List.getElem?_cons_zero, List.getElem?_cons_succ, Option.map_some, if_true]
    exact ⟨hxx, ⟨_, rfl, fun h => (by cases h)⟩, rfl⟩
  | false =>
    simp (maxSteps := 1000000) (implicitDefEqProofs := false) only [stp, if_true, if_false, Int.reduceEq, Int.reduceLT, Int.reduceLE, Int.reduceGT, Int.reduceGE, reduceCtorEq, Nat.reduceEqDiff, List.getElem?_cons_zero, List.getElem?_cons_succ, Option.map_some, if_true]
    exact ⟨hxx, ⟨_, rfl, fun _ => ⟨i, c, hcs, hr⟩⟩, rfl⟩
end Go.Proofs.YtbadbkdpnbacnaaDoor.Fw

/- The frame: from a call over abstract values to the row and the card. No condition. -/
namespace Go.Proofs.YtbadbkdpnbacnaaDoor.Fw
open Go Go.ChangeShapes Go.WideShapes Go.ChangeAt Go.RowKit
set_option linter.unusedSimpArgs false
set_option linter.unusedVariables false

theorem own : ownKnob PP.godebug = none := by kernel_rfl
theorem laidOut : laidOutB PP = true := by kernel_rfl

/-- A slice among the arguments. -/
theorem arg_slice {P : Program} {H : Type} {enc : TypeId × Value → H} {W : World} {base : Nat} {t e : TypeId} {v : Value} {d : DataW H} {p : List MemPlace} {n B : Nat} (ht : P.underlying t = some (.slice e)) (hp : plainT P (n + 1) t = true)
    (hval : Value.okWide P W .any base t v) (h : DataW.Trod enc P W 0 (fun _ => true) true t v d p) (hB : Rows.uptoBulk d ≤ B) :
    ∃ x ls, VRel (hPl W) (hOf W) x v ∧ SL (hOf W) x (P.cellsOf e) ls ∧ ls.length ≤ B ∧ ∀ l ∈ ls, GoodT P B (hOf W) n e l := by
  obtain ⟨a0, len, cap, rfl⟩ := okWide_slice ht hval
  obtain ⟨fuel, hf⟩ := h
  obtain ⟨h1, h2⟩ := read_good (n + 1) fuel t _ (d, p) hp hf hB
  simp only [GoodT, ht] at h2
  obtain ⟨x, ls, hx, hs, hl, hg⟩ := h2
  simp [Value.cells] at h1 hx
  exact ⟨x, ls, by rw [← hx]; exact av_rel W h1, hs, hl, hg⟩

/-- What a call over abstract values says of the world. -/
theorem below_of {m' : Nat → Pl} {H' : Heap} {W W' : World} (h : Ev (hPl W) (hOf W) W m' H' W') : Below W.heap.size W W' :=
  ⟨h.os, h.tape, h.output, h.size, fun b hb => h.block b hb fun id o ho hw => by
    have : o.owned = false := by
      simp only [hOf] at ho
      split at ho
      · split at ho
        · cases ho; rfl
        · cases ho
      · cases ho
    rw [this] at hw; cases hw⟩

theorem calls_of {f : FuncId} {vs : List V} {xs : List Value} {W : World} {c : Bool} (hc : SCalls PP f vs (hOf W) fun r H' => r = .bool c) (hv : VRelL (hPl W) (hOf W) vs xs) :
    Calls PP f xs.toArray W fun e W' => e = .returned (.bool c) ∧ Below W.heap.size W W' :=
  (hc.2 (hPl W) W xs (hOf_rel W) hv).mono fun e W' h => by
    obtain ⟨r, H', m', x, rfl, rfl, hx, _, hev⟩ := h
    exact ⟨by rw [hx.bool_inv], below_of hev⟩
end Go.Proofs.YtbadbkdpnbacnaaDoor.Fw

/- slices.SortFunc at keys: it ends and turns its own row alone: the toolkit, the comparison, the sort by insertion. No condition. -/
namespace Go.Proofs.YtbadbkdpnbacnaaDoor.Fw
open Go
set_option linter.unusedSimpArgs false
set_option linter.unusedVariables false

/-- H, and at id the row of these keys. -/
def wr (H : Heap) (id : Nat) (ks : List KeyA) : Heap := H.set id (.row false 6 (ks.map KeyA.cells).flatten)
theorem cellsK (ks : List KeyA) : ∀ e ∈ ks.map KeyA.cells, e.length = 6 ∧ e.all V.one = true := fun e he => by obtain ⟨k, _, rfl⟩ := List.mem_map.1 he; exact ⟨rfl, rfl⟩
theorem wr_own {H : Heap} {id : Nat} (hid : id < H.next) (ks : List KeyA) : Own (wr H id ks) id 6 (ks.map KeyA.cells) := ⟨hid, set_get' _ _ _, cellsK ks⟩
theorem wr_wr (H : Heap) (id : Nat) (a b : List KeyA) : (wr H id a).set id (.row false 6 (b.map KeyA.cells).flatten) = wr H id b := by
  unfold wr Heap.set
  congr 1
  funext j
  by_cases h : j = id <;> simp [h]
theorem w_ia {n id : Nat} {i : Int} (h0 : 0 ≤ i) (h1 : i < n) (H : Heap) : exec (.ia 6) [.slice id 0 n none, .int .i64 i] H = some (.ptr id (i.toNat * 6), H) := by
  simp only [exec]
  rw [if_pos ⟨h0, h1⟩, Nat.zero_add]
theorem w_lda {H : Heap} {id : Nat} (hid : id < H.next) {ks : List KeyA} {i : Nat} (h : i < ks.length) : exec (.lda 6) [.ptr id (i * 6)] (wr H id ks) = some (.agg (ks.getD i zeroK).cells, wr H id ks) := by
  have hs := (wr_own hid ks).sl none
  obtain ⟨id', o, h1, h2⟩ := hs.ia (H' := wr H id ks) (i := i) (e := (ks.getD i zeroK).cells) (by simp [List.getD_eq_getElem?_getD, h]) .i64
  rw [List.length_map, w_ia (by omega) (by omega)] at h1
  simp only [Option.some.injEq, Prod.mk.injEq, V.ptr.injEq, and_true, Int.toNat_natCast] at h1
  obtain ⟨rfl, rfl⟩ := h1
  exact h2.lda (n := 6) rfl
theorem w_st {H : Heap} {id : Nat} (hid : id < H.next) {ks : List KeyA} {i : Nat} (h : i < ks.length) (k : KeyA) : exec (.st 6) [.ptr id (i * 6), .agg k.cells] (wr H id ks) = some (.undef, wr H id (ks.set i k)) := by
  obtain ⟨H', h1, h2, _⟩ := (wr_own hid ks).store (i := i) (by simpa using h) (e := k.cells) rfl rfl
  rw [Nat.zero_add] at h1
  rw [h1, h2, ← List.map_set, wr_wr]
theorem wr_next (H : Heap) (id : Nat) (ks : List KeyA) : (wr H id ks).next = H.next := rfl
theorem wr_wf {H : Heap} (hw : WF H) {id : Nat} (hid : id < H.next) (ks : List KeyA) : WF (wr H id ks) := fun j o e => by
  show j < H.next
  unfold wr at e
  rw [Heap.set_get] at e
  split at e
  · rename_i h; omega
  · exact hw j o e

/-! ### cmp -/
theorem compare_calls (a b : Int) (H : Heap) : SCalls PP 28 [.int .i64 a, .int .i64 b] H fun r H' => H' = H ∧ ∃ c : Int, r = .int .i64 c := by
  have h56 : ∀ a, SCalls PP 56 [.int .i64 a] H fun r H' => H' = H ∧ r = .bool false := fun a => by
    refine SCalls.go c56 (by simp [fn56]) fun hw => ?_
    simp only [fn56, enterFr, List.length, List.range, List.range.loop, List.zip, List.zipWith, stp, if_true, if_false, Int.reduceEq, Int.reduceLT, Int.reduceLE, Int.reduceGT, Int.reduceGE, reduceCtorEq, Nat.reduceEqDiff, List.getElem?_cons_zero, List.getElem?_cons_succ, Option.map_some]
    exact ⟨by trivial, by simp⟩
  refine SCalls.go c28 (by simp [fn28]) fun hw => ?_
  simp only [fn28, enterFr, List.length, List.range, List.range.loop, List.zip, List.zipWith, stp, if_true, if_false, Int.reduceEq, Int.reduceLT, Int.reduceLE, Int.reduceGT, Int.reduceGE, reduceCtorEq, Nat.reduceEqDiff, List.getElem?_cons_zero, List.getElem?_cons_succ, Option.map_some]
  refine SCalls.mono (h56 a) ?_
  rintro r H' ⟨rfl, rfl⟩
  simp only [stp, if_true, if_false, Int.reduceEq, Int.reduceLT, Int.reduceLE, Int.reduceGT, Int.reduceGE, reduceCtorEq, Nat.reduceEqDiff, List.getElem?_cons_zero, List.getElem?_cons_succ, Option.map_some]
  refine SCalls.mono (h56 b) ?_
  rintro r H' ⟨rfl, rfl⟩
  by_cases h1 : a < b
  · simp only [stp, if_true, if_false, Int.reduceEq, Int.reduceLT, Int.reduceLE, Int.reduceGT, Int.reduceGE, reduceCtorEq, Nat.reduceEqDiff, List.getElem?_cons_zero, List.getElem?_cons_succ, Option.map_some, h1]
    exact ⟨by trivial, _, rfl⟩
  by_cases h2 : a > b
  · simp only [stp, if_true, if_false, Int.reduceEq, Int.reduceLT, Int.reduceLE, Int.reduceGT, Int.reduceGE, reduceCtorEq, Nat.reduceEqDiff, List.getElem?_cons_zero, List.getElem?_cons_succ, Option.map_some, h1, h2]
    exact ⟨by trivial, _, rfl⟩
  · simp only [stp, if_true, if_false, Int.reduceEq, Int.reduceLT, Int.reduceLE, Int.reduceGT, Int.reduceGE, reduceCtorEq, Nat.reduceEqDiff, List.getElem?_cons_zero, List.getElem?_cons_succ, Option.map_some, h1, h2]
    exact ⟨by trivial, _, rfl⟩
theorem SCalls.keepEx {f : FuncId} {vs : List V} {H : Heap} (h : SCalls PP f vs H fun r H' => Ext H H' ∧ ∃ c : Int, r = .int .i64 c) : SCalls PP f vs H fun r H' => H' = H ∧ ∃ c : Int, r = .int .i64 c :=
  SCalls.keep (R := fun r => ∃ c : Int, r = .int .i64 c) (SCalls.mono h fun r H' ⟨h1, c, h2⟩ => ⟨h1, ⟨c, h2⟩, by subst h2; rfl⟩)
theorem cmp_calls (a b : KeyA) (H : Heap) : SCalls PP 27 [.agg a.cells, .agg b.cells] H fun r H' => H' = H ∧ ∃ c : Int, r = .int .i64 c := by
  refine SCalls.keepEx (SCalls.go c27 (by simp [fn27]) fun hw => ?_)
  obtain ⟨H2, hx2, hw2, ha2, hbx⟩ := x_boxed (Ext.refl H) hw (e := a.cells) rfl
  obtain ⟨H3, hx3, hw3, ha3, hbx3⟩ := x_boxed (Ext.refl H2) hw2 (e := b.cells) rfl
  have l0 := (ha2.ext hx3).ld (j := 0) (v := .int .i64 a.id) rfl 1
  have l1 := ha3.ld (j := 0) (v := .int .i64 b.id) rfl 1
  simp only [fn27, enterFr, List.length, List.range, List.range.loop, List.zip, List.zipWith, stp, if_true, if_false, Int.reduceEq, Int.reduceLT, Int.reduceLE, Int.reduceGT, Int.reduceGE, reduceCtorEq, Nat.reduceEqDiff, List.getElem?_cons_zero, List.getElem?_cons_succ, Option.map_some, hbx, hbx3, l0, l1]
  refine SCalls.mono (compare_calls a.id b.id H3) ?_
  rintro r H' ⟨rfl, c, rfl⟩
  simp only [stp, if_true, if_false, Int.reduceEq, Int.reduceLT, Int.reduceLE, Int.reduceGT, Int.reduceGE, reduceCtorEq, Nat.reduceEqDiff, List.getElem?_cons_zero, List.getElem?_cons_succ, Option.map_some]
  exact ⟨hx2.trans hx3, c, rfl⟩
theorem cmp_ok (a b : KeyA) (H : Heap) (K : V → Heap → Prop) (hK : ∀ c : Int, K (.int .i64 c) H) : SCalls PP 27 ([] ++ [.agg a.cells, .agg b.cells] ++ []) H K :=
  SCalls.mono (cmp_calls a b H) fun r H' ⟨h1, c, h2⟩ => by rw [h1, h2]; exact hK c

theorem x_mul (a b : Int) (H : Heap) : exec (.ibin .mul) [.int .i64 a, .int .i64 b] H = some (.int .i64 (IntKind.i64.wrap (a * b)), H) := rfl
theorem x_quo {a b : Int} (ha : 0 ≤ a) (hb : 0 < b) (h : a ≤ 9223372036854775807) (H : Heap) : exec (.ibin .quo) [.int .i64 a, .int .i64 b] H = some (.int .i64 (a / b), H) := by
  have e : exec (.ibin .quo) [.int .i64 a, .int .i64 b] H = (if b = 0 then none else some (V.int .i64 (IntKind.i64.wrap (a.tdiv b)))).map (·, H) := rfl
  have h1 := Int.ediv_nonneg ha (Int.le_of_lt hb)
  have h2 : a / b ≤ a := Int.ediv_le_self b ha
  rw [e, if_neg (by omega), Int.tdiv_eq_ediv_of_nonneg ha, wrap_i64 (by omega) (by omega)]
  rfl

/-- What a call on the row leaves. -/
def Left (H : Heap) (id n : Nat) (H' : Heap) : Prop := ∃ H2 ks, Ext H H2 ∧ WF H2 ∧ ks.length = n ∧ H' = wr H2 id ks
theorem Left.mk {H : Heap} (hw : WF H) {id n : Nat} {ks : List KeyA} (h : ks.length = n) : Left H id n (wr H id ks) := ⟨H, ks, Ext.refl H, hw, h, rfl⟩
theorem Left.of {H H2 H' : Heap} {id n : Nat} (hx : Ext H H2) (h : Left H2 id n H') : Left H id n H' := by
  obtain ⟨H3, ks, h1, h2, h3, h4⟩ := h
  exact ⟨H3, ks, hx.trans h1, h2, h3, h4⟩
abbrev cmpF : V := .fn (.func 27) [] []

set_option maxRecDepth 20000 in
set_option maxHeartbeats 1000000 in
theorem insertion_calls {H : Heap} (hw : WF H) {id n : Nat} (hid : id < H.next) (hn : n ≤ 64) {ks : List KeyA} (hks : ks.length = n) {a b : Int} (ha : 0 ≤ a) (ha' : a ≤ n) (hb : b ≤ n) :
    SCalls PP 75 [.slice id 0 n none, .int .i64 a, .int .i64 b, cmpF] (wr H id ks) fun _ H' => Left H id n H' := by
  refine SCalls.go c75 (by simp [fn75]) fun _ => ?_
  simp (disch := omega) only [fn75, enterFr, List.length, List.range, List.range.loop, List.zip, List.zipWith, stp, if_true, if_false, Int.reduceEq, Int.reduceLT, Int.reduceLE, Int.reduceGT, Int.reduceGE, reduceCtorEq, Nat.reduceEqDiff, List.getElem?_cons_zero, List.getElem?_cons_succ, Option.map_some, wrap_i64]
  refine wp_loopI (fun m fr G => ∃ (i : Int) (ks : List KeyA), m = (b - i).toNat ∧ a + 1 ≤ i ∧ ks.length = n ∧ G = wr H id ks ∧ FrSub [(8, .int .i64 i), (0, .slice id 0 n none), (1, .int .i64 a), (2, .int .i64 b), (3, cmpF)] fr) (b - (a + 1)).toNat
    ⟨a + 1, ks, rfl, by omega, hks, rfl, .cons rfl (.cons rfl (.cons rfl (.cons rfl (.cons rfl .nil))))⟩ ?_
  rintro m fr G ⟨i, ks, rfl, hi, hks, rfl, hsub⟩
  refine ⟨_, hsub, ?_⟩
  by_cases hib : i < b
  rotate_left
  · simp only [stp, if_true, if_false, Int.reduceEq, Int.reduceLT, Int.reduceLE, Int.reduceGT, Int.reduceGE, reduceCtorEq, Nat.reduceEqDiff, List.getElem?_cons_zero, List.getElem?_cons_succ, Option.map_some, hib]
    exact Left.mk hw hks
  simp only [stp, if_true, if_false, Int.reduceEq, Int.reduceLT, Int.reduceLE, Int.reduceGT, Int.reduceGE, reduceCtorEq, Nat.reduceEqDiff, List.getElem?_cons_zero, List.getElem?_cons_succ, Option.map_some, hib]
  refine wp_loopI (fun m fr G => ∃ (j : Int) (ks : List KeyA), m = (j - a).toNat ∧ a ≤ j ∧ j ≤ i ∧ ks.length = n ∧ G = wr H id ks ∧ FrSub [(9, .int .i64 j), (8, .int .i64 i), (0, .slice id 0 n none), (1, .int .i64 a), (2, .int .i64 b), (3, cmpF)] fr) (i - a).toNat
    ⟨i, ks, rfl, by omega, by omega, hks, rfl, .cons rfl (.cons rfl (.cons rfl (.cons rfl (.cons rfl (.cons rfl .nil)))))⟩ ?_
  clear hks ks
  rintro m fr G ⟨j, ks, rfl, hj, hji, hks, rfl, hsub⟩
  refine ⟨_, hsub, ?_⟩
  have next : ∀ fr2, FrSub [(8, .int .i64 (i + 1)), (0, .slice id 0 n none), (1, .int .i64 a), (2, .int .i64 b), (3, cmpF)] fr2 → ∃ k', k' < (b - i).toNat ∧ ∃ (i : Int) (ks : List KeyA), k' = (b - i).toNat ∧ a + 1 ≤ i ∧ ks.length = n ∧ wr H id ks = wr H id ks ∧ FrSub [(8, .int .i64 i), (0, .slice id 0 n none), (1, .int .i64 a), (2, .int .i64 b), (3, cmpF)] fr2 :=
    fun fr2 h => ⟨(b - (i + 1)).toNat, by omega, i + 1, ks, rfl, by omega, hks, rfl, h⟩
  by_cases hja : j > a
  rotate_left
  · simp (disch := omega) only [stp, if_true, if_false, Int.reduceEq, Int.reduceLT, Int.reduceLE, Int.reduceGT, Int.reduceGE, reduceCtorEq, Nat.reduceEqDiff, List.getElem?_cons_zero, List.getElem?_cons_succ, Option.map_some, hja, wrap_i64]
    exact ⟨(b - (i + 1)).toNat, by omega, i + 1, ks, rfl, by omega, hks, rfl, .cons rfl (.cons rfl (.cons rfl (.cons rfl (.cons rfl .nil))))⟩
  simp (disch := omega) only [stp, if_true, if_false, Int.reduceEq, Int.reduceLT, Int.reduceLE, Int.reduceGT, Int.reduceGE, reduceCtorEq, Nat.reduceEqDiff, List.getElem?_cons_zero, List.getElem?_cons_succ, Option.map_some, hja, wrap_i64, w_ia, w_lda hid]
  refine cmp_ok _ _ _ _ fun c => ?_
  by_cases hc : c < 0
  · simp (maxSteps := 1000000) (disch := (try simp only [List.length_set]); omega) only [stp, if_true, if_false, Int.reduceEq, Int.reduceLT, Int.reduceLE, Int.reduceGT, Int.reduceGE, reduceCtorEq, Nat.reduceEqDiff, List.getElem?_cons_zero, List.getElem?_cons_succ, Option.map_some, hc, wrap_i64, w_ia, w_lda hid, w_st hid]
    exact ⟨(j - 1 - a).toNat, by omega, j - 1, _, rfl, by omega, by omega, by simp [hks], rfl, .cons rfl (.cons rfl (.cons rfl (.cons rfl (.cons rfl (.cons rfl .nil)))))⟩
  · simp (disch := omega) only [stp, if_true, if_false, Int.reduceEq, Int.reduceLT, Int.reduceLE, Int.reduceGT, Int.reduceGE, reduceCtorEq, Nat.reduceEqDiff, List.getElem?_cons_zero, List.getElem?_cons_succ, Option.map_some, hc, wrap_i64]
    exact ⟨(b - (i + 1)).toNat, by omega, i + 1, ks, rfl, by omega, hks, rfl, .cons rfl (.cons rfl (.cons rfl (.cons rfl (.cons rfl .nil))))⟩
end Go.Proofs.YtbadbkdpnbacnaaDoor.Fw

/- slices.SortFunc at keys: the pivots, the turned range, the heap. No condition. -/
namespace Go.Proofs.YtbadbkdpnbacnaaDoor.Fw
open Go
set_option linter.unusedSimpArgs false
set_option linter.unusedVariables false

/-- H, and at q a cell of the call's own. -/
def cv (H : Heap) (q : Nat) (v : V) : Heap := H.set q (.row false 1 [v])
theorem cv_ld {H : Heap} {id q : Nat} (hq : q ≠ id) (v : V) (ks : List KeyA) : exec (.ld 1) [.ptr q 0] (wr (cv H q v) id ks) = some (v, wr (cv H q v) id ks) := by
  have : (wr (cv H q v) id ks).get q = some (.row false 1 [v]) := by unfold wr cv; rw [Heap.set_get, if_neg hq, set_get']
  simp only [exec, this]
  rfl
theorem cv_st {H : Heap} {id q : Nat} (hq : q ≠ id) (v u : V) (hc : u.cells = [u]) (ho : u.one = true) (ks : List KeyA) : exec (.st 1) [.ptr q 0, u] (wr (cv H q v) id ks) = some (.undef, wr (cv H q u) id ks) := by
  have hg : (wr (cv H q v) id ks).get q = some (.row false 1 [v]) := by unfold wr cv; rw [Heap.set_get, if_neg hq, set_get']
  have := x_st (v := u) hg (n := 1) (by rw [hc]; rfl) rfl (by rw [hc]; simp [ho])
  rw [this, hc]
  congr 2
  unfold wr cv Heap.set
  congr 1
  funext j
  by_cases h : j = q
  · subst h
    have : ¬ id = j := fun e => hq e.symm
    simp [hq]
  · by_cases h' : j = id
    · subst h'; simp [h]
    · simp [h, h']

set_option maxRecDepth 20000 in
set_option maxHeartbeats 1000000 in
theorem order2_calls {H : Heap} {id n q : Nat} (hid : id < H.next) (hq : q ≠ id) {ks : List KeyA} (hks : ks.length = n) {lo hi a b : Int} (s : Int) (hlo : 0 ≤ lo) (hhi : hi ≤ n) (ha : lo ≤ a ∧ a < hi) (hb : lo ≤ b ∧ b < hi) :
    SCalls PP 107 [.slice id 0 n none, .int .i64 a, .int .i64 b, .ptr q 0, cmpF] (wr (cv H q (.int .i64 s)) id ks) fun r H' => ∃ a' b' s', r = .tup [.int .i64 a', .int .i64 b'] ∧ (lo ≤ a' ∧ a' < hi) ∧ (lo ≤ b' ∧ b' < hi) ∧ H' = wr (cv H q (.int .i64 s')) id ks := by
  refine SCalls.go c107 (by simp [fn107]) fun _ => ?_
  have hid' : id < (cv H q (.int .i64 s)).next := hid
  have hst := cv_st (H := H) (id := id) hq (.int .i64 s) (.int .i64 (IntKind.i64.wrap (s + 1))) rfl rfl ks
  simp (maxSteps := 1000000) (implicitDefEqProofs := false) (disch := omega) only [stp, if_true, if_false, Int.reduceEq, Int.reduceLT, Int.reduceLE, Int.reduceGT, Int.reduceGE, reduceCtorEq, Nat.reduceEqDiff, List.getElem?_cons_zero, List.getElem?_cons_succ, Option.map_some, wrap_i64, fn107, enterFr, List.length, List.range, List.range.loop, List.zip, List.zipWith, w_ia, w_lda hid']
  refine cmp_ok _ _ _ _ fun c => ?_
  by_cases hc : c < 0
  · simp (maxSteps := 1000000) (implicitDefEqProofs := false) only [stp, if_true, if_false, Int.reduceEq, Int.reduceLT, Int.reduceLE, Int.reduceGT, Int.reduceGE, reduceCtorEq, Nat.reduceEqDiff, List.getElem?_cons_zero, List.getElem?_cons_succ, Option.map_some, hc, cv_ld hq, hst]
    exact ⟨_, _, _, rfl, hb, ha, rfl⟩
  · simp (maxSteps := 1000000) (implicitDefEqProofs := false) only [stp, if_true, if_false, Int.reduceEq, Int.reduceLT, Int.reduceLE, Int.reduceGT, Int.reduceGE, reduceCtorEq, Nat.reduceEqDiff, List.getElem?_cons_zero, List.getElem?_cons_succ, Option.map_some, hc]
    exact ⟨_, _, _, rfl, ha, hb, rfl⟩
set_option maxRecDepth 20000 in
set_option maxHeartbeats 1000000 in
theorem median_calls {H : Heap} {id n q : Nat} (hid : id < H.next) (hq : q ≠ id) {ks : List KeyA} (hks : ks.length = n) {lo hi a b c : Int} (s : Int) (hlo : 0 ≤ lo) (hhi : hi ≤ n) (ha : lo ≤ a ∧ a < hi) (hb : lo ≤ b ∧ b < hi) (hc : lo ≤ c ∧ c < hi) :
    SCalls PP 102 [.slice id 0 n none, .int .i64 a, .int .i64 b, .int .i64 c, .ptr q 0, cmpF] (wr (cv H q (.int .i64 s)) id ks) fun r H' => ∃ a' s', r = .int .i64 a' ∧ (lo ≤ a' ∧ a' < hi) ∧ H' = wr (cv H q (.int .i64 s')) id ks := by
  refine SCalls.go c102 (by simp [fn102]) fun _ => ?_
  generalize hG : wr (cv H q (.int .i64 s)) id ks = G
  simp (maxSteps := 1000000) (implicitDefEqProofs := false) only [stp, if_true, if_false, Int.reduceEq, Int.reduceLT, Int.reduceLE, Int.reduceGT, Int.reduceGE, reduceCtorEq, Nat.reduceEqDiff, List.getElem?_cons_zero, List.getElem?_cons_succ, Option.map_some, fn102, enterFr, List.length, List.range, List.range.loop, List.zip, List.zipWith]
  rw [← hG]
  refine SCalls.mono (order2_calls hid hq hks s hlo hhi ha hb) ?_
  rintro r G ⟨a, b, s, rfl, ha, hb, hG⟩
  simp (maxSteps := 1000000) (implicitDefEqProofs := false) only [stp, if_true, if_false, Int.reduceEq, Int.reduceLT, Int.reduceLE, Int.reduceGT, Int.reduceGE, reduceCtorEq, Nat.reduceEqDiff, List.getElem?_cons_zero, List.getElem?_cons_succ, Option.map_some, if_true]
  rw [hG]
  refine SCalls.mono (order2_calls hid hq hks s hlo hhi hb hc) ?_
  rintro r G ⟨b, c, s, rfl, hb, hc, hG⟩
  simp (maxSteps := 1000000) (implicitDefEqProofs := false) only [stp, if_true, if_false, Int.reduceEq, Int.reduceLT, Int.reduceLE, Int.reduceGT, Int.reduceGE, reduceCtorEq, Nat.reduceEqDiff, List.getElem?_cons_zero, List.getElem?_cons_succ, Option.map_some, if_true]
  rw [hG]
  refine SCalls.mono (order2_calls hid hq hks s hlo hhi ha hb) ?_
  rintro r G ⟨a, b, s, rfl, ha, hb, hG⟩
  simp (maxSteps := 1000000) (implicitDefEqProofs := false) only [stp, if_true, if_false, Int.reduceEq, Int.reduceLT, Int.reduceLE, Int.reduceGT, Int.reduceGE, reduceCtorEq, Nat.reduceEqDiff, List.getElem?_cons_zero, List.getElem?_cons_succ, Option.map_some, if_true]
  exact ⟨_, _, rfl, hb, hG⟩
set_option maxRecDepth 20000 in
theorem medianAdj_calls {H : Heap} {id n q : Nat} (hid : id < H.next) (hq : q ≠ id) {ks : List KeyA} (hks : ks.length = n) {lo hi a : Int} (s : Int) (hlo : 0 ≤ lo) (hhi : hi ≤ n) (hn : n ≤ 64) (ha : lo + 1 ≤ a ∧ a + 1 < hi) :
    SCalls PP 101 [.slice id 0 n none, .int .i64 a, .ptr q 0, cmpF] (wr (cv H q (.int .i64 s)) id ks) fun r H' => ∃ a' s', r = .int .i64 a' ∧ (lo ≤ a' ∧ a' < hi) ∧ H' = wr (cv H q (.int .i64 s')) id ks := by
  refine SCalls.go c101 (by simp [fn101]) fun _ => ?_
  simp (maxSteps := 1000000) (implicitDefEqProofs := false) (disch := omega) only [stp, if_true, if_false, Int.reduceEq, Int.reduceLT, Int.reduceLE, Int.reduceGT, Int.reduceGE, reduceCtorEq, Nat.reduceEqDiff, List.getElem?_cons_zero, List.getElem?_cons_succ, Option.map_some, wrap_i64, fn101, enterFr, List.length, List.range, List.range.loop, List.zip, List.zipWith]
  refine SCalls.mono (median_calls hid hq hks s hlo hhi (a := a - 1) (b := a) (c := a + 1) (by omega) (by omega) (by omega)) ?_
  rintro r G ⟨b, s, rfl, hb, rfl⟩
  simp (maxSteps := 1000000) (implicitDefEqProofs := false) only [stp, if_true, if_false, Int.reduceEq, Int.reduceLT, Int.reduceLE, Int.reduceGT, Int.reduceGE, reduceCtorEq, Nat.reduceEqDiff, List.getElem?_cons_zero, List.getElem?_cons_succ, Option.map_some, if_true]
  exact ⟨_, _, rfl, hb, rfl⟩

theorem wr_new {H : Heap} {id : Nat} (hid : id < H.next) (ks : List KeyA) (o : Ob) : (wr H id ks).new o = wr (H.new o) id ks := by
  unfold wr Heap.set Heap.new
  congr 1
  funext j
  by_cases h : j = H.next
  · subst h
    have : ¬ H.next = id := by omega
    simp [this]
  · by_cases h' : j = id
    · subst h'; simp [h]
    · simp [h, h']
theorem cv_new (H : Heap) (v : V) : cv (H.new (.row false 1 [v])) H.next v = H.new (.row false 1 [v]) := by
  unfold cv Heap.set Heap.new
  congr 1
  funext j
  by_cases h : j = H.next <;> simp [h]
theorem cv_alloc {H : Heap} {id : Nat} (hid : id < H.next) (v : V) (hv : v.one = true) (ks : List KeyA) : exec (.alloc [v]) [] (wr H id ks) = some (.ptr H.next 0, wr (cv (H.new (.row false 1 [v])) H.next v) id ks) := by
  have := x_alloc (wr H id ks) [v] (by simp [hv])
  rw [wr_new hid, wr_next] at this
  rw [cv_new]; exact this
theorem cv_ext {H : Heap} (v u : V) : Ext H (cv (H.new (.row false 1 [v])) H.next u) := ((Ext.refl H).new _).set (Nat.le_refl _) _
theorem cv_wf {H : Heap} (hw : WF H) (v u : V) : WF (cv (H.new (.row false 1 [v])) H.next u) := fun j o e => by
  show j < H.next + 1
  unfold cv at e
  rw [Heap.set_get] at e
  split at e
  · omega
  · exact hw.new _ j o e

set_option maxRecDepth 20000 in
set_option maxHeartbeats 1000000 in
theorem pivot_calls {H : Heap} (hw : WF H) {id n : Nat} (hid : id < H.next) (hn : n ≤ 64) {ks : List KeyA} (hks : ks.length = n) {a b : Int} (ha : 0 ≤ a) (hab : a + 8 ≤ b) (hb : b ≤ n) :
    SCalls PP 78 [.slice id 0 n none, .int .i64 a, .int .i64 b, cmpF] (wr H id ks) fun r H' => ∃ (p h : Int) (H2 : Heap), r = .tup [.int .i64 p, .int .i64 h] ∧ (a ≤ p ∧ p < b) ∧ Ext H H2 ∧ WF H2 ∧ H' = wr H2 id ks := by
  refine SCalls.go c78 (by simp [fn78]) fun _ => ?_
  have hal := cv_alloc hid (.int .i64 0) rfl ks
  have hq : H.next ≠ id := by omega
  have hid1 : id < (H.new (.row false 1 [.int .i64 0])).next := by rw [Heap.new_next]; omega
  have m1 : ∀ x, IntKind.i64.wrap (x * 1) = IntKind.i64.wrap x := fun x => by rw [Int.mul_one]
  have hg8 : b - a ≥ 8 := by omega
  simp (maxSteps := 1000000) (implicitDefEqProofs := false) (disch := omega) only [stp, if_true, if_false, Int.reduceEq, Int.reduceLT, Int.reduceLE, Int.reduceGT, Int.reduceGE, reduceCtorEq, Nat.reduceEqDiff, List.getElem?_cons_zero, List.getElem?_cons_succ, Option.map_some, wrap_i64, fn78, enterFr, List.length, List.range, List.range.loop, List.zip, List.zipWith, x_quo, x_mul, hal, hg8]
  have hx2 : ∀ s, Ext H (cv (H.new (.row false 1 [.int .i64 0])) H.next (.int .i64 s)) := fun s => cv_ext _ _
  have hw2 : ∀ s, WF (cv (H.new (.row false 1 [.int .i64 0])) H.next (.int .i64 s)) := fun s => cv_wf hw _ _
  generalize H.new (.row false 1 [.int .i64 0]) = H1 at *
  by_cases h50 : b - a ≥ 50
  · simp (maxSteps := 1000000) (implicitDefEqProofs := false) (disch := omega) only [stp, if_true, if_false, Int.reduceEq, Int.reduceLT, Int.reduceLE, Int.reduceGT, Int.reduceGE, reduceCtorEq, Nat.reduceEqDiff, List.getElem?_cons_zero, List.getElem?_cons_succ, Option.map_some, wrap_i64, h50]
    refine SCalls.mono (medianAdj_calls (H := H1) hid1 hq hks 0 ha hb hn (by omega)) ?_
    rintro r G ⟨i, s1, rfl, hi, rfl⟩
    simp (maxSteps := 1000000) (implicitDefEqProofs := false) only [stp, if_true, if_false, Int.reduceEq, Int.reduceLT, Int.reduceLE, Int.reduceGT, Int.reduceGE, reduceCtorEq, Nat.reduceEqDiff, List.getElem?_cons_zero, List.getElem?_cons_succ, Option.map_some, if_true]
    refine SCalls.mono (medianAdj_calls (H := H1) hid1 hq hks s1 ha hb hn (by omega)) ?_
    rintro r G ⟨j, s2, rfl, hj, rfl⟩
    simp (maxSteps := 1000000) (implicitDefEqProofs := false) only [stp, if_true, if_false, Int.reduceEq, Int.reduceLT, Int.reduceLE, Int.reduceGT, Int.reduceGE, reduceCtorEq, Nat.reduceEqDiff, List.getElem?_cons_zero, List.getElem?_cons_succ, Option.map_some, if_true]
    refine SCalls.mono (medianAdj_calls (H := H1) hid1 hq hks s2 ha hb hn (by omega)) ?_
    rintro r G ⟨k, s3, rfl, hk, rfl⟩
    simp (maxSteps := 1000000) (implicitDefEqProofs := false) only [stp, if_true, if_false, Int.reduceEq, Int.reduceLT, Int.reduceLE, Int.reduceGT, Int.reduceGE, reduceCtorEq, Nat.reduceEqDiff, List.getElem?_cons_zero, List.getElem?_cons_succ, Option.map_some, if_true]
    refine SCalls.mono (median_calls (H := H1) hid1 hq hks s3 ha hb hi hj hk) ?_
    rintro r G ⟨j, s4, rfl, hj, rfl⟩
    by_cases e0 : s4 = 0
    · simp (maxSteps := 1000000) (implicitDefEqProofs := false) only [stp, if_true, if_false, Int.reduceEq, Int.reduceLT, Int.reduceLE, Int.reduceGT, Int.reduceGE, reduceCtorEq, Nat.reduceEqDiff, List.getElem?_cons_zero, List.getElem?_cons_succ, Option.map_some, e0, cv_ld hq]
      exact ⟨_, _, _, rfl, hj, hx2 s4, hw2 s4, by rw [e0]⟩
    by_cases e1 : s4 = 12
    · simp (maxSteps := 1000000) (implicitDefEqProofs := false) only [stp, if_true, if_false, Int.reduceEq, Int.reduceLT, Int.reduceLE, Int.reduceGT, Int.reduceGE, reduceCtorEq, Nat.reduceEqDiff, List.getElem?_cons_zero, List.getElem?_cons_succ, Option.map_some, e0, e1, cv_ld hq]
      exact ⟨_, _, _, rfl, hj, hx2 s4, hw2 s4, by rw [e1]⟩
    simp (maxSteps := 1000000) (implicitDefEqProofs := false) only [stp, if_true, if_false, Int.reduceEq, Int.reduceLT, Int.reduceLE, Int.reduceGT, Int.reduceGE, reduceCtorEq, Nat.reduceEqDiff, List.getElem?_cons_zero, List.getElem?_cons_succ, Option.map_some, e0, e1, cv_ld hq]
    exact ⟨_, _, _, rfl, hj, hx2 s4, hw2 s4, rfl⟩
  · simp (maxSteps := 1000000) (implicitDefEqProofs := false) (disch := omega) only [stp, if_true, if_false, Int.reduceEq, Int.reduceLT, Int.reduceLE, Int.reduceGT, Int.reduceGE, reduceCtorEq, Nat.reduceEqDiff, List.getElem?_cons_zero, List.getElem?_cons_succ, Option.map_some, wrap_i64, h50]
    refine SCalls.mono (median_calls (H := H1) hid1 hq hks 0 (lo := a) (hi := b) ha hb (by omega) (by omega) (by omega)) ?_
    rintro r G ⟨j, s4, rfl, hj, rfl⟩
    by_cases e0 : s4 = 0
    · simp (maxSteps := 1000000) (implicitDefEqProofs := false) only [stp, if_true, if_false, Int.reduceEq, Int.reduceLT, Int.reduceLE, Int.reduceGT, Int.reduceGE, reduceCtorEq, Nat.reduceEqDiff, List.getElem?_cons_zero, List.getElem?_cons_succ, Option.map_some, e0, cv_ld hq]
      exact ⟨_, _, _, rfl, hj, hx2 s4, hw2 s4, by rw [e0]⟩
    by_cases e1 : s4 = 12
    · simp (maxSteps := 1000000) (implicitDefEqProofs := false) only [stp, if_true, if_false, Int.reduceEq, Int.reduceLT, Int.reduceLE, Int.reduceGT, Int.reduceGE, reduceCtorEq, Nat.reduceEqDiff, List.getElem?_cons_zero, List.getElem?_cons_succ, Option.map_some, e0, e1, cv_ld hq]
      exact ⟨_, _, _, rfl, hj, hx2 s4, hw2 s4, by rw [e1]⟩
    simp (maxSteps := 1000000) (implicitDefEqProofs := false) only [stp, if_true, if_false, Int.reduceEq, Int.reduceLT, Int.reduceLE, Int.reduceGT, Int.reduceGE, reduceCtorEq, Nat.reduceEqDiff, List.getElem?_cons_zero, List.getElem?_cons_succ, Option.map_some, e0, e1, cv_ld hq]
    exact ⟨_, _, _, rfl, hj, hx2 s4, hw2 s4, rfl⟩
end Go.Proofs.YtbadbkdpnbacnaaDoor.Fw

/- slices.SortFunc at keys: the turned range, the heap, the broken patterns. No condition. -/
namespace Go.Proofs.YtbadbkdpnbacnaaDoor.Fw
open Go
set_option linter.unusedSimpArgs false
set_option linter.unusedVariables false

set_option maxRecDepth 20000 in
set_option maxHeartbeats 1000000 in
theorem reverse_calls {H : Heap} (hw : WF H) {id n : Nat} (hid : id < H.next) (hn : n ≤ 64) {ks : List KeyA} (hks : ks.length = n) {a b : Int} (ha : 0 ≤ a) (hab : a ≤ b) (hb : b ≤ n) :
    SCalls PP 79 [.slice id 0 n none, .int .i64 a, .int .i64 b, cmpF] (wr H id ks) fun _ H' => Left H id n H' := by
  refine SCalls.go c79 (by simp [fn79]) fun hz => ?_
  clear hz
  simp (maxSteps := 1000000) (implicitDefEqProofs := false) (disch := omega) only [stp, if_true, if_false, Int.reduceEq, Int.reduceLT, Int.reduceLE, Int.reduceGT, Int.reduceGE, reduceCtorEq, Nat.reduceEqDiff, List.getElem?_cons_zero, List.getElem?_cons_succ, Option.map_some, wrap_i64, fn79, enterFr, List.length, List.range, List.range.loop, List.zip, List.zipWith]
  refine wp_loopI (fun m fr G => ∃ (i j : Int) (ks : List KeyA), m = (j - i + 1).toNat ∧ a ≤ i ∧ i ≤ j + 1 ∧ j < b ∧ ks.length = n ∧ G = wr H id ks ∧ FrSub [(8, .int .i64 i), (9, .int .i64 j), (0, .slice id 0 n none)] fr) (b - 1 - a + 1).toNat
    ⟨a, b - 1, ks, rfl, by omega, by omega, by omega, hks, rfl, .cons rfl (.cons rfl (.cons rfl .nil))⟩ ?_
  clear hks ks
  rintro m fr G ⟨i, j, ks, rfl, hi, hij, hj, hks, rfl, hsub⟩
  refine ⟨_, hsub, ?_⟩
  by_cases hlt : i < j
  · simp (maxSteps := 1000000) (implicitDefEqProofs := false) (disch := (try simp only [List.length_set]); omega) only [stp, if_true, if_false, Int.reduceEq, Int.reduceLT, Int.reduceLE, Int.reduceGT, Int.reduceGE, reduceCtorEq, Nat.reduceEqDiff, List.getElem?_cons_zero, List.getElem?_cons_succ, Option.map_some, wrap_i64, hlt, w_ia, w_lda hid, w_st hid]
    exact ⟨(j - 1 - (i + 1) + 1).toNat, by omega, i + 1, j - 1, _, rfl, by omega, by omega, by omega, by simp [hks], rfl, .cons rfl (.cons rfl (.cons rfl .nil))⟩
  · simp (maxSteps := 1000000) (implicitDefEqProofs := false) only [stp, if_true, if_false, Int.reduceEq, Int.reduceLT, Int.reduceLE, Int.reduceGT, Int.reduceGE, reduceCtorEq, Nat.reduceEqDiff, List.getElem?_cons_zero, List.getElem?_cons_succ, Option.map_some, hlt]
    exact Left.mk hw hks

set_option maxRecDepth 20000 in
set_option maxHeartbeats 2000000 in
theorem sift_calls {H : Heap} (hw : WF H) {id n : Nat} (hid : id < H.next) (hn : n ≤ 64) {ks : List KeyA} (hks : ks.length = n) {lo hi first : Int} (h0 : 0 ≤ lo) (h1 : lo ≤ 64) (h2 : 0 ≤ first) (h3 : first + hi ≤ n) (h4 : first ≤ n) :
    SCalls PP 98 [.slice id 0 n none, .int .i64 lo, .int .i64 hi, .int .i64 first, cmpF] (wr H id ks) fun _ H' => Left H id n H' := by
  refine SCalls.go c98 (by simp [fn98]) fun hz => ?_
  clear hz
  simp (maxSteps := 1000000) (implicitDefEqProofs := false) (disch := omega) only [stp, if_true, if_false, Int.reduceEq, Int.reduceLT, Int.reduceLE, Int.reduceGT, Int.reduceGE, reduceCtorEq, Nat.reduceEqDiff, List.getElem?_cons_zero, List.getElem?_cons_succ, Option.map_some, wrap_i64, fn98, enterFr, List.length, List.range, List.range.loop, List.zip, List.zipWith]
  refine wp_loopI (fun m fr G => ∃ (r : Int) (ks : List KeyA), m = (64 - r).toNat ∧ 0 ≤ r ∧ r ≤ 64 ∧ ks.length = n ∧ G = wr H id ks ∧ FrSub [(10, .int .i64 r), (0, .slice id 0 n none), (2, .int .i64 hi), (3, .int .i64 first), (4, cmpF)] fr) (64 - lo).toNat
    ⟨lo, ks, rfl, by omega, by omega, hks, rfl, .cons rfl (.cons rfl (.cons rfl (.cons rfl (.cons rfl .nil))))⟩ ?_
  clear hks ks
  rintro m fr G ⟨r, ks, rfl, hr0, hr1, hks, rfl, hsub⟩
  refine ⟨_, hsub, ?_⟩
  by_cases hge : 2 * r + 1 ≥ hi
  · simp (maxSteps := 1000000) (implicitDefEqProofs := false) (disch := omega) only [stp, if_true, if_false, Int.reduceEq, Int.reduceLT, Int.reduceLE, Int.reduceGT, Int.reduceGE, reduceCtorEq, Nat.reduceEqDiff, List.getElem?_cons_zero, List.getElem?_cons_succ, Option.map_some, wrap_i64, x_mul, hge]
    exact Left.mk hw hks
  have tail : ∀ ch : Int, r < ch → ch < hi → ∀ c : Int, ∀ ks' : List KeyA, ks'.length = n → ∀ fr2, FrSub [(10, .int .i64 ch), (0, .slice id 0 n none), (2, .int .i64 hi), (3, .int .i64 first), (4, cmpF)] fr2 →
      ∃ k', k' < (64 - r).toNat ∧ ∃ (r : Int) (ks : List KeyA), k' = (64 - r).toNat ∧ 0 ≤ r ∧ r ≤ 64 ∧ ks.length = n ∧ wr H id ks' = wr H id ks ∧ FrSub [(10, .int .i64 r), (0, .slice id 0 n none), (2, .int .i64 hi), (3, .int .i64 first), (4, cmpF)] fr2 :=
    fun ch q1 q2 c ks' q3 fr2 q4 => ⟨(64 - ch).toNat, by omega, ch, ks', rfl, by omega, by omega, q3, rfl, q4⟩
  by_cases hlt : 2 * r + 1 + 1 < hi
  · simp (maxSteps := 1000000) (implicitDefEqProofs := false) (disch := omega) only [stp, if_true, if_false, Int.reduceEq, Int.reduceLT, Int.reduceLE, Int.reduceGT, Int.reduceGE, reduceCtorEq, Nat.reduceEqDiff, List.getElem?_cons_zero, List.getElem?_cons_succ, Option.map_some, wrap_i64, x_mul, hge, hlt, w_ia, w_lda hid]
    refine cmp_ok _ _ _ _ fun c => ?_
    by_cases hc : c < 0
    · simp (maxSteps := 1000000) (implicitDefEqProofs := false) (disch := omega) only [stp, if_true, if_false, Int.reduceEq, Int.reduceLT, Int.reduceLE, Int.reduceGT, Int.reduceGE, reduceCtorEq, Nat.reduceEqDiff, List.getElem?_cons_zero, List.getElem?_cons_succ, Option.map_some, wrap_i64, hc, w_ia, w_lda hid]
      refine cmp_ok _ _ _ _ fun d => ?_
      by_cases hd : d < 0
      · simp (maxSteps := 1000000) (implicitDefEqProofs := false) (disch := (try simp only [List.length_set]); omega) only [stp, if_true, if_false, Int.reduceEq, Int.reduceLT, Int.reduceLE, Int.reduceGT, Int.reduceGE, reduceCtorEq, Nat.reduceEqDiff, List.getElem?_cons_zero, List.getElem?_cons_succ, Option.map_some, wrap_i64, hd, w_ia, w_lda hid, w_st hid]
        exact tail (2 * r + 1 + 1) (by omega) (by omega) 0 _ (by simp [hks]) _ (.cons rfl (.cons rfl (.cons rfl (.cons rfl (.cons rfl .nil)))))
      · simp (maxSteps := 1000000) (implicitDefEqProofs := false) only [stp, if_true, if_false, Int.reduceEq, Int.reduceLT, Int.reduceLE, Int.reduceGT, Int.reduceGE, reduceCtorEq, Nat.reduceEqDiff, List.getElem?_cons_zero, List.getElem?_cons_succ, Option.map_some, hd]
        exact Left.mk hw hks
    · simp (maxSteps := 1000000) (implicitDefEqProofs := false) (disch := omega) only [stp, if_true, if_false, Int.reduceEq, Int.reduceLT, Int.reduceLE, Int.reduceGT, Int.reduceGE, reduceCtorEq, Nat.reduceEqDiff, List.getElem?_cons_zero, List.getElem?_cons_succ, Option.map_some, wrap_i64, hc, w_ia, w_lda hid]
      refine cmp_ok _ _ _ _ fun d => ?_
      by_cases hd : d < 0
      · simp (maxSteps := 1000000) (implicitDefEqProofs := false) (disch := (try simp only [List.length_set]); omega) only [stp, if_true, if_false, Int.reduceEq, Int.reduceLT, Int.reduceLE, Int.reduceGT, Int.reduceGE, reduceCtorEq, Nat.reduceEqDiff, List.getElem?_cons_zero, List.getElem?_cons_succ, Option.map_some, wrap_i64, hd, w_ia, w_lda hid, w_st hid]
        exact tail (2 * r + 1) (by omega) (by omega) 0 _ (by simp [hks]) _ (.cons rfl (.cons rfl (.cons rfl (.cons rfl (.cons rfl .nil)))))
      · simp (maxSteps := 1000000) (implicitDefEqProofs := false) only [stp, if_true, if_false, Int.reduceEq, Int.reduceLT, Int.reduceLE, Int.reduceGT, Int.reduceGE, reduceCtorEq, Nat.reduceEqDiff, List.getElem?_cons_zero, List.getElem?_cons_succ, Option.map_some, hd]
        exact Left.mk hw hks
  · simp (maxSteps := 1000000) (implicitDefEqProofs := false) (disch := omega) only [stp, if_true, if_false, Int.reduceEq, Int.reduceLT, Int.reduceLE, Int.reduceGT, Int.reduceGE, reduceCtorEq, Nat.reduceEqDiff, List.getElem?_cons_zero, List.getElem?_cons_succ, Option.map_some, wrap_i64, x_mul, hge, hlt, w_ia, w_lda hid]
    refine cmp_ok _ _ _ _ fun d => ?_
    by_cases hd : d < 0
    · simp (maxSteps := 1000000) (implicitDefEqProofs := false) (disch := (try simp only [List.length_set]); omega) only [stp, if_true, if_false, Int.reduceEq, Int.reduceLT, Int.reduceLE, Int.reduceGT, Int.reduceGE, reduceCtorEq, Nat.reduceEqDiff, List.getElem?_cons_zero, List.getElem?_cons_succ, Option.map_some, wrap_i64, hd, w_ia, w_lda hid, w_st hid]
      exact tail (2 * r + 1) (by omega) (by omega) 0 _ (by simp [hks]) _ (.cons rfl (.cons rfl (.cons rfl (.cons rfl (.cons rfl .nil)))))
    · simp (maxSteps := 1000000) (implicitDefEqProofs := false) only [stp, if_true, if_false, Int.reduceEq, Int.reduceLT, Int.reduceLE, Int.reduceGT, Int.reduceGE, reduceCtorEq, Nat.reduceEqDiff, List.getElem?_cons_zero, List.getElem?_cons_succ, Option.map_some, hd]
      exact Left.mk hw hks

theorem Left.out {H G : Heap} {id n : Nat} (h : Left H id n G) : ∃ H2 ks, Ext H H2 ∧ WF H2 ∧ ks.length = n ∧ G = wr H2 id ks := h
theorem Left.hid {H H2 : Heap} {id : Nat} (hid : id < H.next) (hx : Ext H H2) : id < H2.next := Nat.lt_of_lt_of_le hid hx.next

set_option maxRecDepth 20000 in
set_option maxHeartbeats 2000000 in
theorem heap_calls {H : Heap} (hw : WF H) {id n : Nat} (hid : id < H.next) (hn : n ≤ 64) {ks : List KeyA} (hks : ks.length = n) {a b : Int} (ha : 0 ≤ a) (hab : a < b) (hb : b ≤ n) :
    SCalls PP 76 [.slice id 0 n none, .int .i64 a, .int .i64 b, cmpF] (wr H id ks) fun _ H' => Left H id n H' := by
  refine SCalls.go c76 (by simp [fn76]) fun hz => ?_
  clear hz
  simp (maxSteps := 1000000) (implicitDefEqProofs := false) (disch := omega) only [stp, if_true, if_false, Int.reduceEq, Int.reduceLT, Int.reduceLE, Int.reduceGT, Int.reduceGE, reduceCtorEq, Nat.reduceEqDiff, List.getElem?_cons_zero, List.getElem?_cons_succ, Option.map_some, wrap_i64, fn76, enterFr, List.length, List.range, List.range.loop, List.zip, List.zipWith, x_quo]
  refine wp_loopI (fun m fr G => ∃ (i : Int), m = (i + 1).toNat ∧ -1 ≤ i ∧ i ≤ 64 ∧ Left H id n G ∧ FrSub [(11, .int .i64 i), (8, .int .i64 a), (9, .int .i64 0), (10, .int .i64 (b - a)), (0, .slice id 0 n none), (3, cmpF)] fr) ((b - a - 1) / 2 + 1).toNat
    ⟨(b - a - 1) / 2, rfl, by omega, by omega, Left.mk hw hks, .cons rfl (.cons rfl (.cons rfl (.cons rfl (.cons rfl (.cons rfl .nil)))))⟩ ?_
  clear hks ks
  rintro m fr G ⟨i, rfl, hi0, hi1, hL, hsub⟩
  refine ⟨_, hsub, ?_⟩
  obtain ⟨H2, ks, hx, hw2, hks, rfl⟩ := hL.out
  have hid2 := Left.hid hid hx
  by_cases hge : i ≥ 0
  · simp (maxSteps := 1000000) (implicitDefEqProofs := false) (disch := omega) only [stp, if_true, if_false, Int.reduceEq, Int.reduceLT, Int.reduceLE, Int.reduceGT, Int.reduceGE, reduceCtorEq, Nat.reduceEqDiff, List.getElem?_cons_zero, List.getElem?_cons_succ, Option.map_some, wrap_i64, hge]
    refine SCalls.mono (sift_calls hw2 hid2 hn hks hge (by omega) ha (by omega) (by omega)) ?_
    rintro r G hL2
    simp (maxSteps := 1000000) (implicitDefEqProofs := false) (disch := omega) only [stp, if_true, if_false, Int.reduceEq, Int.reduceLT, Int.reduceLE, Int.reduceGT, Int.reduceGE, reduceCtorEq, Nat.reduceEqDiff, List.getElem?_cons_zero, List.getElem?_cons_succ, Option.map_some, wrap_i64, hge]
    exact ⟨(i - 1 + 1).toNat, by omega, i - 1, rfl, by omega, by omega, hL2.of hx, .cons rfl (.cons rfl (.cons rfl (.cons rfl (.cons rfl (.cons rfl .nil)))))⟩
  simp (maxSteps := 1000000) (implicitDefEqProofs := false) (disch := omega) only [stp, if_true, if_false, Int.reduceEq, Int.reduceLT, Int.reduceLE, Int.reduceGT, Int.reduceGE, reduceCtorEq, Nat.reduceEqDiff, List.getElem?_cons_zero, List.getElem?_cons_succ, Option.map_some, wrap_i64, hge]
  refine wp_loopI (fun m fr G => ∃ (i : Int), m = (i + 1).toNat ∧ -1 ≤ i ∧ i < b - a ∧ Left H id n G ∧ FrSub [(12, .int .i64 i), (8, .int .i64 a), (9, .int .i64 0), (10, .int .i64 (b - a)), (0, .slice id 0 n none), (3, cmpF)] fr) (b - a - 1 + 1).toNat
    ⟨b - a - 1, rfl, by omega, by omega, hL, .cons rfl (.cons rfl (.cons rfl (.cons rfl (.cons rfl (.cons rfl .nil)))))⟩ ?_
  clear hks ks hx hw2 hid2 hL H2 hsub hi0 hi1 hge
  rintro m fr G ⟨i, rfl, hi0, hi1, hL, hsub⟩
  refine ⟨_, hsub, ?_⟩
  obtain ⟨H2, ks, hx, hw2, hks, rfl⟩ := hL.out
  have hid2 := Left.hid hid hx
  by_cases hge : i ≥ 0
  · simp (maxSteps := 1000000) (implicitDefEqProofs := false) (disch := (try simp only [List.length_set]); omega) only [stp, if_true, if_false, Int.reduceEq, Int.reduceLT, Int.reduceLE, Int.reduceGT, Int.reduceGE, reduceCtorEq, Nat.reduceEqDiff, List.getElem?_cons_zero, List.getElem?_cons_succ, Option.map_some, wrap_i64, hge, w_ia, w_lda hid2, w_st hid2]
    refine SCalls.mono (sift_calls (hi := i) (first := a) hw2 hid2 hn (by simp [hks]) (Int.le_refl 0) (by omega) ha (by omega) (by omega)) ?_
    rintro r G hL2
    simp (maxSteps := 1000000) (implicitDefEqProofs := false) (disch := omega) only [stp, if_true, if_false, Int.reduceEq, Int.reduceLT, Int.reduceLE, Int.reduceGT, Int.reduceGE, reduceCtorEq, Nat.reduceEqDiff, List.getElem?_cons_zero, List.getElem?_cons_succ, Option.map_some, wrap_i64, hge]
    exact ⟨(i - 1 + 1).toNat, by omega, i - 1, rfl, by omega, by omega, hL2.of hx, .cons rfl (.cons rfl (.cons rfl (.cons rfl (.cons rfl (.cons rfl .nil)))))⟩
  · simp (maxSteps := 1000000) (implicitDefEqProofs := false) only [stp, if_true, if_false, Int.reduceEq, Int.reduceLT, Int.reduceLE, Int.reduceGT, Int.reduceGE, reduceCtorEq, Nat.reduceEqDiff, List.getElem?_cons_zero, List.getElem?_cons_succ, Option.map_some, hge]
    exact hL

/-! ### The broken patterns -/
theorem x_xor64 (a b : Int) (H : Heap) : ∃ c : Int, exec (.ibin .xor) [.int .u64 a, .int .u64 b] H = some (.int .u64 c, H) := ⟨_, rfl⟩
def xor64 (a b : Int) : Int := IntKind.u64.wrap (BitVec.ofInt 64 a ^^^ BitVec.ofInt 64 b).toNat
theorem x_xor (a b : Int) (H : Heap) : exec (.ibin .xor) [.int .u64 a, .int .u64 b] H = some (.int .u64 (xor64 a b), H) := rfl
theorem x_subu (a b : Int) (H : Heap) : exec (.ibin .sub) [.int .u64 a, .int .u64 b] H = some (.int .u64 (IntKind.u64.wrap (a - b)), H) := rfl
theorem x_shr7 (a : Int) (H : Heap) : exec (.ibin .shr) [.int .u64 a, .int .u64 7] H = some (.int .u64 (a.fdiv 128), H) := rfl
theorem wrap_u64 {n : Int} (h : 0 ≤ n) (k : n < 18446744073709551616) : IntKind.u64.wrap n = n := by
  simp only [IntKind.wrap, IntKind.bits, IntKind.signed, Bool.false_and]
  simp
  omega
theorem and64_le {a b : Int} (h0 : 0 ≤ b) (h1 : b < 18446744073709551616) : 0 ≤ and64 a b ∧ and64 a b ≤ b := by
  have e : ((BitVec.ofInt 64 b).toNat : Int) = b := by
    rw [BitVec.toNat_ofInt]
    omega
  have h2 : (BitVec.ofInt 64 a &&& BitVec.ofInt 64 b).toNat ≤ (BitVec.ofInt 64 b).toNat := by rw [BitVec.toNat_and]; exact Nat.and_le_right
  unfold and64
  rw [wrap_u64 (by omega) (by omega)]
  omega

set_option maxRecDepth 20000 in
set_option maxHeartbeats 2000000 in
theorem xorshift_calls {H : Heap} {id q : Nat} (hq : q ≠ id) {ks : List KeyA} (s : Int) :
    SCalls PP 100 [.ptr q 0] (wr (cv H q (.int .u64 s)) id ks) fun r H' => ∃ s', r = .int .u64 s' ∧ H' = wr (cv H q (.int .u64 s')) id ks := by
  refine SCalls.go c100 (by simp [fn100]) fun hz => ?_
  clear hz
  have st : ∀ s s', exec (.st 1) [.ptr q 0, .int .u64 s'] (wr (cv H q (.int .u64 s)) id ks) = some (.undef, wr (cv H q (.int .u64 s')) id ks) := fun s s' => cv_st hq _ _ rfl rfl ks
  have s13 : ∀ a G, exec (.ibin .shl) [.int .u64 a, .int .u64 13] G = some (.int .u64 (shl64 a 13), G) := fun a G => x_shl a 13 (by decide) G
  have s17 : ∀ a G, exec (.ibin .shl) [.int .u64 a, .int .u64 17] G = some (.int .u64 (shl64 a 17), G) := fun a G => x_shl a 17 (by decide) G
  simp (maxSteps := 1000000) (implicitDefEqProofs := false) only [stp, if_true, if_false, Int.reduceEq, Int.reduceLT, Int.reduceLE, Int.reduceGT, Int.reduceGE, reduceCtorEq, Nat.reduceEqDiff, List.getElem?_cons_zero, List.getElem?_cons_succ, Option.map_some, fn100, enterFr, List.length, List.range, List.range.loop, List.zip, List.zipWith, cv_ld hq, st, s13, s17, x_xor, x_shr7]
  exact ⟨_, rfl, rfl⟩

def pw (k : Nat) : Int := if k = 0 then 1 else 2 ^ (Nat.log2 k + 1)
def tblP : List (Nat × AFn) := [(99, fn99), (55, fn55), (84, fn84)]
theorem tblP_ok : ∀ p ∈ tblP, compFn Go.Proofs.Tryd.prog p.1 = some p.2 := tbl_cons c99 (tbl_cons c55 (tbl_cons c84 tbl_nil))
def isU (m : Int) : Option V → Bool
  | some (.int .u64 k) => decide (k = m)
  | _ => false
theorem isU_eq {m : Int} {o : Option V} (h : isU m o = true) : o = some (.int .u64 m) := by
  unfold isU at h
  split at h
  · simp at h; rw [h]
  · cases h
theorem pw_fin : (List.range 65).all (fun k => isU (pw k) ((runFn (tblGet tblP) 10 5 99 [.int .i64 k] H0).map (·.1))) = true := by kernel_rfl
theorem pw_le : ∀ k : Fin 65, 1 ≤ pw k.val ∧ (k.val = 0 ∨ pw k.val ≤ 2 * k.val) ∧ pw k.val ≤ 128 := by decide +kernel
theorem next_calls {k : Int} (h0 : 0 ≤ k) (h1 : k ≤ 64) (H : Heap) : SCalls PP 99 [.int .i64 k] H fun r H' => H' = H ∧ r = .int .u64 (pw k.toNat) := by
  have := List.all_eq_true.1 pw_fin k.toNat (by simp; omega)
  have e := isU_eq this
  rw [show ((k.toNat : Nat) : Int) = k by omega] at e
  exact SCalls.worked (fun f af => tblGet_ok tblP_ok) rfl rfl e H

set_option maxRecDepth 20000 in
set_option maxHeartbeats 2000000 in
theorem break_calls {H : Heap} (hw : WF H) {id n : Nat} (hid : id < H.next) (hn : n ≤ 64) {ks : List KeyA} (hks : ks.length = n) {a b : Int} (ha : 0 ≤ a) (hab : a + 8 ≤ b) (hb : b ≤ n) :
    SCalls PP 77 [.slice id 0 n none, .int .i64 a, .int .i64 b, cmpF] (wr H id ks) fun _ H' => Left H id n H' := by
  refine SCalls.go c77 (by simp [fn77]) fun hz => ?_
  clear hz
  have hal := cv_alloc hid (.int .u64 0) rfl ks
  have hq : H.next ≠ id := by omega
  have hid1 : id < (H.new (.row false 1 [.int .u64 0])).next := by rw [Heap.new_next]; omega
  have hst : ∀ s s' ks, exec (.st 1) [.ptr H.next 0, .int .u64 s'] (wr (cv (H.new (.row false 1 [.int .u64 0])) H.next (.int .u64 s)) id ks) = some (.undef, wr (cv (H.new (.row false 1 [.int .u64 0])) H.next (.int .u64 s')) id ks) := fun s s' ks => cv_st hq _ _ rfl rfl ks
  have hx2 : ∀ s, Ext H (cv (H.new (.row false 1 [.int .u64 0])) H.next (.int .u64 s)) := fun s => cv_ext _ _
  have hw2 : ∀ s, WF (cv (H.new (.row false 1 [.int .u64 0])) H.next (.int .u64 s)) := fun s => cv_wf hw _ _
  have hg8 : b - a ≥ 8 := by omega
  generalize H.new (.row false 1 [.int .u64 0]) = H1 at *
  simp (maxSteps := 1000000) (implicitDefEqProofs := false) (disch := omega) only [stp, if_true, if_false, Int.reduceEq, Int.reduceLT, Int.reduceLE, Int.reduceGT, Int.reduceGE, reduceCtorEq, Nat.reduceEqDiff, List.getElem?_cons_zero, List.getElem?_cons_succ, Option.map_some, wrap_i64, fn77, enterFr, List.length, List.range, List.range.loop, List.zip, List.zipWith, hg8, hal, x_toInt, hst]
  generalize IntKind.u64.wrap (b - a) = s0
  refine SCalls.mono (next_calls (k := b - a) (by omega) (by omega) _) ?_
  rintro r G ⟨rfl, rfl⟩
  simp (maxSteps := 1000000) (implicitDefEqProofs := false) (disch := omega) only [stp, if_true, if_false, Int.reduceEq, Int.reduceLT, Int.reduceLE, Int.reduceGT, Int.reduceGE, reduceCtorEq, Nat.reduceEqDiff, List.getElem?_cons_zero, List.getElem?_cons_succ, Option.map_some, wrap_i64, x_quo, x_mul]
  obtain ⟨p0, p1, p2⟩ := pw_le ⟨(b - a).toNat, by omega⟩
  simp only at p0 p1 p2
  generalize pw (b - a).toNat = pm at *
  refine wp_loopI (fun m fr G => ∃ (i s : Int) (ks : List KeyA), m = (a + (b - a) / 4 * 2 + 2 - i).toNat ∧ a + (b - a) / 4 * 2 - 1 ≤ i ∧ ks.length = n ∧ G = wr (cv H1 H.next (.int .u64 s)) id ks ∧ i ≤ 100 ∧
    FrSub [(11, .int .i64 i), (10, .int .u64 pm), (9, .ptr H.next 0), (8, .int .i64 (b - a)), (0, .slice id 0 n none), (1, .int .i64 a)] fr) (a + (b - a) / 4 * 2 + 2 - (a + (b - a) / 4 * 2 - 1)).toNat
    ⟨_, s0, ks, rfl, by omega, hks, rfl, by omega, .cons rfl (.cons rfl (.cons rfl (.cons rfl (.cons rfl (.cons rfl .nil)))))⟩ ?_
  clear hks ks hal
  rintro m fr G ⟨i, s, ks, rfl, hi, hks, rfl, hi2, hsub⟩
  refine ⟨_, hsub, ?_⟩
  by_cases hle : i ≤ a + (b - a) / 4 * 2 + 1
  rotate_left
  · simp (maxSteps := 1000000) (implicitDefEqProofs := false) (disch := omega) only [stp, if_true, if_false, Int.reduceEq, Int.reduceLT, Int.reduceLE, Int.reduceGT, Int.reduceGE, reduceCtorEq, Nat.reduceEqDiff, List.getElem?_cons_zero, List.getElem?_cons_succ, Option.map_some, wrap_i64, x_quo, x_mul, hle]
    exact ⟨_, _, hx2 s, hw2 s, hks, rfl⟩
  simp (maxSteps := 1000000) (implicitDefEqProofs := false) (disch := omega) only [stp, if_true, if_false, Int.reduceEq, Int.reduceLT, Int.reduceLE, Int.reduceGT, Int.reduceGE, reduceCtorEq, Nat.reduceEqDiff, List.getElem?_cons_zero, List.getElem?_cons_succ, Option.map_some, wrap_i64, x_quo, x_mul, hle]
  refine SCalls.mono (xorshift_calls hq s) ?_
  rintro r G ⟨s', rfl, rfl⟩
  have hid2 : id < (cv H1 H.next (.int .u64 s')).next := hid1
  have hwp : IntKind.u64.wrap (pm - 1) = pm - 1 := wrap_u64 (by omega) (by omega)
  obtain ⟨q0, q1⟩ := and64_le (a := s') (b := pm - 1) (by omega) (by omega)
  generalize hA : and64 s' (pm - 1) = A at *
  by_cases hge : A ≥ b - a
  · simp (maxSteps := 1000000) (implicitDefEqProofs := false) (disch := (try simp only [List.length_set]); omega) only [stp, if_true, if_false, Int.reduceEq, Int.reduceLT, Int.reduceLE, Int.reduceGT, Int.reduceGE, reduceCtorEq, Nat.reduceEqDiff, List.getElem?_cons_zero, List.getElem?_cons_succ, Option.map_some, wrap_i64, x_subu, hwp, x_and, hA, x_toInt, hge, w_ia, w_lda hid2, w_st hid2]
    exact ⟨(a + (b - a) / 4 * 2 + 2 - (i + 1)).toNat, by omega, i + 1, s', _, rfl, by omega, by simp [hks], rfl, by omega, .cons rfl (.cons rfl (.cons rfl (.cons rfl (.cons rfl (.cons rfl .nil)))))⟩
  · simp (maxSteps := 1000000) (implicitDefEqProofs := false) (disch := (try simp only [List.length_set]); omega) only [stp, if_true, if_false, Int.reduceEq, Int.reduceLT, Int.reduceLE, Int.reduceGT, Int.reduceGE, reduceCtorEq, Nat.reduceEqDiff, List.getElem?_cons_zero, List.getElem?_cons_succ, Option.map_some, wrap_i64, x_subu, hwp, x_and, hA, x_toInt, hge, w_ia, w_lda hid2, w_st hid2]
    exact ⟨(a + (b - a) / 4 * 2 + 2 - (i + 1)).toNat, by omega, i + 1, s', _, rfl, by omega, by simp [hks], rfl, by omega, .cons rfl (.cons rfl (.cons rfl (.cons rfl (.cons rfl (.cons rfl .nil)))))⟩
end Go.Proofs.YtbadbkdpnbacnaaDoor.Fw

/- slices.SortFunc at keys: the partitions, the sort. No condition. Printed by mkWd.py. -/
namespace Go.Proofs.YtbadbkdpnbacnaaDoor.Fw
open Go
set_option linter.unusedSimpArgs false
set_option linter.unusedVariables false

/-- Behind a scan: the range is at i and j. -/
def PS (H : Heap) (id n : Nat) (x : Nat) (si sj : Nat) (l : Fr) (C : Int → Int → Prop) (e : Exit) (f : Fr) (G : Heap) : Prop :=
  e = .exit x ∧ ∃ (i j : Int) (ks : List KeyA), C i j ∧ ks.length = n ∧ G = wr H id ks ∧ FrSub ((si, .int .i64 i) :: (sj, .int .i64 j) :: l) f

set_option maxRecDepth 20000 in
set_option maxHeartbeats 4000000 in
theorem partition_calls {H : Heap} (hw : WF H) {id n : Nat} (hid : id < H.next) (hn : n ≤ 64) {ks : List KeyA} (hks : ks.length = n) {a b p : Int} (ha : 0 ≤ a) (hab : a < b) (hb : b ≤ n) (hp : a ≤ p ∧ p < b) :
    SCalls PP 82 [.slice id 0 n none, .int .i64 a, .int .i64 b, .int .i64 p, cmpF] (wr H id ks) fun r H' => ∃ (q : Int) (t : Bool), r = .tup [.int .i64 q, .bool t] ∧ (a ≤ q ∧ q < b) ∧ Left H id n H' := by
  refine SCalls.go c82 (by simp [fn82]) fun hz => ?_
  clear hz
  simp (maxSteps := 1000000) (implicitDefEqProofs := false) (disch := (try simp only [List.length_set]); omega) only [stp, if_true, if_false, Int.reduceEq, Int.reduceLT, Int.reduceLE, Int.reduceGT, Int.reduceGE, reduceCtorEq, Nat.reduceEqDiff, List.getElem?_cons_zero, List.getElem?_cons_succ, Option.map_some, wrap_i64, fn82, enterFr, List.length, List.range, List.range.loop, List.zip, List.zipWith, w_ia, w_lda hid, w_st hid]
  refine wpC_mono SCalls.scMono _ _ _ (PS H id n 0 12 13 [(0, .slice id 0 n none), (1, .int .i64 a), (4, cmpF)] (fun i j => a + 1 ≤ i ∧ i ≤ b ∧ a ≤ j ∧ j < b)) _ ?_ ?_
  · refine wp_loopI (fun m fr G => ∃ (i j : Int) (ks : List KeyA), m = (j - i + 1).toNat ∧ (fun i j => a + 1 ≤ i ∧ i ≤ b ∧ a ≤ j ∧ j < b) i j ∧ ks.length = n ∧ G = wr H id ks ∧ FrSub ((12, .int .i64 i) :: (13, .int .i64 j) :: [(0, .slice id 0 n none), (1, .int .i64 a), (4, cmpF)]) fr) _
      ⟨_, _, _, rfl, ⟨by omega, by omega, by omega, by omega⟩, by simp [hks], rfl, (.cons rfl (.cons rfl (.cons rfl (.cons rfl (.cons rfl .nil)))))⟩ ?_
    clear hks
    rintro m fr G ⟨i, j, ks, rfl, hC, hks, rfl, hsub⟩
    obtain ⟨c1, c2, c3, c4⟩ := hC
    refine ⟨_, hsub, ?_⟩
    by_cases hle : i ≤ j
    rotate_left
    · simp (maxSteps := 1000000) (implicitDefEqProofs := false) only [stp, if_true, if_false, Int.reduceEq, Int.reduceLT, Int.reduceLE, Int.reduceGT, Int.reduceGE, reduceCtorEq, Nat.reduceEqDiff, List.getElem?_cons_zero, List.getElem?_cons_succ, Option.map_some, hle]
      exact ⟨rfl, i, j, ks, ⟨c1, c2, c3, c4⟩, hks, rfl, (.cons rfl (.cons rfl (.cons rfl (.cons rfl (.cons rfl .nil)))))⟩
    simp (maxSteps := 1000000) (implicitDefEqProofs := false) (disch := omega) only [stp, if_true, if_false, Int.reduceEq, Int.reduceLT, Int.reduceLE, Int.reduceGT, Int.reduceGE, reduceCtorEq, Nat.reduceEqDiff, List.getElem?_cons_zero, List.getElem?_cons_succ, Option.map_some, wrap_i64, hle, w_ia, w_lda hid]
    refine cmp_ok _ _ _ _ fun c => ?_
    by_cases hc : c < 0
    · simp (maxSteps := 1000000) (implicitDefEqProofs := false) (disch := omega) only [stp, if_true, if_false, Int.reduceEq, Int.reduceLT, Int.reduceLE, Int.reduceGT, Int.reduceGE, reduceCtorEq, Nat.reduceEqDiff, List.getElem?_cons_zero, List.getElem?_cons_succ, Option.map_some, wrap_i64, hc]
      exact ⟨(j - (i + 1) + 1).toNat, by omega, i + 1, j, ks, rfl, ⟨by omega, by omega, by omega, by omega⟩, hks, rfl, (.cons rfl (.cons rfl (.cons rfl (.cons rfl (.cons rfl .nil)))))⟩
    · simp (maxSteps := 1000000) (implicitDefEqProofs := false) (disch := omega) only [stp, if_true, if_false, Int.reduceEq, Int.reduceLT, Int.reduceLE, Int.reduceGT, Int.reduceGE, reduceCtorEq, Nat.reduceEqDiff, List.getElem?_cons_zero, List.getElem?_cons_succ, Option.map_some, wrap_i64, hc]
      exact ⟨rfl, i, j, ks, ⟨c1, c2, c3, c4⟩, hks, rfl, (.cons rfl (.cons rfl (.cons rfl (.cons rfl (.cons rfl .nil)))))⟩
  clear hks
  rintro e f G ⟨rfl, i, j, ks, ⟨c1, c2, c3, c4⟩, hks, rfl, hf⟩
  have g12 := hf 12 _ rfl
  have g13 := hf 13 _ rfl
  have g0 := hf 0 _ rfl
  have g1 := hf 1 _ rfl
  have g4 := hf 4 _ rfl
  simp (maxSteps := 1000000) (implicitDefEqProofs := false) only [stp, if_true, if_false, Int.reduceEq, Int.reduceLT, Int.reduceLE, Int.reduceGT, Int.reduceGE, reduceCtorEq, Nat.reduceEqDiff, List.getElem?_cons_zero, List.getElem?_cons_succ, Option.map_some, if_true]
  refine wpC_mono SCalls.scMono _ _ _ (PS H id n 2 12 13 [(0, .slice id 0 n none), (1, .int .i64 a), (4, cmpF)] (fun i j => a + 1 ≤ i ∧ i ≤ b ∧ a ≤ j ∧ j < b)) _ ?_ ?_
  · refine wp_loopI (fun m fr G => ∃ (i j : Int) (ks : List KeyA), m = (j - i + 1).toNat ∧ (fun i j => a + 1 ≤ i ∧ i ≤ b ∧ a ≤ j ∧ j < b) i j ∧ ks.length = n ∧ G = wr H id ks ∧ FrSub ((12, .int .i64 i) :: (13, .int .i64 j) :: [(0, .slice id 0 n none), (1, .int .i64 a), (4, cmpF)]) fr) _
      ⟨_, _, _, rfl, ⟨by omega, by omega, by omega, by omega⟩, by simp [hks], rfl, (.cons g12 (.cons g13 (.cons g0 (.cons g1 (.cons g4 .nil)))))⟩ ?_
    clear hks
    rintro m fr G ⟨i, j, ks, rfl, hC, hks, rfl, hsub⟩
    obtain ⟨c1, c2, c3, c4⟩ := hC
    refine ⟨_, hsub, ?_⟩
    by_cases hle : i ≤ j
    rotate_left
    · simp (maxSteps := 1000000) (implicitDefEqProofs := false) only [stp, if_true, if_false, Int.reduceEq, Int.reduceLT, Int.reduceLE, Int.reduceGT, Int.reduceGE, reduceCtorEq, Nat.reduceEqDiff, List.getElem?_cons_zero, List.getElem?_cons_succ, Option.map_some, hle]
      exact ⟨rfl, i, j, ks, ⟨c1, c2, c3, c4⟩, hks, rfl, (.cons rfl (.cons rfl (.cons rfl (.cons rfl (.cons rfl .nil)))))⟩
    simp (maxSteps := 1000000) (implicitDefEqProofs := false) (disch := omega) only [stp, if_true, if_false, Int.reduceEq, Int.reduceLT, Int.reduceLE, Int.reduceGT, Int.reduceGE, reduceCtorEq, Nat.reduceEqDiff, List.getElem?_cons_zero, List.getElem?_cons_succ, Option.map_some, wrap_i64, hle, w_ia, w_lda hid]
    refine cmp_ok _ _ _ _ fun c => ?_
    by_cases hc : c < 0
    · simp (maxSteps := 1000000) (implicitDefEqProofs := false) (disch := omega) only [stp, if_true, if_false, Int.reduceEq, Int.reduceLT, Int.reduceLE, Int.reduceGT, Int.reduceGE, reduceCtorEq, Nat.reduceEqDiff, List.getElem?_cons_zero, List.getElem?_cons_succ, Option.map_some, wrap_i64, hc]
      exact ⟨rfl, i, j, ks, ⟨c1, c2, c3, c4⟩, hks, rfl, (.cons rfl (.cons rfl (.cons rfl (.cons rfl (.cons rfl .nil)))))⟩
    · simp (maxSteps := 1000000) (implicitDefEqProofs := false) (disch := omega) only [stp, if_true, if_false, Int.reduceEq, Int.reduceLT, Int.reduceLE, Int.reduceGT, Int.reduceGE, reduceCtorEq, Nat.reduceEqDiff, List.getElem?_cons_zero, List.getElem?_cons_succ, Option.map_some, wrap_i64, hc]
      exact ⟨(j - 1 - (i) + 1).toNat, by omega, i, j - 1, ks, rfl, ⟨by omega, by omega, by omega, by omega⟩, hks, rfl, (.cons rfl (.cons rfl (.cons rfl (.cons rfl (.cons rfl .nil)))))⟩
  clear hks
  rintro e f G ⟨rfl, i, j, ks, ⟨c1, c2, c3, c4⟩, hks, rfl, hf⟩
  have g12 := hf 12 _ rfl
  have g13 := hf 13 _ rfl
  have g0 := hf 0 _ rfl
  have g1 := hf 1 _ rfl
  have g4 := hf 4 _ rfl
  by_cases hgt : i > j
  · simp (maxSteps := 1000000) (implicitDefEqProofs := false) (disch := (try simp only [List.length_set]); omega) only [stp, if_true, if_false, Int.reduceEq, Int.reduceLT, Int.reduceLE, Int.reduceGT, Int.reduceGE, reduceCtorEq, Nat.reduceEqDiff, List.getElem?_cons_zero, List.getElem?_cons_succ, Option.map_some, wrap_i64, g12, g13, g0, g1, g4, hgt, w_ia, w_lda hid, w_st hid]
    exact ⟨_, _, rfl, by omega, Left.mk hw (by simp [hks])⟩
  simp (maxSteps := 1000000) (implicitDefEqProofs := false) (disch := (try simp only [List.length_set]); omega) only [stp, if_true, if_false, Int.reduceEq, Int.reduceLT, Int.reduceLE, Int.reduceGT, Int.reduceGE, reduceCtorEq, Nat.reduceEqDiff, List.getElem?_cons_zero, List.getElem?_cons_succ, Option.map_some, wrap_i64, g12, g13, g0, g1, g4, hgt, w_ia, w_lda hid, w_st hid]
  refine wp_loopI (fun m fr G => ∃ (i j : Int) (ks : List KeyA), m = (j - i + 2).toNat ∧ (fun i j => a + 1 ≤ i ∧ i ≤ b ∧ a ≤ j ∧ j < b) i j ∧ ks.length = n ∧ G = wr H id ks ∧ FrSub ((12, .int .i64 i) :: (13, .int .i64 j) :: [(0, .slice id 0 n none), (1, .int .i64 a), (4, cmpF)]) fr) _
    ⟨_, _, _, rfl, ⟨by omega, by omega, by omega, by omega⟩, by simp [hks], rfl, (.cons rfl (.cons rfl (.cons g0 (.cons g1 (.cons g4 .nil)))))⟩ ?_
  clear hks g12 g13 g0 g1 g4 hf hgt c1 c2 c3 c4
  rintro m fr G ⟨i0, j0, ks, rfl, ⟨c1, c2, c3, c4⟩, hks, rfl, hsub⟩
  refine ⟨_, hsub, ?_⟩
  simp (maxSteps := 1000000) (implicitDefEqProofs := false) only [stp, if_true, if_false, Int.reduceEq, Int.reduceLT, Int.reduceLE, Int.reduceGT, Int.reduceGE, reduceCtorEq, Nat.reduceEqDiff, List.getElem?_cons_zero, List.getElem?_cons_succ, Option.map_some, if_true]
  refine wpC_mono SCalls.scMono _ _ _ (PS H id n 6 12 13 [(0, .slice id 0 n none), (1, .int .i64 a), (4, cmpF)] (fun i j => a + 1 ≤ i ∧ i ≤ b ∧ a ≤ j ∧ (j < b ∧ j - i ≤ j0 - i0))) _ ?_ ?_
  · refine wp_loopI (fun m fr G => ∃ (i j : Int) (ks : List KeyA), m = (j - i + 1).toNat ∧ (fun i j => a + 1 ≤ i ∧ i ≤ b ∧ a ≤ j ∧ (j < b ∧ j - i ≤ j0 - i0)) i j ∧ ks.length = n ∧ G = wr H id ks ∧ FrSub ((12, .int .i64 i) :: (13, .int .i64 j) :: [(0, .slice id 0 n none), (1, .int .i64 a), (4, cmpF)]) fr) _
      ⟨_, _, _, rfl, ⟨by omega, by omega, by omega, by omega⟩, by simp [hks], rfl, (.cons rfl (.cons rfl (.cons rfl (.cons rfl (.cons rfl .nil)))))⟩ ?_
    clear hks
    rintro m fr G ⟨i, j, ks, rfl, hC, hks, rfl, hsub⟩
    obtain ⟨c1, c2, c3, c4⟩ := hC
    refine ⟨_, hsub, ?_⟩
    by_cases hle : i ≤ j
    rotate_left
    · simp (maxSteps := 1000000) (implicitDefEqProofs := false) only [stp, if_true, if_false, Int.reduceEq, Int.reduceLT, Int.reduceLE, Int.reduceGT, Int.reduceGE, reduceCtorEq, Nat.reduceEqDiff, List.getElem?_cons_zero, List.getElem?_cons_succ, Option.map_some, hle]
      exact ⟨rfl, i, j, ks, ⟨c1, c2, c3, c4⟩, hks, rfl, (.cons rfl (.cons rfl (.cons rfl (.cons rfl (.cons rfl .nil)))))⟩
    simp (maxSteps := 1000000) (implicitDefEqProofs := false) (disch := omega) only [stp, if_true, if_false, Int.reduceEq, Int.reduceLT, Int.reduceLE, Int.reduceGT, Int.reduceGE, reduceCtorEq, Nat.reduceEqDiff, List.getElem?_cons_zero, List.getElem?_cons_succ, Option.map_some, wrap_i64, hle, w_ia, w_lda hid]
    refine cmp_ok _ _ _ _ fun c => ?_
    by_cases hc : c < 0
    · simp (maxSteps := 1000000) (implicitDefEqProofs := false) (disch := omega) only [stp, if_true, if_false, Int.reduceEq, Int.reduceLT, Int.reduceLE, Int.reduceGT, Int.reduceGE, reduceCtorEq, Nat.reduceEqDiff, List.getElem?_cons_zero, List.getElem?_cons_succ, Option.map_some, wrap_i64, hc]
      exact ⟨(j - (i + 1) + 1).toNat, by omega, i + 1, j, ks, rfl, ⟨by omega, by omega, by omega, by omega⟩, hks, rfl, (.cons rfl (.cons rfl (.cons rfl (.cons rfl (.cons rfl .nil)))))⟩
    · simp (maxSteps := 1000000) (implicitDefEqProofs := false) (disch := omega) only [stp, if_true, if_false, Int.reduceEq, Int.reduceLT, Int.reduceLE, Int.reduceGT, Int.reduceGE, reduceCtorEq, Nat.reduceEqDiff, List.getElem?_cons_zero, List.getElem?_cons_succ, Option.map_some, wrap_i64, hc]
      exact ⟨rfl, i, j, ks, ⟨c1, c2, c3, c4⟩, hks, rfl, (.cons rfl (.cons rfl (.cons rfl (.cons rfl (.cons rfl .nil)))))⟩
  clear hks
  rintro e f G ⟨rfl, i, j, ks, ⟨c1, c2, c3, c4⟩, hks, rfl, hf⟩
  have g12 := hf 12 _ rfl
  have g13 := hf 13 _ rfl
  have g0 := hf 0 _ rfl
  have g1 := hf 1 _ rfl
  have g4 := hf 4 _ rfl
  simp (maxSteps := 1000000) (implicitDefEqProofs := false) only [stp, if_true, if_false, Int.reduceEq, Int.reduceLT, Int.reduceLE, Int.reduceGT, Int.reduceGE, reduceCtorEq, Nat.reduceEqDiff, List.getElem?_cons_zero, List.getElem?_cons_succ, Option.map_some, if_true]
  refine wpC_mono SCalls.scMono _ _ _ (PS H id n 8 12 13 [(0, .slice id 0 n none), (1, .int .i64 a), (4, cmpF)] (fun i j => a + 1 ≤ i ∧ i ≤ b ∧ a ≤ j ∧ (j < b ∧ j - i ≤ j0 - i0))) _ ?_ ?_
  · refine wp_loopI (fun m fr G => ∃ (i j : Int) (ks : List KeyA), m = (j - i + 1).toNat ∧ (fun i j => a + 1 ≤ i ∧ i ≤ b ∧ a ≤ j ∧ (j < b ∧ j - i ≤ j0 - i0)) i j ∧ ks.length = n ∧ G = wr H id ks ∧ FrSub ((12, .int .i64 i) :: (13, .int .i64 j) :: [(0, .slice id 0 n none), (1, .int .i64 a), (4, cmpF)]) fr) _
      ⟨_, _, _, rfl, ⟨by omega, by omega, by omega, by omega⟩, by simp [hks], rfl, (.cons g12 (.cons g13 (.cons g0 (.cons g1 (.cons g4 .nil)))))⟩ ?_
    clear hks
    rintro m fr G ⟨i, j, ks, rfl, hC, hks, rfl, hsub⟩
    obtain ⟨c1, c2, c3, c4⟩ := hC
    refine ⟨_, hsub, ?_⟩
    by_cases hle : i ≤ j
    rotate_left
    · simp (maxSteps := 1000000) (implicitDefEqProofs := false) only [stp, if_true, if_false, Int.reduceEq, Int.reduceLT, Int.reduceLE, Int.reduceGT, Int.reduceGE, reduceCtorEq, Nat.reduceEqDiff, List.getElem?_cons_zero, List.getElem?_cons_succ, Option.map_some, hle]
      exact ⟨rfl, i, j, ks, ⟨c1, c2, c3, c4⟩, hks, rfl, (.cons rfl (.cons rfl (.cons rfl (.cons rfl (.cons rfl .nil)))))⟩
    simp (maxSteps := 1000000) (implicitDefEqProofs := false) (disch := omega) only [stp, if_true, if_false, Int.reduceEq, Int.reduceLT, Int.reduceLE, Int.reduceGT, Int.reduceGE, reduceCtorEq, Nat.reduceEqDiff, List.getElem?_cons_zero, List.getElem?_cons_succ, Option.map_some, wrap_i64, hle, w_ia, w_lda hid]
    refine cmp_ok _ _ _ _ fun c => ?_
    by_cases hc : c < 0
    · simp (maxSteps := 1000000) (implicitDefEqProofs := false) (disch := omega) only [stp, if_true, if_false, Int.reduceEq, Int.reduceLT, Int.reduceLE, Int.reduceGT, Int.reduceGE, reduceCtorEq, Nat.reduceEqDiff, List.getElem?_cons_zero, List.getElem?_cons_succ, Option.map_some, wrap_i64, hc]
      exact ⟨rfl, i, j, ks, ⟨c1, c2, c3, c4⟩, hks, rfl, (.cons rfl (.cons rfl (.cons rfl (.cons rfl (.cons rfl .nil)))))⟩
    · simp (maxSteps := 1000000) (implicitDefEqProofs := false) (disch := omega) only [stp, if_true, if_false, Int.reduceEq, Int.reduceLT, Int.reduceLE, Int.reduceGT, Int.reduceGE, reduceCtorEq, Nat.reduceEqDiff, List.getElem?_cons_zero, List.getElem?_cons_succ, Option.map_some, wrap_i64, hc]
      exact ⟨(j - 1 - (i) + 1).toNat, by omega, i, j - 1, ks, rfl, ⟨by omega, by omega, by omega, by omega⟩, hks, rfl, (.cons rfl (.cons rfl (.cons rfl (.cons rfl (.cons rfl .nil)))))⟩
  clear hks
  rintro e f G ⟨rfl, i, j, ks, ⟨c1, c2, c3, c4⟩, hks, rfl, hf⟩
  have g12 := hf 12 _ rfl
  have g13 := hf 13 _ rfl
  have g0 := hf 0 _ rfl
  have g1 := hf 1 _ rfl
  have g4 := hf 4 _ rfl
  by_cases hgt : i > j
  · simp (maxSteps := 1000000) (implicitDefEqProofs := false) (disch := (try simp only [List.length_set]); omega) only [stp, if_true, if_false, Int.reduceEq, Int.reduceLT, Int.reduceLE, Int.reduceGT, Int.reduceGE, reduceCtorEq, Nat.reduceEqDiff, List.getElem?_cons_zero, List.getElem?_cons_succ, Option.map_some, wrap_i64, g12, g13, g0, g1, g4, hgt, w_ia, w_lda hid, w_st hid]
    exact ⟨_, _, rfl, by omega, Left.mk hw (by simp [hks])⟩
  simp (maxSteps := 1000000) (implicitDefEqProofs := false) (disch := (try simp only [List.length_set]); omega) only [stp, if_true, if_false, Int.reduceEq, Int.reduceLT, Int.reduceLE, Int.reduceGT, Int.reduceGE, reduceCtorEq, Nat.reduceEqDiff, List.getElem?_cons_zero, List.getElem?_cons_succ, Option.map_some, wrap_i64, g12, g13, g0, g1, g4, hgt, w_ia, w_lda hid, w_st hid]
  exact ⟨(j - 1 - (i + 1) + 2).toNat, by omega, i + 1, j - 1, _, rfl, ⟨by omega, by omega, by omega, by omega⟩, by simp [hks], rfl, (.cons rfl (.cons rfl (.cons g0 (.cons g1 (.cons g4 .nil)))))⟩

set_option maxRecDepth 20000 in
set_option maxHeartbeats 4000000 in
theorem partitionEq_calls {H : Heap} (hw : WF H) {id n : Nat} (hid : id < H.next) (hn : n ≤ 64) {ks : List KeyA} (hks : ks.length = n) {a b p : Int} (ha : 0 ≤ a) (hab : a < b) (hb : b ≤ n) (hp : a ≤ p ∧ p < b) :
    SCalls PP 81 [.slice id 0 n none, .int .i64 a, .int .i64 b, .int .i64 p, cmpF] (wr H id ks) fun r H' => ∃ (q : Int), r = .int .i64 q ∧ (a + 1 ≤ q ∧ q ≤ b) ∧ Left H id n H' := by
  refine SCalls.go c81 (by simp [fn81]) fun hz => ?_
  clear hz
  simp (maxSteps := 1000000) (implicitDefEqProofs := false) (disch := (try simp only [List.length_set]); omega) only [stp, if_true, if_false, Int.reduceEq, Int.reduceLT, Int.reduceLE, Int.reduceGT, Int.reduceGE, reduceCtorEq, Nat.reduceEqDiff, List.getElem?_cons_zero, List.getElem?_cons_succ, Option.map_some, wrap_i64, fn81, enterFr, List.length, List.range, List.range.loop, List.zip, List.zipWith, w_ia, w_lda hid, w_st hid]
  refine wp_loopI (fun m fr G => ∃ (i j : Int) (ks : List KeyA), m = (j - i + 2).toNat ∧ (fun i j => a + 1 ≤ i ∧ i ≤ b ∧ a ≤ j ∧ j < b) i j ∧ ks.length = n ∧ G = wr H id ks ∧ FrSub ((11, .int .i64 i) :: (12, .int .i64 j) :: [(0, .slice id 0 n none), (1, .int .i64 a), (4, cmpF)]) fr) _
    ⟨_, _, _, rfl, ⟨by omega, by omega, by omega, by omega⟩, by simp [hks], rfl, (.cons rfl (.cons rfl (.cons rfl (.cons rfl (.cons rfl .nil)))))⟩ ?_
  clear hks ks
  rintro m fr G ⟨i0, j0, ks, rfl, ⟨c1, c2, c3, c4⟩, hks, rfl, hsub⟩
  refine ⟨_, hsub, ?_⟩
  simp (maxSteps := 1000000) (implicitDefEqProofs := false) only [stp, if_true, if_false, Int.reduceEq, Int.reduceLT, Int.reduceLE, Int.reduceGT, Int.reduceGE, reduceCtorEq, Nat.reduceEqDiff, List.getElem?_cons_zero, List.getElem?_cons_succ, Option.map_some, if_true]
  refine wpC_mono SCalls.scMono _ _ _ (PS H id n 2 11 12 [(0, .slice id 0 n none), (1, .int .i64 a), (4, cmpF)] (fun i j => a + 1 ≤ i ∧ i ≤ b ∧ a ≤ j ∧ (j < b ∧ j - i ≤ j0 - i0))) _ ?_ ?_
  · refine wp_loopI (fun m fr G => ∃ (i j : Int) (ks : List KeyA), m = (j - i + 1).toNat ∧ (fun i j => a + 1 ≤ i ∧ i ≤ b ∧ a ≤ j ∧ (j < b ∧ j - i ≤ j0 - i0)) i j ∧ ks.length = n ∧ G = wr H id ks ∧ FrSub ((11, .int .i64 i) :: (12, .int .i64 j) :: [(0, .slice id 0 n none), (1, .int .i64 a), (4, cmpF)]) fr) _
      ⟨_, _, _, rfl, ⟨by omega, by omega, by omega, by omega⟩, by simp [hks], rfl, (.cons rfl (.cons rfl (.cons rfl (.cons rfl (.cons rfl .nil)))))⟩ ?_
    clear hks
    rintro m fr G ⟨i, j, ks, rfl, hC, hks, rfl, hsub⟩
    obtain ⟨c1, c2, c3, c4⟩ := hC
    refine ⟨_, hsub, ?_⟩
    by_cases hle : i ≤ j
    rotate_left
    · simp (maxSteps := 1000000) (implicitDefEqProofs := false) only [stp, if_true, if_false, Int.reduceEq, Int.reduceLT, Int.reduceLE, Int.reduceGT, Int.reduceGE, reduceCtorEq, Nat.reduceEqDiff, List.getElem?_cons_zero, List.getElem?_cons_succ, Option.map_some, hle]
      exact ⟨rfl, i, j, ks, ⟨c1, c2, c3, c4⟩, hks, rfl, (.cons rfl (.cons rfl (.cons rfl (.cons rfl (.cons rfl .nil)))))⟩
    simp (maxSteps := 1000000) (implicitDefEqProofs := false) (disch := omega) only [stp, if_true, if_false, Int.reduceEq, Int.reduceLT, Int.reduceLE, Int.reduceGT, Int.reduceGE, reduceCtorEq, Nat.reduceEqDiff, List.getElem?_cons_zero, List.getElem?_cons_succ, Option.map_some, wrap_i64, hle, w_ia, w_lda hid]
    refine cmp_ok _ _ _ _ fun c => ?_
    by_cases hc : c < 0
    · simp (maxSteps := 1000000) (implicitDefEqProofs := false) (disch := omega) only [stp, if_true, if_false, Int.reduceEq, Int.reduceLT, Int.reduceLE, Int.reduceGT, Int.reduceGE, reduceCtorEq, Nat.reduceEqDiff, List.getElem?_cons_zero, List.getElem?_cons_succ, Option.map_some, wrap_i64, hc]
      exact ⟨rfl, i, j, ks, ⟨c1, c2, c3, c4⟩, hks, rfl, (.cons rfl (.cons rfl (.cons rfl (.cons rfl (.cons rfl .nil)))))⟩
    · simp (maxSteps := 1000000) (implicitDefEqProofs := false) (disch := omega) only [stp, if_true, if_false, Int.reduceEq, Int.reduceLT, Int.reduceLE, Int.reduceGT, Int.reduceGE, reduceCtorEq, Nat.reduceEqDiff, List.getElem?_cons_zero, List.getElem?_cons_succ, Option.map_some, wrap_i64, hc]
      exact ⟨(j - (i + 1) + 1).toNat, by omega, i + 1, j, ks, rfl, ⟨by omega, by omega, by omega, by omega⟩, hks, rfl, (.cons rfl (.cons rfl (.cons rfl (.cons rfl (.cons rfl .nil)))))⟩
  clear hks
  rintro e f G ⟨rfl, i, j, ks, ⟨c1, c2, c3, c4⟩, hks, rfl, hf⟩
  have g12 := hf 11 _ rfl
  have g13 := hf 12 _ rfl
  have g0 := hf 0 _ rfl
  have g1 := hf 1 _ rfl
  have g4 := hf 4 _ rfl
  simp (maxSteps := 1000000) (implicitDefEqProofs := false) only [stp, if_true, if_false, Int.reduceEq, Int.reduceLT, Int.reduceLE, Int.reduceGT, Int.reduceGE, reduceCtorEq, Nat.reduceEqDiff, List.getElem?_cons_zero, List.getElem?_cons_succ, Option.map_some, if_true]
  refine wpC_mono SCalls.scMono _ _ _ (PS H id n 4 11 12 [(0, .slice id 0 n none), (1, .int .i64 a), (4, cmpF)] (fun i j => a + 1 ≤ i ∧ i ≤ b ∧ a ≤ j ∧ (j < b ∧ j - i ≤ j0 - i0))) _ ?_ ?_
  · refine wp_loopI (fun m fr G => ∃ (i j : Int) (ks : List KeyA), m = (j - i + 1).toNat ∧ (fun i j => a + 1 ≤ i ∧ i ≤ b ∧ a ≤ j ∧ (j < b ∧ j - i ≤ j0 - i0)) i j ∧ ks.length = n ∧ G = wr H id ks ∧ FrSub ((11, .int .i64 i) :: (12, .int .i64 j) :: [(0, .slice id 0 n none), (1, .int .i64 a), (4, cmpF)]) fr) _
      ⟨_, _, _, rfl, ⟨by omega, by omega, by omega, by omega⟩, by simp [hks], rfl, (.cons g12 (.cons g13 (.cons g0 (.cons g1 (.cons g4 .nil)))))⟩ ?_
    clear hks
    rintro m fr G ⟨i, j, ks, rfl, hC, hks, rfl, hsub⟩
    obtain ⟨c1, c2, c3, c4⟩ := hC
    refine ⟨_, hsub, ?_⟩
    by_cases hle : i ≤ j
    rotate_left
    · simp (maxSteps := 1000000) (implicitDefEqProofs := false) only [stp, if_true, if_false, Int.reduceEq, Int.reduceLT, Int.reduceLE, Int.reduceGT, Int.reduceGE, reduceCtorEq, Nat.reduceEqDiff, List.getElem?_cons_zero, List.getElem?_cons_succ, Option.map_some, hle]
      exact ⟨rfl, i, j, ks, ⟨c1, c2, c3, c4⟩, hks, rfl, (.cons rfl (.cons rfl (.cons rfl (.cons rfl (.cons rfl .nil)))))⟩
    simp (maxSteps := 1000000) (implicitDefEqProofs := false) (disch := omega) only [stp, if_true, if_false, Int.reduceEq, Int.reduceLT, Int.reduceLE, Int.reduceGT, Int.reduceGE, reduceCtorEq, Nat.reduceEqDiff, List.getElem?_cons_zero, List.getElem?_cons_succ, Option.map_some, wrap_i64, hle, w_ia, w_lda hid]
    refine cmp_ok _ _ _ _ fun c => ?_
    by_cases hc : c < 0
    · simp (maxSteps := 1000000) (implicitDefEqProofs := false) (disch := omega) only [stp, if_true, if_false, Int.reduceEq, Int.reduceLT, Int.reduceLE, Int.reduceGT, Int.reduceGE, reduceCtorEq, Nat.reduceEqDiff, List.getElem?_cons_zero, List.getElem?_cons_succ, Option.map_some, wrap_i64, hc]
      exact ⟨(j - 1 - (i) + 1).toNat, by omega, i, j - 1, ks, rfl, ⟨by omega, by omega, by omega, by omega⟩, hks, rfl, (.cons rfl (.cons rfl (.cons rfl (.cons rfl (.cons rfl .nil)))))⟩
    · simp (maxSteps := 1000000) (implicitDefEqProofs := false) (disch := omega) only [stp, if_true, if_false, Int.reduceEq, Int.reduceLT, Int.reduceLE, Int.reduceGT, Int.reduceGE, reduceCtorEq, Nat.reduceEqDiff, List.getElem?_cons_zero, List.getElem?_cons_succ, Option.map_some, wrap_i64, hc]
      exact ⟨rfl, i, j, ks, ⟨c1, c2, c3, c4⟩, hks, rfl, (.cons rfl (.cons rfl (.cons rfl (.cons rfl (.cons rfl .nil)))))⟩
  clear hks
  rintro e f G ⟨rfl, i, j, ks, ⟨c1, c2, c3, c4⟩, hks, rfl, hf⟩
  have g12 := hf 11 _ rfl
  have g13 := hf 12 _ rfl
  have g0 := hf 0 _ rfl
  have g1 := hf 1 _ rfl
  have g4 := hf 4 _ rfl
  by_cases hgt : i > j
  · simp (maxSteps := 1000000) (implicitDefEqProofs := false) only [stp, if_true, if_false, Int.reduceEq, Int.reduceLT, Int.reduceLE, Int.reduceGT, Int.reduceGE, reduceCtorEq, Nat.reduceEqDiff, List.getElem?_cons_zero, List.getElem?_cons_succ, Option.map_some, g12, g13, g0, g1, g4, hgt]
    exact ⟨_, rfl, by omega, Left.mk hw hks⟩
  simp (maxSteps := 1000000) (implicitDefEqProofs := false) (disch := (try simp only [List.length_set]); omega) only [stp, if_true, if_false, Int.reduceEq, Int.reduceLT, Int.reduceLE, Int.reduceGT, Int.reduceGE, reduceCtorEq, Nat.reduceEqDiff, List.getElem?_cons_zero, List.getElem?_cons_succ, Option.map_some, wrap_i64, g12, g13, g0, g1, g4, hgt, w_ia, w_lda hid, w_st hid]
  exact ⟨(j - 1 - (i + 1) + 2).toNat, by omega, i + 1, j - 1, _, rfl, ⟨by omega, by omega, by omega, by omega⟩, by simp [hks], rfl, (.cons rfl (.cons rfl (.cons g0 (.cons g1 (.cons g4 .nil)))))⟩

end Go.Proofs.YtbadbkdpnbacnaaDoor.Fw

/- slices.SortFunc at keys: it ends, and turns its own row alone. No condition. Printed by mkWe.py. -/
namespace Go.Proofs.YtbadbkdpnbacnaaDoor.Fw
open Go
set_option linter.unusedSimpArgs false
set_option linter.unusedVariables false

/-- Behind a loop: the row is one of keys, and i is where it may be. -/
def PI (H : Heap) (id n : Nat) (x : Nat) (si : Nat) (l : Fr) (C : Int → Prop) (e : Exit) (f : Fr) (G : Heap) : Prop :=
  e = .exit x ∧ ∃ (i : Int) (ks : List KeyA), C i ∧ ks.length = n ∧ G = wr H id ks ∧ FrSub ((si, .int .i64 i) :: l) f

set_option maxRecDepth 20000 in
set_option maxHeartbeats 4000000 in
theorem partial_calls {H : Heap} (hw : WF H) {id n : Nat} (hid : id < H.next) (hn : n ≤ 64) {ks : List KeyA} (hks : ks.length = n) {a b : Int} (ha : 0 ≤ a) (hab : a < b) (hb : b ≤ n) :
    SCalls PP 80 [.slice id 0 n none, .int .i64 a, .int .i64 b, cmpF] (wr H id ks) fun r H' => ∃ t : Bool, r = .bool t ∧ Left H id n H' := by
  refine SCalls.go c80 (by simp [fn80]) fun hz => ?_
  clear hz
  simp (maxSteps := 1000000) (implicitDefEqProofs := false) (disch := omega) only [stp, if_true, if_false, Int.reduceEq, Int.reduceLT, Int.reduceLE, Int.reduceGT, Int.reduceGE, reduceCtorEq, Nat.reduceEqDiff, List.getElem?_cons_zero, List.getElem?_cons_succ, Option.map_some, wrap_i64, fn80, enterFr, List.length, List.range, List.range.loop, List.zip, List.zipWith]
  refine wp_loopI (fun m fr G => ∃ (c i : Int) (ks : List KeyA), m = (5 - c).toNat ∧ 0 ≤ c ∧ c ≤ 5 ∧ a + 1 ≤ i ∧ i ≤ b ∧ ks.length = n ∧ G = wr H id ks ∧ FrSub [(10, .int .i64 c), (9, .int .i64 i), (0, .slice id 0 n none), (1, .int .i64 a), (2, .int .i64 b), (3, cmpF)] fr) 5
    ⟨0, a + 1, ks, rfl, by omega, by omega, by omega, by omega, hks, rfl, (.cons rfl (.cons rfl (.cons rfl (.cons rfl (.cons rfl (.cons rfl .nil))))))⟩ ?_
  clear hks ks
  rintro m fr G ⟨c, i, ks, rfl, c0, c5, hi, hib, hks, rfl, hsub⟩
  refine ⟨_, hsub, ?_⟩
  by_cases hc5 : c < 5
  rotate_left
  · simp (maxSteps := 1000000) (implicitDefEqProofs := false) only [stp, if_true, if_false, Int.reduceEq, Int.reduceLT, Int.reduceLE, Int.reduceGT, Int.reduceGE, reduceCtorEq, Nat.reduceEqDiff, List.getElem?_cons_zero, List.getElem?_cons_succ, Option.map_some, hc5]
    exact ⟨_, rfl, Left.mk hw hks⟩
  simp (maxSteps := 1000000) (implicitDefEqProofs := false) only [stp, if_true, if_false, Int.reduceEq, Int.reduceLT, Int.reduceLE, Int.reduceGT, Int.reduceGE, reduceCtorEq, Nat.reduceEqDiff, List.getElem?_cons_zero, List.getElem?_cons_succ, Option.map_some, hc5]
  refine wpC_mono SCalls.scMono _ _ _ (PI H id n 2 9 [(10, .int .i64 c), (0, .slice id 0 n none), (1, .int .i64 a), (2, .int .i64 b), (3, cmpF)] (fun i => a + 1 ≤ i ∧ i ≤ b)) _ ?_ ?_
  · refine wp_loopI (fun m fr G => ∃ (i : Int) (ks : List KeyA), m = (b - i).toNat ∧ a + 1 ≤ i ∧ i ≤ b ∧ ks.length = n ∧ G = wr H id ks ∧ FrSub [(9, .int .i64 i), (10, .int .i64 c), (0, .slice id 0 n none), (1, .int .i64 a), (2, .int .i64 b), (3, cmpF)] fr) _
      ⟨_, _, rfl, hi, hib, hks, rfl, (.cons rfl (.cons rfl (.cons rfl (.cons rfl (.cons rfl (.cons rfl .nil))))))⟩ ?_
    clear hks
    rintro m fr G ⟨i, ks, rfl, hi, hib, hks, rfl, hsub⟩
    refine ⟨_, hsub, ?_⟩
    by_cases hlt : i < b
    rotate_left
    · simp (maxSteps := 1000000) (implicitDefEqProofs := false) only [stp, if_true, if_false, Int.reduceEq, Int.reduceLT, Int.reduceLE, Int.reduceGT, Int.reduceGE, reduceCtorEq, Nat.reduceEqDiff, List.getElem?_cons_zero, List.getElem?_cons_succ, Option.map_some, hlt]
      exact ⟨rfl, i, ks, ⟨hi, hib⟩, hks, rfl, (.cons rfl (.cons rfl (.cons rfl (.cons rfl (.cons rfl (.cons rfl .nil))))))⟩
    simp (maxSteps := 1000000) (implicitDefEqProofs := false) (disch := omega) only [stp, if_true, if_false, Int.reduceEq, Int.reduceLT, Int.reduceLE, Int.reduceGT, Int.reduceGE, reduceCtorEq, Nat.reduceEqDiff, List.getElem?_cons_zero, List.getElem?_cons_succ, Option.map_some, wrap_i64, hlt, w_ia, w_lda hid]
    refine cmp_ok _ _ _ _ fun d => ?_
    by_cases hd : d < 0
    · simp (maxSteps := 1000000) (implicitDefEqProofs := false) (disch := omega) only [stp, if_true, if_false, Int.reduceEq, Int.reduceLT, Int.reduceLE, Int.reduceGT, Int.reduceGE, reduceCtorEq, Nat.reduceEqDiff, List.getElem?_cons_zero, List.getElem?_cons_succ, Option.map_some, wrap_i64, hd]
      exact ⟨rfl, i, ks, ⟨hi, hib⟩, hks, rfl, (.cons rfl (.cons rfl (.cons rfl (.cons rfl (.cons rfl (.cons rfl .nil))))))⟩
    · simp (maxSteps := 1000000) (implicitDefEqProofs := false) (disch := omega) only [stp, if_true, if_false, Int.reduceEq, Int.reduceLT, Int.reduceLE, Int.reduceGT, Int.reduceGE, reduceCtorEq, Nat.reduceEqDiff, List.getElem?_cons_zero, List.getElem?_cons_succ, Option.map_some, wrap_i64, hd]
      exact ⟨(b - (i + 1)).toNat, by omega, i + 1, ks, rfl, by omega, by omega, hks, rfl, (.cons rfl (.cons rfl (.cons rfl (.cons rfl (.cons rfl (.cons rfl .nil))))))⟩
  clear hks hi hib
  rintro e f G ⟨rfl, i, ks, ⟨hi, hib⟩, hks, rfl, hf⟩
  have g9 := hf 9 _ rfl
  have g10 := hf 10 _ rfl
  have g0 := hf 0 _ rfl
  have g1 := hf 1 _ rfl
  have g2 := hf 2 _ rfl
  have g3 := hf 3 _ rfl
  by_cases hbe : i = b
  · simp (maxSteps := 1000000) (implicitDefEqProofs := false) only [stp, if_true, if_false, Int.reduceEq, Int.reduceLT, Int.reduceLE, Int.reduceGT, Int.reduceGE, reduceCtorEq, Nat.reduceEqDiff, List.getElem?_cons_zero, List.getElem?_cons_succ, Option.map_some, g9, g10, g0, g1, g2, g3, hbe]
    exact ⟨_, rfl, Left.mk hw hks⟩
  by_cases h50 : b - a < 50
  · simp (maxSteps := 1000000) (implicitDefEqProofs := false) (disch := omega) only [stp, if_true, if_false, Int.reduceEq, Int.reduceLT, Int.reduceLE, Int.reduceGT, Int.reduceGE, reduceCtorEq, Nat.reduceEqDiff, List.getElem?_cons_zero, List.getElem?_cons_succ, Option.map_some, wrap_i64, g9, g10, g0, g1, g2, g3, hbe, h50]
    exact ⟨_, rfl, Left.mk hw hks⟩
  by_cases h2 : i - a ≥ 2
  rotate_left
  · simp (maxSteps := 1000000) (implicitDefEqProofs := false) (disch := (try simp only [List.length_set]); omega) only [stp, if_true, if_false, Int.reduceEq, Int.reduceLT, Int.reduceLE, Int.reduceGT, Int.reduceGE, reduceCtorEq, Nat.reduceEqDiff, List.getElem?_cons_zero, List.getElem?_cons_succ, Option.map_some, wrap_i64, g9, g10, g0, g1, g2, g3, hbe, h50, w_ia, w_lda hid, w_st hid, h2]
    by_cases h2b : b - i ≥ 2
    rotate_left
    · simp (maxSteps := 1000000) (implicitDefEqProofs := false) (disch := omega) only [stp, if_true, if_false, Int.reduceEq, Int.reduceLT, Int.reduceLE, Int.reduceGT, Int.reduceGE, reduceCtorEq, Nat.reduceEqDiff, List.getElem?_cons_zero, List.getElem?_cons_succ, Option.map_some, wrap_i64, g9, g10, g0, g1, g2, g3, h2b]
      exact ⟨(5 - (c + 1)).toNat, by omega, c + 1, i, _, rfl, by omega, by omega, hi, hib, by simp [hks], rfl, (.cons rfl (.cons g9 (.cons g0 (.cons g1 (.cons g2 (.cons g3 .nil))))))⟩
    simp (maxSteps := 1000000) (implicitDefEqProofs := false) (disch := omega) only [stp, if_true, if_false, Int.reduceEq, Int.reduceLT, Int.reduceLE, Int.reduceGT, Int.reduceGE, reduceCtorEq, Nat.reduceEqDiff, List.getElem?_cons_zero, List.getElem?_cons_succ, Option.map_some, wrap_i64, g9, g10, g0, g1, g2, g3, h2b]
    refine wpC_mono SCalls.scMono _ _ _ (PI H id n 6 12 [(9, .int .i64 i), (10, .int .i64 c), (0, .slice id 0 n none), (1, .int .i64 a), (2, .int .i64 b), (3, cmpF)] (fun j => i + 1 ≤ j ∧ j ≤ b)) _ ?_ ?_
    · refine wp_loopI (fun m fr G => ∃ (j : Int) (ks : List KeyA), m = (b - j).toNat ∧ i + 1 ≤ j ∧ j ≤ b ∧ ks.length = n ∧ G = wr H id ks ∧ FrSub [(12, .int .i64 j), (9, .int .i64 i), (10, .int .i64 c), (0, .slice id 0 n none), (1, .int .i64 a), (2, .int .i64 b), (3, cmpF)] fr) _
        ⟨_, _, rfl, by omega, by omega, by simp [hks], rfl, (.cons rfl (.cons g9 (.cons g10 (.cons g0 (.cons g1 (.cons g2 (.cons g3 .nil)))))))⟩ ?_
      clear hks ks
      rintro m fr G ⟨j, ks, rfl, hj, hjb, hks, rfl, hsub⟩
      refine ⟨_, hsub, ?_⟩
      by_cases hlt : j < b
      rotate_left
      · simp (maxSteps := 1000000) (implicitDefEqProofs := false) only [stp, if_true, if_false, Int.reduceEq, Int.reduceLT, Int.reduceLE, Int.reduceGT, Int.reduceGE, reduceCtorEq, Nat.reduceEqDiff, List.getElem?_cons_zero, List.getElem?_cons_succ, Option.map_some, hlt]
        exact ⟨rfl, j, ks, ⟨hj, hjb⟩, hks, rfl, (.cons rfl (.cons rfl (.cons rfl (.cons rfl (.cons rfl (.cons rfl (.cons rfl .nil)))))))⟩
      simp (maxSteps := 1000000) (implicitDefEqProofs := false) (disch := omega) only [stp, if_true, if_false, Int.reduceEq, Int.reduceLT, Int.reduceLE, Int.reduceGT, Int.reduceGE, reduceCtorEq, Nat.reduceEqDiff, List.getElem?_cons_zero, List.getElem?_cons_succ, Option.map_some, wrap_i64, hlt, w_ia, w_lda hid]
      refine cmp_ok _ _ _ _ fun d => ?_
      by_cases hd : d < 0
      · simp (maxSteps := 1000000) (implicitDefEqProofs := false) (disch := (try simp only [List.length_set]); omega) only [stp, if_true, if_false, Int.reduceEq, Int.reduceLT, Int.reduceLE, Int.reduceGT, Int.reduceGE, reduceCtorEq, Nat.reduceEqDiff, List.getElem?_cons_zero, List.getElem?_cons_succ, Option.map_some, wrap_i64, hd, w_ia, w_lda hid, w_st hid]
        exact ⟨(b - (j + 1)).toNat, by omega, j + 1, _, rfl, by omega, by omega, by simp [hks], rfl, (.cons rfl (.cons rfl (.cons rfl (.cons rfl (.cons rfl (.cons rfl (.cons rfl .nil)))))))⟩
      · simp (maxSteps := 1000000) (implicitDefEqProofs := false) (disch := omega) only [stp, if_true, if_false, Int.reduceEq, Int.reduceLT, Int.reduceLE, Int.reduceGT, Int.reduceGE, reduceCtorEq, Nat.reduceEqDiff, List.getElem?_cons_zero, List.getElem?_cons_succ, Option.map_some, wrap_i64, hd]
        exact ⟨rfl, j, ks, ⟨hj, hjb⟩, hks, rfl, (.cons rfl (.cons rfl (.cons rfl (.cons rfl (.cons rfl (.cons rfl (.cons rfl .nil)))))))⟩
    clear hks
    rintro e f G ⟨rfl, j, ks, ⟨hj, hjb⟩, hks, rfl, hf⟩
    have k9 := hf 9 _ rfl
    have k10 := hf 10 _ rfl
    have k0 := hf 0 _ rfl
    have k1 := hf 1 _ rfl
    have k2 := hf 2 _ rfl
    have k3 := hf 3 _ rfl
    simp (maxSteps := 1000000) (implicitDefEqProofs := false) (disch := omega) only [stp, if_true, if_false, Int.reduceEq, Int.reduceLT, Int.reduceLE, Int.reduceGT, Int.reduceGE, reduceCtorEq, Nat.reduceEqDiff, List.getElem?_cons_zero, List.getElem?_cons_succ, Option.map_some, wrap_i64, k9, k10, k0, k1, k2, k3]
    exact ⟨(5 - (c + 1)).toNat, by omega, c + 1, i, _, rfl, by omega, by omega, hi, hib, hks, rfl, (.cons rfl (.cons k9 (.cons k0 (.cons k1 (.cons k2 (.cons k3 .nil))))))⟩
  simp (maxSteps := 1000000) (implicitDefEqProofs := false) (disch := (try simp only [List.length_set]); omega) only [stp, if_true, if_false, Int.reduceEq, Int.reduceLT, Int.reduceLE, Int.reduceGT, Int.reduceGE, reduceCtorEq, Nat.reduceEqDiff, List.getElem?_cons_zero, List.getElem?_cons_succ, Option.map_some, wrap_i64, g9, g10, g0, g1, g2, g3, hbe, h50, w_ia, w_lda hid, w_st hid, h2]
  refine wpC_mono SCalls.scMono _ _ _ (PI H id n 4 11 [(9, .int .i64 i), (10, .int .i64 c), (0, .slice id 0 n none), (1, .int .i64 a), (2, .int .i64 b), (3, cmpF)] (fun j => 0 ≤ j ∧ j < i)) _ ?_ ?_
  · refine wp_loopI (fun m fr G => ∃ (j : Int) (ks : List KeyA), m = j.toNat ∧ 0 ≤ j ∧ j < i ∧ ks.length = n ∧ G = wr H id ks ∧ FrSub [(11, .int .i64 j), (9, .int .i64 i), (10, .int .i64 c), (0, .slice id 0 n none), (1, .int .i64 a), (2, .int .i64 b), (3, cmpF)] fr) _
      ⟨_, _, rfl, by omega, by omega, by simp [hks], rfl, (.cons rfl (.cons g9 (.cons g10 (.cons g0 (.cons g1 (.cons g2 (.cons g3 .nil)))))))⟩ ?_
    clear hks ks
    rintro m fr G ⟨j, ks, rfl, hj, hjb, hks, rfl, hsub⟩
    refine ⟨_, hsub, ?_⟩
    by_cases hlt : j ≥ 1
    rotate_left
    · simp (maxSteps := 1000000) (implicitDefEqProofs := false) only [stp, if_true, if_false, Int.reduceEq, Int.reduceLT, Int.reduceLE, Int.reduceGT, Int.reduceGE, reduceCtorEq, Nat.reduceEqDiff, List.getElem?_cons_zero, List.getElem?_cons_succ, Option.map_some, hlt]
      exact ⟨rfl, j, ks, ⟨hj, hjb⟩, hks, rfl, (.cons rfl (.cons rfl (.cons rfl (.cons rfl (.cons rfl (.cons rfl (.cons rfl .nil)))))))⟩
    simp (maxSteps := 1000000) (implicitDefEqProofs := false) (disch := omega) only [stp, if_true, if_false, Int.reduceEq, Int.reduceLT, Int.reduceLE, Int.reduceGT, Int.reduceGE, reduceCtorEq, Nat.reduceEqDiff, List.getElem?_cons_zero, List.getElem?_cons_succ, Option.map_some, wrap_i64, hlt, w_ia, w_lda hid]
    refine cmp_ok _ _ _ _ fun d => ?_
    by_cases hd : d < 0
    · simp (maxSteps := 1000000) (implicitDefEqProofs := false) (disch := (try simp only [List.length_set]); omega) only [stp, if_true, if_false, Int.reduceEq, Int.reduceLT, Int.reduceLE, Int.reduceGT, Int.reduceGE, reduceCtorEq, Nat.reduceEqDiff, List.getElem?_cons_zero, List.getElem?_cons_succ, Option.map_some, wrap_i64, hd, w_ia, w_lda hid, w_st hid]
      exact ⟨(j - 1).toNat, by omega, j - 1, _, rfl, by omega, by omega, by simp [hks], rfl, (.cons rfl (.cons rfl (.cons rfl (.cons rfl (.cons rfl (.cons rfl (.cons rfl .nil)))))))⟩
    · simp (maxSteps := 1000000) (implicitDefEqProofs := false) (disch := omega) only [stp, if_true, if_false, Int.reduceEq, Int.reduceLT, Int.reduceLE, Int.reduceGT, Int.reduceGE, reduceCtorEq, Nat.reduceEqDiff, List.getElem?_cons_zero, List.getElem?_cons_succ, Option.map_some, wrap_i64, hd]
      exact ⟨rfl, j, ks, ⟨hj, hjb⟩, hks, rfl, (.cons rfl (.cons rfl (.cons rfl (.cons rfl (.cons rfl (.cons rfl (.cons rfl .nil)))))))⟩
  clear hks g9 g10 g0 g1 g2 g3 hf
  rintro e f G ⟨rfl, j, ks, ⟨hj, hjb⟩, hks, rfl, hf⟩
  have g9 := hf 9 _ rfl
  have g10 := hf 10 _ rfl
  have g0 := hf 0 _ rfl
  have g1 := hf 1 _ rfl
  have g2 := hf 2 _ rfl
  have g3 := hf 3 _ rfl
  by_cases h2b : b - i ≥ 2
  rotate_left
  · simp (maxSteps := 1000000) (implicitDefEqProofs := false) (disch := omega) only [stp, if_true, if_false, Int.reduceEq, Int.reduceLT, Int.reduceLE, Int.reduceGT, Int.reduceGE, reduceCtorEq, Nat.reduceEqDiff, List.getElem?_cons_zero, List.getElem?_cons_succ, Option.map_some, wrap_i64, g9, g10, g0, g1, g2, g3, h2b]
    exact ⟨(5 - (c + 1)).toNat, by omega, c + 1, i, _, rfl, by omega, by omega, hi, hib, by simp [hks], rfl, (.cons rfl (.cons g9 (.cons g0 (.cons g1 (.cons g2 (.cons g3 .nil))))))⟩
  simp (maxSteps := 1000000) (implicitDefEqProofs := false) (disch := omega) only [stp, if_true, if_false, Int.reduceEq, Int.reduceLT, Int.reduceLE, Int.reduceGT, Int.reduceGE, reduceCtorEq, Nat.reduceEqDiff, List.getElem?_cons_zero, List.getElem?_cons_succ, Option.map_some, wrap_i64, g9, g10, g0, g1, g2, g3, h2b]
  refine wpC_mono SCalls.scMono _ _ _ (PI H id n 6 12 [(9, .int .i64 i), (10, .int .i64 c), (0, .slice id 0 n none), (1, .int .i64 a), (2, .int .i64 b), (3, cmpF)] (fun j => i + 1 ≤ j ∧ j ≤ b)) _ ?_ ?_
  · refine wp_loopI (fun m fr G => ∃ (j : Int) (ks : List KeyA), m = (b - j).toNat ∧ i + 1 ≤ j ∧ j ≤ b ∧ ks.length = n ∧ G = wr H id ks ∧ FrSub [(12, .int .i64 j), (9, .int .i64 i), (10, .int .i64 c), (0, .slice id 0 n none), (1, .int .i64 a), (2, .int .i64 b), (3, cmpF)] fr) _
      ⟨_, _, rfl, by omega, by omega, by simp [hks], rfl, (.cons rfl (.cons g9 (.cons g10 (.cons g0 (.cons g1 (.cons g2 (.cons g3 .nil)))))))⟩ ?_
    clear hks ks
    rintro m fr G ⟨j, ks, rfl, hj, hjb, hks, rfl, hsub⟩
    refine ⟨_, hsub, ?_⟩
    by_cases hlt : j < b
    rotate_left
    · simp (maxSteps := 1000000) (implicitDefEqProofs := false) only [stp, if_true, if_false, Int.reduceEq, Int.reduceLT, Int.reduceLE, Int.reduceGT, Int.reduceGE, reduceCtorEq, Nat.reduceEqDiff, List.getElem?_cons_zero, List.getElem?_cons_succ, Option.map_some, hlt]
      exact ⟨rfl, j, ks, ⟨hj, hjb⟩, hks, rfl, (.cons rfl (.cons rfl (.cons rfl (.cons rfl (.cons rfl (.cons rfl (.cons rfl .nil)))))))⟩
    simp (maxSteps := 1000000) (implicitDefEqProofs := false) (disch := omega) only [stp, if_true, if_false, Int.reduceEq, Int.reduceLT, Int.reduceLE, Int.reduceGT, Int.reduceGE, reduceCtorEq, Nat.reduceEqDiff, List.getElem?_cons_zero, List.getElem?_cons_succ, Option.map_some, wrap_i64, hlt, w_ia, w_lda hid]
    refine cmp_ok _ _ _ _ fun d => ?_
    by_cases hd : d < 0
    · simp (maxSteps := 1000000) (implicitDefEqProofs := false) (disch := (try simp only [List.length_set]); omega) only [stp, if_true, if_false, Int.reduceEq, Int.reduceLT, Int.reduceLE, Int.reduceGT, Int.reduceGE, reduceCtorEq, Nat.reduceEqDiff, List.getElem?_cons_zero, List.getElem?_cons_succ, Option.map_some, wrap_i64, hd, w_ia, w_lda hid, w_st hid]
      exact ⟨(b - (j + 1)).toNat, by omega, j + 1, _, rfl, by omega, by omega, by simp [hks], rfl, (.cons rfl (.cons rfl (.cons rfl (.cons rfl (.cons rfl (.cons rfl (.cons rfl .nil)))))))⟩
    · simp (maxSteps := 1000000) (implicitDefEqProofs := false) (disch := omega) only [stp, if_true, if_false, Int.reduceEq, Int.reduceLT, Int.reduceLE, Int.reduceGT, Int.reduceGE, reduceCtorEq, Nat.reduceEqDiff, List.getElem?_cons_zero, List.getElem?_cons_succ, Option.map_some, wrap_i64, hd]
      exact ⟨rfl, j, ks, ⟨hj, hjb⟩, hks, rfl, (.cons rfl (.cons rfl (.cons rfl (.cons rfl (.cons rfl (.cons rfl (.cons rfl .nil)))))))⟩
  clear hks
  rintro e f G ⟨rfl, j, ks, ⟨hj, hjb⟩, hks, rfl, hf⟩
  have k9 := hf 9 _ rfl
  have k10 := hf 10 _ rfl
  have k0 := hf 0 _ rfl
  have k1 := hf 1 _ rfl
  have k2 := hf 2 _ rfl
  have k3 := hf 3 _ rfl
  simp (maxSteps := 1000000) (implicitDefEqProofs := false) (disch := omega) only [stp, if_true, if_false, Int.reduceEq, Int.reduceLT, Int.reduceLE, Int.reduceGT, Int.reduceGE, reduceCtorEq, Nat.reduceEqDiff, List.getElem?_cons_zero, List.getElem?_cons_succ, Option.map_some, wrap_i64, k9, k10, k0, k1, k2, k3]
  exact ⟨(5 - (c + 1)).toNat, by omega, c + 1, i, _, rfl, by omega, by omega, hi, hib, hks, rfl, (.cons rfl (.cons k9 (.cons k0 (.cons k1 (.cons k2 (.cons k3 .nil))))))⟩
def pdqF : ACode :=
 (.seq
               (.region [⟨some 106, none, .ex (.mov) [.s 0]⟩,
                 ⟨some 107, none, .ex (.mov) [.s 1]⟩,
                 ⟨some 108, none, .ex (.mov) [.s 2]⟩,
                 ⟨some 109, none, .ex (.mov) [.s 13]⟩,
                 ⟨some 110, none, .ex (.mov) [.s 4]⟩,
                 ⟨some 111, none, .callf 82 [.s 106, .s 107, .s 108, .s 109, .s 110]⟩,
                 ⟨some 105, none, .ex (.mov) [.s 111]⟩,
                 ⟨some 112, none, .ex (.ext 0) [.s 105]⟩,
                 ⟨some 113, none, .ex (.ext 1) [.s 105]⟩,
                 ⟨some 16, none, .ex (.mov) [.s 112]⟩,
                 ⟨some 17, none, .ex (.mov) [.s 113]⟩])
               (.seq
                (.region [⟨some 114, none, .ex (.mov) [.s 17]⟩,
                  ⟨some 11, none, .ex (.mov) [.s 114]⟩])
                (.seq
                 (.region [⟨some 115, none, .ex (.mov) [.s 16]⟩,
                   ⟨some 116, none, .ex (.mov) [.s 1]⟩,
                   ⟨some 117, none, .ex (.ibin .sub) [.s 115, .s 116]⟩,
                   ⟨some 118, none, .ex (.mov) [.s 2]⟩,
                   ⟨some 119, none, .ex (.mov) [.s 16]⟩,
                   ⟨some 120, none, .ex (.ibin .sub) [.s 118, .s 119]⟩,
                   ⟨some 18, none, .ex (.mov) [.s 117]⟩,
                   ⟨some 19, none, .ex (.mov) [.s 120]⟩])
                 (.seq
                  (.region [⟨some 121, none, .ex (.mov) [.s 12]⟩,
                    ⟨some 122, none, .ex (.ibin .quo) [.s 121, .k (.int .i64 8)]⟩,
                    ⟨some 20, none, .ex (.mov) [.s 122]⟩])
                  (.seq
                   (.region [⟨some 123, none, .ex (.mov) [.s 18]⟩,
                     ⟨some 124, none, .ex (.mov) [.s 19]⟩,
                     ⟨some 125, none, .ex (.ibin .lss) [.s 123, .s 124]⟩])
                   (.cond (.s 125)
                    (.seq
                     (.region [⟨some 126, none, .ex (.mov) [.s 18]⟩,
                       ⟨some 127, none, .ex (.mov) [.s 20]⟩,
                       ⟨some 128, none, .ex (.ibin .geq) [.s 126, .s 127]⟩,
                       ⟨some 10, none, .ex (.mov) [.s 128]⟩])
                     (.seq
                      (.region [⟨some 129, none, .ex (.mov) [.s 0]⟩,
                        ⟨some 130, none, .ex (.mov) [.s 1]⟩,
                        ⟨some 131, none, .ex (.mov) [.s 16]⟩,
                        ⟨some 132, none, .ex (.mov) [.s 3]⟩,
                        ⟨some 133, none, .ex (.mov) [.s 4]⟩,
                        ⟨some 134, none, .callf 54 [.s 129, .s 130, .s 131, .s 132, .s 133]⟩])
                      (.region [⟨some 135, none, .ex (.mov) [.s 16]⟩,
                        ⟨some 136, none, .ex (.ibin .add) [.s 135, .k (.int .i64 1)]⟩,
                        ⟨some 1, none, .ex (.mov) [.s 136]⟩])))
                    (.seq
                     (.region [⟨some 137, none, .ex (.mov) [.s 19]⟩,
                       ⟨some 138, none, .ex (.mov) [.s 20]⟩,
                       ⟨some 139, none, .ex (.ibin .geq) [.s 137, .s 138]⟩,
                       ⟨some 10, none, .ex (.mov) [.s 139]⟩])
                     (.seq
                      (.region [⟨some 140, none, .ex (.mov) [.s 0]⟩,
                        ⟨some 141, none, .ex (.mov) [.s 16]⟩,
                        ⟨some 142, none, .ex (.ibin .add) [.s 141, .k (.int .i64 1)]⟩,
                        ⟨some 143, none, .ex (.mov) [.s 2]⟩,
                        ⟨some 144, none, .ex (.mov) [.s 3]⟩,
                        ⟨some 145, none, .ex (.mov) [.s 4]⟩,
                        ⟨some 146, none, .callf 54 [.s 140, .s 142, .s 143, .s 144, .s 145]⟩])
                      (.region [⟨some 147, none, .ex (.mov) [.s 16]⟩,
                        ⟨some 2, none, .ex (.mov) [.s 147]⟩])))))))))

def pdqE : ACode :=
 (.seq
              (.seq
               (.draw (.op ⟨some 81, none, .ex (.mov) [.s 1]⟩ (.op ⟨some 82, none, .ex (.ibin .gtr) [.s 81, .k (.int .i64 0)]⟩ (.op ⟨some 83, none, .ex (.mov) [.s 82]⟩ (.op ⟨some 84, some (83, true), .ex (.mov) [.s 4]⟩ (.op ⟨some 85, some (83, true), .ex (.mov) [.s 0]⟩ (.op ⟨some 86, some (83, true), .ex (.mov) [.s 1]⟩ (.op ⟨some 87, some (83, true), .ex (.ibin .sub) [.s 86, .k (.int .i64 1)]⟩ (.op ⟨some 88, some (83, true), .ex (.ia 6) [.s 85, .s 87]⟩ (.op ⟨some 89, some (83, true), .ex (.lda 6) [.s 88]⟩ (.op ⟨some 90, some (83, true), .ex (.mov) [.s 0]⟩ (.op ⟨some 91, some (83, true), .ex (.mov) [.s 13]⟩ (.op ⟨some 92, some (83, true), .ex (.ia 6) [.s 90, .s 91]⟩ (.op ⟨some 93, some (83, true), .ex (.lda 6) [.s 92]⟩ (.op ⟨some 94, some (83, true), .callv (.s 84) [.s 89, .s 93]⟩ (.op ⟨some 95, some (83, true), .ex (.ibin .lss) [.s 94, .k (.int .i64 0)]⟩ (.op ⟨some 96, some (83, true), .ex (.bnot) [.s 95]⟩ (.op ⟨some 97, none, .ex (.pick) [.s 83, .s 96, .k (.bool false)]⟩ .done))))))))))))))))))
               (.cond (.s 97)
                (.seq
                 (.region [⟨some 98, none, .ex (.mov) [.s 0]⟩,
                   ⟨some 99, none, .ex (.mov) [.s 1]⟩,
                   ⟨some 100, none, .ex (.mov) [.s 2]⟩,
                   ⟨some 101, none, .ex (.mov) [.s 13]⟩,
                   ⟨some 102, none, .ex (.mov) [.s 4]⟩,
                   ⟨some 103, none, .callf 81 [.s 98, .s 99, .s 100, .s 101, .s 102]⟩,
                   ⟨some 15, none, .ex (.mov) [.s 103]⟩])
                 (.seq
                  (.region [⟨some 104, none, .ex (.mov) [.s 15]⟩,
                    ⟨some 1, none, .ex (.mov) [.s 104]⟩])
                  (.exit 1)))
                .skip))
              pdqF)

def pdqD : ACode :=
 (.seq
             (.seq
              (.region [⟨some 68, none, .ex (.mov) [.s 10]⟩,
                ⟨some 69, none, .ex (.mov) [.s 68]⟩,
                ⟨some 70, some (69, true), .ex (.mov) [.s 11]⟩,
                ⟨some 71, none, .ex (.pick) [.s 69, .s 70, .k (.bool false)]⟩,
                ⟨some 72, none, .ex (.mov) [.s 71]⟩,
                ⟨some 73, some (72, true), .ex (.mov) [.s 14]⟩,
                ⟨some 74, some (72, true), .ex (.ibin .eql) [.s 73, .k (.int .i64 1)]⟩,
                ⟨some 75, none, .ex (.pick) [.s 72, .s 74, .k (.bool false)]⟩])
              (.cond (.s 75)
               (.seq
                (.region [⟨some 76, none, .ex (.mov) [.s 0]⟩,
                  ⟨some 77, none, .ex (.mov) [.s 1]⟩,
                  ⟨some 78, none, .ex (.mov) [.s 2]⟩,
                  ⟨some 79, none, .ex (.mov) [.s 4]⟩,
                  ⟨some 80, none, .callf 80 [.s 76, .s 77, .s 78, .s 79]⟩])
                (.cond (.s 80)
                 .ret
                 .skip))
               .skip))
             pdqE)

def pdqC : ACode :=
 (.seq
            (.seq
             (.region [⟨some 55, none, .ex (.mov) [.s 14]⟩,
               ⟨some 56, none, .ex (.ibin .eql) [.s 55, .k (.int .i64 2)]⟩])
             (.cond (.s 56)
              (.seq
               (.region [⟨some 57, none, .ex (.mov) [.s 0]⟩,
                 ⟨some 58, none, .ex (.mov) [.s 1]⟩,
                 ⟨some 59, none, .ex (.mov) [.s 2]⟩,
                 ⟨some 60, none, .ex (.mov) [.s 4]⟩,
                 ⟨some 61, none, .callf 79 [.s 57, .s 58, .s 59, .s 60]⟩])
               (.seq
                (.region [⟨some 62, none, .ex (.mov) [.s 2]⟩,
                  ⟨some 63, none, .ex (.ibin .sub) [.s 62, .k (.int .i64 1)]⟩,
                  ⟨some 64, none, .ex (.mov) [.s 13]⟩,
                  ⟨some 65, none, .ex (.mov) [.s 1]⟩,
                  ⟨some 66, none, .ex (.ibin .sub) [.s 64, .s 65]⟩,
                  ⟨some 67, none, .ex (.ibin .sub) [.s 63, .s 66]⟩,
                  ⟨some 13, none, .ex (.mov) [.s 67]⟩])
                (.region [⟨some 14, none, .ex (.mov) [.k (.int .i64 1)]⟩])))
              .skip))
            pdqD)

def fn54' : AFn := ⟨148,
 (.seq
  (.region [⟨some 10, none, .ex (.mov) [.k (.bool true)]⟩])
  (.seq
   (.region [⟨some 11, none, .ex (.mov) [.k (.bool true)]⟩])
   (.block 0
    (.loop
     (.block 1
      (.seq
       (.region [⟨some 21, none, .ex (.mov) [.s 2]⟩,
         ⟨some 22, none, .ex (.mov) [.s 1]⟩,
         ⟨some 23, none, .ex (.ibin .sub) [.s 21, .s 22]⟩,
         ⟨some 12, none, .ex (.mov) [.s 23]⟩])
       (.seq
        (.seq
         (.region [⟨some 24, none, .ex (.mov) [.s 12]⟩,
           ⟨some 25, none, .ex (.ibin .leq) [.s 24, .k (.int .i64 12)]⟩])
         (.cond (.s 25)
          (.seq
           (.region [⟨some 26, none, .ex (.mov) [.s 0]⟩,
             ⟨some 27, none, .ex (.mov) [.s 1]⟩,
             ⟨some 28, none, .ex (.mov) [.s 2]⟩,
             ⟨some 29, none, .ex (.mov) [.s 4]⟩,
             ⟨some 30, none, .callf 75 [.s 26, .s 27, .s 28, .s 29]⟩])
           .ret)
          .skip))
        (.seq
         (.seq
          (.region [⟨some 31, none, .ex (.mov) [.s 3]⟩,
            ⟨some 32, none, .ex (.ibin .eql) [.s 31, .k (.int .i64 0)]⟩])
          (.cond (.s 32)
           (.seq
            (.region [⟨some 33, none, .ex (.mov) [.s 0]⟩,
              ⟨some 34, none, .ex (.mov) [.s 1]⟩,
              ⟨some 35, none, .ex (.mov) [.s 2]⟩,
              ⟨some 36, none, .ex (.mov) [.s 4]⟩,
              ⟨some 37, none, .callf 76 [.s 33, .s 34, .s 35, .s 36]⟩])
            .ret)
           .skip))
         (.seq
          (.seq
           (.region [⟨some 38, none, .ex (.mov) [.s 10]⟩,
             ⟨some 39, none, .ex (.bnot) [.s 38]⟩])
           (.cond (.s 39)
            (.seq
             (.region [⟨some 40, none, .ex (.mov) [.s 0]⟩,
               ⟨some 41, none, .ex (.mov) [.s 1]⟩,
               ⟨some 42, none, .ex (.mov) [.s 2]⟩,
               ⟨some 43, none, .ex (.mov) [.s 4]⟩,
               ⟨some 44, none, .callf 77 [.s 40, .s 41, .s 42, .s 43]⟩])
             (.region [⟨some 45, none, .ex (.mov) [.s 3]⟩,
               ⟨some 46, none, .ex (.ibin .sub) [.s 45, .k (.int .i64 1)]⟩,
               ⟨some 3, none, .ex (.mov) [.s 46]⟩]))
            .skip))
          (.seq
           (.region [⟨some 48, none, .ex (.mov) [.s 0]⟩,
             ⟨some 49, none, .ex (.mov) [.s 1]⟩,
             ⟨some 50, none, .ex (.mov) [.s 2]⟩,
             ⟨some 51, none, .ex (.mov) [.s 4]⟩,
             ⟨some 52, none, .callf 78 [.s 48, .s 49, .s 50, .s 51]⟩,
             ⟨some 47, none, .ex (.mov) [.s 52]⟩,
             ⟨some 53, none, .ex (.ext 0) [.s 47]⟩,
             ⟨some 54, none, .ex (.ext 1) [.s 47]⟩,
             ⟨some 13, none, .ex (.mov) [.s 53]⟩,
             ⟨some 14, none, .ex (.mov) [.s 54]⟩])
           pdqC)))))))))),
 []⟩
theorem c54' : compFn Go.Proofs.Tryd.prog 54 = some fn54' := c54


/-- What a round of the sort may end with. -/
def PdqEnd (H : Heap) (id n : Nat) (x y : Int) (Q : Exit → Fr → Heap → Prop) : Prop :=
  (∀ f G, Left H id n G → Q .ret f G) ∧ ∀ (e : Exit) f G (x' y' z' : Int) (p' q' : Bool), (e = .normal ∨ e = .exit 1) → x ≤ x' → x' ≤ y' → y' ≤ y → y' - x' < y - x → Left H id n G → FrSub [(10, .bool p'), (11, .bool q'), (0, .slice id 0 n none), (1, .int .i64 x'), (2, .int .i64 y'), (3, .int .i64 z'), (4, cmpF)] f → Q e f G

set_option maxRecDepth 20000 in
set_option maxHeartbeats 4000000 in
theorem pdqF_ok {H : Heap} {id n : Nat} (hid : id < H.next) (hn : n ≤ 64) {x y : Int} (hx : 0 ≤ x) (hy : y ≤ n) {Q : Exit → Fr → Heap → Prop}
    (hrec : ∀ (H : Heap) (ks : List KeyA) (a b l : Int), WF H → id < H.next → ks.length = n → 0 ≤ a → a ≤ b → b ≤ n → b - a < y - x → SCalls PP 54 [.slice id 0 n none, .int .i64 a, .int .i64 b, .int .i64 l, cmpF] (wr H id ks) fun _ H' => Left H id n H')
    (hQ : PdqEnd H id n x y Q) {G : Heap} (hL : Left H id n G) {f : Fr} {z pv : Int} {p q : Bool} (hpv : x ≤ pv ∧ pv < y) (hf : FrSub [(11, .bool q), (10, .bool p), (12, .int .i64 (y - x)), (13, .int .i64 pv), (0, .slice id 0 n none), (1, .int .i64 x), (2, .int .i64 y), (3, .int .i64 z), (4, cmpF)] f) : wpC (SCalls PP) pdqF f G Q := by
  have g12 := hf 12 _ rfl
  have g13 := hf 13 _ rfl
  have g0 := hf 0 _ rfl
  have g1 := hf 1 _ rfl
  have g2 := hf 2 _ rfl
  have g3 := hf 3 _ rfl
  have g4 := hf 4 _ rfl
  obtain ⟨H2, ks, hx2, hw2, hks, rfl⟩ := hL.out
  have hid2 := Left.hid hid hx2
  simp (maxSteps := 1000000) (implicitDefEqProofs := false) only [stp, if_true, if_false, Int.reduceEq, Int.reduceLT, Int.reduceLE, Int.reduceGT, Int.reduceGE, reduceCtorEq, Nat.reduceEqDiff, List.getElem?_cons_zero, List.getElem?_cons_succ, Option.map_some, pdqF, g12, g13, g0, g1, g2, g3, g4]
  refine SCalls.mono (partition_calls hw2 hid2 hn hks (a := x) (b := y) (by omega) (by omega) (by omega) hpv) ?_
  rintro r G ⟨m, t, rfl, hm, hL2⟩
  obtain ⟨H3, ks3, hx3, hw3, hks3, rfl⟩ := (hL2.of hx2).out
  have hid3 := Left.hid hid hx3
  by_cases hlr : m - x < y - m
  · simp (maxSteps := 1000000) (implicitDefEqProofs := false) (disch := omega) only [stp, if_true, if_false, Int.reduceEq, Int.reduceLT, Int.reduceLE, Int.reduceGT, Int.reduceGE, reduceCtorEq, Nat.reduceEqDiff, List.getElem?_cons_zero, List.getElem?_cons_succ, Option.map_some, wrap_i64, g12, g13, g0, g1, g2, g3, g4, x_quo, hlr]
    refine SCalls.mono (hrec H3 ks3 x m z hw3 hid3 hks3 (by omega) (by omega) (by omega) (by omega)) ?_
    rintro r G hL4
    simp (maxSteps := 1000000) (implicitDefEqProofs := false) (disch := omega) only [stp, if_true, if_false, Int.reduceEq, Int.reduceLT, Int.reduceLE, Int.reduceGT, Int.reduceGE, reduceCtorEq, Nat.reduceEqDiff, List.getElem?_cons_zero, List.getElem?_cons_succ, Option.map_some, wrap_i64, g12, g13, g0, g1, g2, g3, g4]
    exact hQ.2 _ _ _ (m + 1) y z _ _ (.inl rfl) (by omega) (by omega) (by omega) (by omega) (hL4.of hx3) (.cons rfl (.cons rfl (.cons g0 (.cons rfl (.cons g2 (.cons g3 (.cons g4 .nil)))))))
  · simp (maxSteps := 1000000) (implicitDefEqProofs := false) (disch := omega) only [stp, if_true, if_false, Int.reduceEq, Int.reduceLT, Int.reduceLE, Int.reduceGT, Int.reduceGE, reduceCtorEq, Nat.reduceEqDiff, List.getElem?_cons_zero, List.getElem?_cons_succ, Option.map_some, wrap_i64, g12, g13, g0, g1, g2, g3, g4, x_quo, hlr]
    refine SCalls.mono (hrec H3 ks3 (m + 1) y z hw3 hid3 hks3 (by omega) (by omega) (by omega) (by omega)) ?_
    rintro r G hL4
    simp (maxSteps := 1000000) (implicitDefEqProofs := false) (disch := omega) only [stp, if_true, if_false, Int.reduceEq, Int.reduceLT, Int.reduceLE, Int.reduceGT, Int.reduceGE, reduceCtorEq, Nat.reduceEqDiff, List.getElem?_cons_zero, List.getElem?_cons_succ, Option.map_some, wrap_i64, g12, g13, g0, g1, g2, g3, g4]
    exact hQ.2 _ _ _ x m z _ _ (.inl rfl) (by omega) (by omega) (by omega) (by omega) (hL4.of hx3) (.cons rfl (.cons rfl (.cons g0 (.cons g1 (.cons rfl (.cons g3 (.cons g4 .nil)))))))

set_option maxRecDepth 20000 in
set_option maxHeartbeats 4000000 in
theorem pdqE_ok {H : Heap} {id n : Nat} (hid : id < H.next) (hn : n ≤ 64) {x y : Int} (hx : 0 ≤ x) (hy : y ≤ n) {Q : Exit → Fr → Heap → Prop}
    (hrec : ∀ (H : Heap) (ks : List KeyA) (a b l : Int), WF H → id < H.next → ks.length = n → 0 ≤ a → a ≤ b → b ≤ n → b - a < y - x → SCalls PP 54 [.slice id 0 n none, .int .i64 a, .int .i64 b, .int .i64 l, cmpF] (wr H id ks) fun _ H' => Left H id n H')
    (hQ : PdqEnd H id n x y Q) {G : Heap} (hL : Left H id n G) {f : Fr} {z pv : Int} {p q : Bool} (hpv : x ≤ pv ∧ pv < y) (hf : FrSub [(11, .bool q), (10, .bool p), (12, .int .i64 (y - x)), (13, .int .i64 pv), (0, .slice id 0 n none), (1, .int .i64 x), (2, .int .i64 y), (3, .int .i64 z), (4, cmpF)] f) : wpC (SCalls PP) pdqE f G Q := by
  have g11 := hf 11 _ rfl
  have g10 := hf 10 _ rfl
  have g12 := hf 12 _ rfl
  have g13 := hf 13 _ rfl
  have g0 := hf 0 _ rfl
  have g1 := hf 1 _ rfl
  have g2 := hf 2 _ rfl
  have g3 := hf 3 _ rfl
  have g4 := hf 4 _ rfl
  obtain ⟨H2, ks, hx2, hw2, hks, rfl⟩ := hL.out
  have hid2 := Left.hid hid hx2
  by_cases h0 : x > 0
  rotate_left
  · simp (maxSteps := 1000000) (implicitDefEqProofs := false) only [stp, if_true, if_false, Int.reduceEq, Int.reduceLT, Int.reduceLE, Int.reduceGT, Int.reduceGE, reduceCtorEq, Nat.reduceEqDiff, List.getElem?_cons_zero, List.getElem?_cons_succ, Option.map_some, pdqE, g12, g13, g0, g1, g2, g3, g4, h0]
    exact pdqF_ok hid hn hx hy hrec hQ hL hpv (.cons g11 (.cons g10 (.cons g12 (.cons g13 (.cons g0 (.cons g1 (.cons g2 (.cons g3 (.cons g4 .nil)))))))))
  simp (maxSteps := 1000000) (implicitDefEqProofs := false) (disch := omega) only [stp, if_true, if_false, Int.reduceEq, Int.reduceLT, Int.reduceLE, Int.reduceGT, Int.reduceGE, reduceCtorEq, Nat.reduceEqDiff, List.getElem?_cons_zero, List.getElem?_cons_succ, Option.map_some, wrap_i64, pdqE, g12, g13, g0, g1, g2, g3, g4, h0, w_ia, w_lda hid2]
  refine cmp_ok _ _ _ _ fun c => ?_
  by_cases hc : c < 0
  · simp (maxSteps := 1000000) (implicitDefEqProofs := false) only [stp, if_true, if_false, Int.reduceEq, Int.reduceLT, Int.reduceLE, Int.reduceGT, Int.reduceGE, reduceCtorEq, Nat.reduceEqDiff, List.getElem?_cons_zero, List.getElem?_cons_succ, Option.map_some, hc]
    exact pdqF_ok hid hn hx hy hrec hQ hL hpv (.cons g11 (.cons g10 (.cons g12 (.cons g13 (.cons g0 (.cons g1 (.cons g2 (.cons g3 (.cons g4 .nil)))))))))
  · simp (maxSteps := 1000000) (implicitDefEqProofs := false) only [stp, if_true, if_false, Int.reduceEq, Int.reduceLT, Int.reduceLE, Int.reduceGT, Int.reduceGE, reduceCtorEq, Nat.reduceEqDiff, List.getElem?_cons_zero, List.getElem?_cons_succ, Option.map_some, hc, g0, g1, g2, g13, g4]
    refine SCalls.mono (partitionEq_calls hw2 hid2 hn hks (a := x) (b := y) (by omega) (by omega) (by omega) hpv) ?_
    rintro r G ⟨m, rfl, hm, hL2⟩
    simp (maxSteps := 1000000) (implicitDefEqProofs := false) only [stp, if_true, if_false, Int.reduceEq, Int.reduceLT, Int.reduceLE, Int.reduceGT, Int.reduceGE, reduceCtorEq, Nat.reduceEqDiff, List.getElem?_cons_zero, List.getElem?_cons_succ, Option.map_some, if_true]
    exact hQ.2 _ _ _ m y z p q (.inr rfl) (by omega) (by omega) (by omega) (by omega) (hL2.of hx2) (.cons g10 (.cons g11 (.cons g0 (.cons rfl (.cons g2 (.cons g3 (.cons g4 .nil)))))))

set_option maxRecDepth 20000 in
set_option maxHeartbeats 4000000 in
theorem pdqD_ok {H : Heap} {id n : Nat} (hid : id < H.next) (hn : n ≤ 64) {x y : Int} (hx : 0 ≤ x) (hy : y ≤ n) {Q : Exit → Fr → Heap → Prop}
    (hrec : ∀ (H : Heap) (ks : List KeyA) (a b l : Int), WF H → id < H.next → ks.length = n → 0 ≤ a → a ≤ b → b ≤ n → b - a < y - x → SCalls PP 54 [.slice id 0 n none, .int .i64 a, .int .i64 b, .int .i64 l, cmpF] (wr H id ks) fun _ H' => Left H id n H')
    (hQ : PdqEnd H id n x y Q) {G : Heap} (hL : Left H id n G) {f : Fr} {z pv h : Int} {p q : Bool} (hpv : x ≤ pv ∧ pv < y) (hf : FrSub [(14, .int .i64 h), (11, .bool q), (10, .bool p), (12, .int .i64 (y - x)), (13, .int .i64 pv), (0, .slice id 0 n none), (1, .int .i64 x), (2, .int .i64 y), (3, .int .i64 z), (4, cmpF)] f) : wpC (SCalls PP) pdqD f G Q := by
  have g14 := hf 14 _ rfl
  have g11 := hf 11 _ rfl
  have g10 := hf 10 _ rfl
  have g12 := hf 12 _ rfl
  have g13 := hf 13 _ rfl
  have g0 := hf 0 _ rfl
  have g1 := hf 1 _ rfl
  have g2 := hf 2 _ rfl
  have g3 := hf 3 _ rfl
  have g4 := hf 4 _ rfl
  obtain ⟨H2, ks, hx2, hw2, hks, rfl⟩ := hL.out
  have hid2 := Left.hid hid hx2
  by_cases hh : p = true ∧ q = true ∧ h = 1
  rotate_left
  · have hh' : p = false ∨ (p = true ∧ q = false) ∨ (p = true ∧ q = true ∧ ¬ h = 1) := by
      cases p <;> cases q <;> simp at hh ⊢
      exact hh
    rcases hh' with rfl | ⟨rfl, rfl⟩ | ⟨rfl, rfl, hh'⟩
    · simp (maxSteps := 1000000) (implicitDefEqProofs := false) only [stp, if_true, if_false, Int.reduceEq, Int.reduceLT, Int.reduceLE, Int.reduceGT, Int.reduceGE, reduceCtorEq, Nat.reduceEqDiff, List.getElem?_cons_zero, List.getElem?_cons_succ, Option.map_some, pdqD, g10, g11, g14]
      exact pdqE_ok hid hn hx hy hrec hQ hL hpv (.cons g11 (.cons g10 (.cons g12 (.cons g13 (.cons g0 (.cons g1 (.cons g2 (.cons g3 (.cons g4 .nil)))))))))
    · simp (maxSteps := 1000000) (implicitDefEqProofs := false) only [stp, if_true, if_false, Int.reduceEq, Int.reduceLT, Int.reduceLE, Int.reduceGT, Int.reduceGE, reduceCtorEq, Nat.reduceEqDiff, List.getElem?_cons_zero, List.getElem?_cons_succ, Option.map_some, pdqD, g10, g11, g14]
      exact pdqE_ok hid hn hx hy hrec hQ hL hpv (.cons g11 (.cons g10 (.cons g12 (.cons g13 (.cons g0 (.cons g1 (.cons g2 (.cons g3 (.cons g4 .nil)))))))))
    · simp (maxSteps := 1000000) (implicitDefEqProofs := false) only [stp, if_true, if_false, Int.reduceEq, Int.reduceLT, Int.reduceLE, Int.reduceGT, Int.reduceGE, reduceCtorEq, Nat.reduceEqDiff, List.getElem?_cons_zero, List.getElem?_cons_succ, Option.map_some, pdqD, g10, g11, g14, hh']
      exact pdqE_ok hid hn hx hy hrec hQ hL hpv (.cons g11 (.cons g10 (.cons g12 (.cons g13 (.cons g0 (.cons g1 (.cons g2 (.cons g3 (.cons g4 .nil)))))))))
  obtain ⟨rfl, rfl, rfl⟩ := hh
  simp (maxSteps := 1000000) (implicitDefEqProofs := false) only [stp, if_true, if_false, Int.reduceEq, Int.reduceLT, Int.reduceLE, Int.reduceGT, Int.reduceGE, reduceCtorEq, Nat.reduceEqDiff, List.getElem?_cons_zero, List.getElem?_cons_succ, Option.map_some, pdqD, g10, g11, g14, g0, g1, g2, g4]
  refine SCalls.mono (partial_calls hw2 hid2 hn hks (a := x) (b := y) (by omega) (by omega) (by omega)) ?_
  rintro r G ⟨t, rfl, hL2⟩
  cases t with
  | true =>
    simp (maxSteps := 1000000) (implicitDefEqProofs := false) only [stp, if_true, if_false, Int.reduceEq, Int.reduceLT, Int.reduceLE, Int.reduceGT, Int.reduceGE, reduceCtorEq, Nat.reduceEqDiff, List.getElem?_cons_zero, List.getElem?_cons_succ, Option.map_some, if_true]
    exact hQ.1 _ _ (hL2.of hx2)
  | false =>
    simp (maxSteps := 1000000) (implicitDefEqProofs := false) only [stp, if_true, if_false, Int.reduceEq, Int.reduceLT, Int.reduceLE, Int.reduceGT, Int.reduceGE, reduceCtorEq, Nat.reduceEqDiff, List.getElem?_cons_zero, List.getElem?_cons_succ, Option.map_some, if_true]
    exact pdqE_ok hid hn hx hy hrec hQ (hL2.of hx2) hpv (.cons g11 (.cons g10 (.cons g12 (.cons g13 (.cons g0 (.cons g1 (.cons g2 (.cons g3 (.cons g4 .nil)))))))))

set_option maxRecDepth 20000 in
set_option maxHeartbeats 4000000 in
theorem pdqC_ok {H : Heap} {id n : Nat} (hid : id < H.next) (hn : n ≤ 64) {x y : Int} (hx : 0 ≤ x) (hy : y ≤ n) {Q : Exit → Fr → Heap → Prop}
    (hrec : ∀ (H : Heap) (ks : List KeyA) (a b l : Int), WF H → id < H.next → ks.length = n → 0 ≤ a → a ≤ b → b ≤ n → b - a < y - x → SCalls PP 54 [.slice id 0 n none, .int .i64 a, .int .i64 b, .int .i64 l, cmpF] (wr H id ks) fun _ H' => Left H id n H')
    (hQ : PdqEnd H id n x y Q) {G : Heap} (hL : Left H id n G) {f : Fr} {z pv h : Int} {p q : Bool} (hpv : x ≤ pv ∧ pv < y) (hf : FrSub [(14, .int .i64 h), (11, .bool q), (10, .bool p), (12, .int .i64 (y - x)), (13, .int .i64 pv), (0, .slice id 0 n none), (1, .int .i64 x), (2, .int .i64 y), (3, .int .i64 z), (4, cmpF)] f) : wpC (SCalls PP) pdqC f G Q := by
  have g14 := hf 14 _ rfl
  have g11 := hf 11 _ rfl
  have g10 := hf 10 _ rfl
  have g12 := hf 12 _ rfl
  have g13 := hf 13 _ rfl
  have g0 := hf 0 _ rfl
  have g1 := hf 1 _ rfl
  have g2 := hf 2 _ rfl
  have g3 := hf 3 _ rfl
  have g4 := hf 4 _ rfl
  obtain ⟨H2, ks, hx2, hw2, hks, rfl⟩ := hL.out
  have hid2 := Left.hid hid hx2
  by_cases hh : h = 2
  rotate_left
  · simp (maxSteps := 1000000) (implicitDefEqProofs := false) only [stp, if_true, if_false, Int.reduceEq, Int.reduceLT, Int.reduceLE, Int.reduceGT, Int.reduceGE, reduceCtorEq, Nat.reduceEqDiff, List.getElem?_cons_zero, List.getElem?_cons_succ, Option.map_some, pdqC, g14, hh]
    exact pdqD_ok hid hn hx hy hrec hQ hL hpv (.cons g14 (.cons g11 (.cons g10 (.cons g12 (.cons g13 (.cons g0 (.cons g1 (.cons g2 (.cons g3 (.cons g4 .nil))))))))))
  simp (maxSteps := 1000000) (implicitDefEqProofs := false) only [stp, if_true, if_false, Int.reduceEq, Int.reduceLT, Int.reduceLE, Int.reduceGT, Int.reduceGE, reduceCtorEq, Nat.reduceEqDiff, List.getElem?_cons_zero, List.getElem?_cons_succ, Option.map_some, pdqC, g14, hh, g0, g1, g2, g4]
  refine SCalls.mono (reverse_calls hw2 hid2 hn hks (a := x) (b := y) (by omega) (by omega) (by omega)) ?_
  rintro r G hL2
  simp (maxSteps := 1000000) (implicitDefEqProofs := false) (disch := omega) only [stp, if_true, if_false, Int.reduceEq, Int.reduceLT, Int.reduceLE, Int.reduceGT, Int.reduceGE, reduceCtorEq, Nat.reduceEqDiff, List.getElem?_cons_zero, List.getElem?_cons_succ, Option.map_some, wrap_i64, g1, g2, g13]
  exact pdqD_ok hid hn hx hy hrec hQ (hL2.of hx2) (pv := y - 1 - (pv - x)) (by omega) (.cons rfl (.cons g11 (.cons g10 (.cons g12 (.cons rfl (.cons g0 (.cons g1 (.cons g2 (.cons g3 (.cons g4 .nil))))))))))

set_option maxRecDepth 20000 in
set_option maxHeartbeats 4000000 in
theorem pdq_calls (N : Nat) : ∀ {H : Heap} (hw : WF H) {id n : Nat} (hid : id < H.next) (hn : n ≤ 64) {ks : List KeyA} (hks : ks.length = n) {a b : Int} (l : Int) (ha : 0 ≤ a) (hab : a ≤ b) (hb : b ≤ n) (hN : b - a < N),
    SCalls PP 54 [.slice id 0 n none, .int .i64 a, .int .i64 b, .int .i64 l, cmpF] (wr H id ks) fun _ H' => Left H id n H' := by
  induction N with
  | zero => intro H hw id n hid hn ks hks a b l ha hab hb hN; exact absurd hN (by omega)
  | succ N ih =>
  intro H hw id n hid hn ks hks a b l ha hab hb hN
  refine SCalls.go c54' (by simp [fn54']) fun hz => ?_
  clear hz
  simp (maxSteps := 1000000) (implicitDefEqProofs := false) only [stp, if_true, if_false, Int.reduceEq, Int.reduceLT, Int.reduceLE, Int.reduceGT, Int.reduceGE, reduceCtorEq, Nat.reduceEqDiff, List.getElem?_cons_zero, List.getElem?_cons_succ, Option.map_some, fn54', enterFr, List.length, List.range, List.range.loop, List.zip, List.zipWith]
  refine wp_loopI (fun m fr G => ∃ (x y z : Int) (p q : Bool), m = (y - x).toNat ∧ a ≤ x ∧ x ≤ y ∧ y ≤ b ∧ Left H id n G ∧ FrSub [(10, .bool p), (11, .bool q), (0, .slice id 0 n none), (1, .int .i64 x), (2, .int .i64 y), (3, .int .i64 z), (4, cmpF)] fr) (b - a).toNat
    ⟨a, b, l, true, true, rfl, by omega, by omega, by omega, Left.mk hw hks, (.cons rfl (.cons rfl (.cons rfl (.cons rfl (.cons rfl (.cons rfl (.cons rfl .nil)))))))⟩ ?_
  clear hks ks
  rintro m fr G ⟨x, y, z, p, q, rfl, hx, hxy, hy, hL, hsub⟩
  refine ⟨_, hsub, ?_⟩
  obtain ⟨H2, ks, hx2, hw2, hks, rfl⟩ := hL.out
  have hid2 := Left.hid hid hx2
  have hrec : ∀ (H : Heap) (ks : List KeyA) (a b l : Int), WF H → id < H.next → ks.length = n → 0 ≤ a → a ≤ b → b ≤ n → b - a < y - x → SCalls PP 54 [.slice id 0 n none, .int .i64 a, .int .i64 b, .int .i64 l, cmpF] (wr H id ks) fun _ H' => Left H id n H' :=
    fun H ks a b l q1 q2 q3 q4 q5 q6 q7 => ih q1 q2 hn q3 l q4 q5 q6 (by omega)
  by_cases h12 : y - x ≤ 12
  · simp (maxSteps := 1000000) (implicitDefEqProofs := false) (disch := omega) only [stp, if_true, if_false, Int.reduceEq, Int.reduceLT, Int.reduceLE, Int.reduceGT, Int.reduceGE, reduceCtorEq, Nat.reduceEqDiff, List.getElem?_cons_zero, List.getElem?_cons_succ, Option.map_some, wrap_i64, h12]
    refine SCalls.mono (insertion_calls hw2 hid2 hn hks (a := x) (b := y) (by omega) (by omega) (by omega)) ?_
    rintro r G hL2
    simp (maxSteps := 1000000) (implicitDefEqProofs := false) only [stp, if_true, if_false, Int.reduceEq, Int.reduceLT, Int.reduceLE, Int.reduceGT, Int.reduceGE, reduceCtorEq, Nat.reduceEqDiff, List.getElem?_cons_zero, List.getElem?_cons_succ, Option.map_some, if_true]
    exact hL2.of hx2
  by_cases hz0 : z = 0
  · simp (maxSteps := 1000000) (implicitDefEqProofs := false) (disch := omega) only [stp, if_true, if_false, Int.reduceEq, Int.reduceLT, Int.reduceLE, Int.reduceGT, Int.reduceGE, reduceCtorEq, Nat.reduceEqDiff, List.getElem?_cons_zero, List.getElem?_cons_succ, Option.map_some, wrap_i64, h12, hz0]
    refine SCalls.mono (heap_calls hw2 hid2 hn hks (a := x) (b := y) (by omega) (by omega) (by omega)) ?_
    rintro r G hL2
    simp (maxSteps := 1000000) (implicitDefEqProofs := false) only [stp, if_true, if_false, Int.reduceEq, Int.reduceLT, Int.reduceLE, Int.reduceGT, Int.reduceGE, reduceCtorEq, Nat.reduceEqDiff, List.getElem?_cons_zero, List.getElem?_cons_succ, Option.map_some, if_true]
    exact hL2.of hx2
  have hend : ∀ Q : Exit → Fr → Heap → Prop, True := fun _ => trivial
  cases p with
  | true =>
    simp (maxSteps := 1000000) (implicitDefEqProofs := false) (disch := omega) only [stp, if_true, if_false, Int.reduceEq, Int.reduceLT, Int.reduceLE, Int.reduceGT, Int.reduceGE, reduceCtorEq, Nat.reduceEqDiff, List.getElem?_cons_zero, List.getElem?_cons_succ, Option.map_some, wrap_i64, h12, hz0]
    refine SCalls.mono (pivot_calls hw2 hid2 hn hks (a := x) (b := y) (by omega) (by omega) (by omega)) ?_
    rintro r G ⟨pv, h, H3, rfl, hpv, hx3, hw3, rfl⟩
    simp (maxSteps := 1000000) (implicitDefEqProofs := false) only [stp, if_true, if_false, Int.reduceEq, Int.reduceLT, Int.reduceLE, Int.reduceGT, Int.reduceGE, reduceCtorEq, Nat.reduceEqDiff, List.getElem?_cons_zero, List.getElem?_cons_succ, Option.map_some, if_true]
    refine pdqC_ok hid hn (by omega) (by omega) hrec ⟨fun f G h => ?_, fun e f G x' y' z' p' q' he h1 h2 h3 h4 h5 h6 => ?_⟩ (z := z) (pv := pv) (h := h) (p := true) (q := q) ⟨H3, ks, hx2.trans hx3, hw3, hks, rfl⟩ hpv (.cons rfl (.cons rfl (.cons rfl (.cons rfl (.cons rfl (.cons rfl (.cons rfl (.cons rfl (.cons rfl (.cons rfl .nil))))))))))
    · simp (maxSteps := 1000000) (implicitDefEqProofs := false) only [stp, if_true, if_false, Int.reduceEq, Int.reduceLT, Int.reduceLE, Int.reduceGT, Int.reduceGE, reduceCtorEq, Nat.reduceEqDiff, List.getElem?_cons_zero, List.getElem?_cons_succ, Option.map_some, if_true]
      exact h
    · rcases he with rfl | rfl
      · simp (maxSteps := 1000000) (implicitDefEqProofs := false) only [stp, if_true, if_false, Int.reduceEq, Int.reduceLT, Int.reduceLE, Int.reduceGT, Int.reduceGE, reduceCtorEq, Nat.reduceEqDiff, List.getElem?_cons_zero, List.getElem?_cons_succ, Option.map_some, if_true]
        exact ⟨(y' - x').toNat, by omega, x', y', z', p', q', rfl, by omega, by omega, by omega, h5, h6⟩
      · simp (maxSteps := 1000000) (implicitDefEqProofs := false) only [stp, if_true, if_false, Int.reduceEq, Int.reduceLT, Int.reduceLE, Int.reduceGT, Int.reduceGE, reduceCtorEq, Nat.reduceEqDiff, List.getElem?_cons_zero, List.getElem?_cons_succ, Option.map_some, if_true]
        exact ⟨(y' - x').toNat, by omega, x', y', z', p', q', rfl, by omega, by omega, by omega, h5, h6⟩
  | false =>
    simp (maxSteps := 1000000) (implicitDefEqProofs := false) (disch := omega) only [stp, if_true, if_false, Int.reduceEq, Int.reduceLT, Int.reduceLE, Int.reduceGT, Int.reduceGE, reduceCtorEq, Nat.reduceEqDiff, List.getElem?_cons_zero, List.getElem?_cons_succ, Option.map_some, wrap_i64, h12, hz0]
    refine SCalls.mono (break_calls hw2 hid2 hn hks (a := x) (b := y) (by omega) (by omega) (by omega)) ?_
    rintro r G hLb
    obtain ⟨H3, ks3, hx3, hw3, hks3, rfl⟩ := (hLb.of hx2).out
    have hid3 := Left.hid hid hx3
    simp (maxSteps := 1000000) (implicitDefEqProofs := false) only [stp, if_true, if_false, Int.reduceEq, Int.reduceLT, Int.reduceLE, Int.reduceGT, Int.reduceGE, reduceCtorEq, Nat.reduceEqDiff, List.getElem?_cons_zero, List.getElem?_cons_succ, Option.map_some, if_true]
    refine SCalls.mono (pivot_calls hw3 hid3 hn hks3 (a := x) (b := y) (by omega) (by omega) (by omega)) ?_
    rintro r G ⟨pv, h, H4, rfl, hpv, hx4, hw4, rfl⟩
    simp (maxSteps := 1000000) (implicitDefEqProofs := false) only [stp, if_true, if_false, Int.reduceEq, Int.reduceLT, Int.reduceLE, Int.reduceGT, Int.reduceGE, reduceCtorEq, Nat.reduceEqDiff, List.getElem?_cons_zero, List.getElem?_cons_succ, Option.map_some, if_true]
    refine pdqC_ok hid hn (by omega) (by omega) hrec ⟨fun f G h => ?_, fun e f G x' y' z' p' q' he h1 h2 h3 h4 h5 h6 => ?_⟩ (z := IntKind.i64.wrap (z - 1)) (pv := pv) (h := h) (p := false) (q := q) ⟨H4, ks3, hx3.trans hx4, hw4, hks3, rfl⟩ hpv (.cons rfl (.cons rfl (.cons rfl (.cons rfl (.cons rfl (.cons rfl (.cons rfl (.cons rfl (.cons rfl (.cons rfl .nil))))))))))
    · simp (maxSteps := 1000000) (implicitDefEqProofs := false) only [stp, if_true, if_false, Int.reduceEq, Int.reduceLT, Int.reduceLE, Int.reduceGT, Int.reduceGE, reduceCtorEq, Nat.reduceEqDiff, List.getElem?_cons_zero, List.getElem?_cons_succ, Option.map_some, if_true]
      exact h
    · rcases he with rfl | rfl
      · simp (maxSteps := 1000000) (implicitDefEqProofs := false) only [stp, if_true, if_false, Int.reduceEq, Int.reduceLT, Int.reduceLE, Int.reduceGT, Int.reduceGE, reduceCtorEq, Nat.reduceEqDiff, List.getElem?_cons_zero, List.getElem?_cons_succ, Option.map_some, if_true]
        exact ⟨(y' - x').toNat, by omega, x', y', z', p', q', rfl, by omega, by omega, by omega, h5, h6⟩
      · simp (maxSteps := 1000000) (implicitDefEqProofs := false) only [stp, if_true, if_false, Int.reduceEq, Int.reduceLT, Int.reduceLE, Int.reduceGT, Int.reduceGE, reduceCtorEq, Nat.reduceEqDiff, List.getElem?_cons_zero, List.getElem?_cons_succ, Option.map_some, if_true]
        exact ⟨(y' - x').toNat, by omega, x', y', z', p', q', rfl, by omega, by omega, by omega, h5, h6⟩

def getI : Option V → Option Int
  | some (.int .i64 c) => some c
  | _ => none
theorem len_calls {k : Int} (h0 : 0 ≤ k) (h1 : k ≤ 64) (H : Heap) : SCalls PP 55 [.int .u64 k] H fun r H' => H' = H ∧ ∃ c : Int, r = .int .i64 c := by
  have h : (List.range 65).all (fun k => (getI ((runFn (tblGet tblP) 10 5 55 [.int .u64 k] H0).map (·.1))).isSome) = true := by kernel_rfl
  have := List.all_eq_true.1 h k.toNat (by simp; omega)
  rw [show ((k.toNat : Nat) : Int) = k by omega] at this
  cases hr : (runFn (tblGet tblP) 10 5 55 [.int .u64 k] H0).map (·.1) with
  | none => rw [hr] at this; cases this
  | some v =>
    rw [hr] at this
    cases v with
    | int kk c =>
      cases kk <;> first | exact SCalls.mono (SCalls.worked (fun f af => tblGet_ok tblP_ok) rfl rfl hr H) fun r H' ⟨q1, q2⟩ => ⟨q1, c, q2⟩ | cases this
    | _ => cases this
set_option maxRecDepth 20000 in
theorem sortIs : SortIs := by
  intro H v es hw hl hes hv
  refine SCalls.go c26 (by simp [fn26]) fun hz => ?_
  clear hz
  have hlen : ∀ G, exec .len [v] G = some (.int .i64 es.length, G) := fun G => by
    rcases hv with ⟨_, h⟩ | ⟨id, rfl, _⟩
    · exact h.len
    · rfl
  have hwu : IntKind.u64.wrap (es.length : Int) = es.length := wrap_u64 (by omega) (by omega)
  simp (maxSteps := 1000000) (implicitDefEqProofs := false) only [stp, if_true, if_false, Int.reduceEq, Int.reduceLT, Int.reduceLE, Int.reduceGT, Int.reduceGE, reduceCtorEq, Nat.reduceEqDiff, List.getElem?_cons_zero, List.getElem?_cons_succ, Option.map_some, fn26, enterFr, List.length, List.range, List.range.loop, List.zip, List.zipWith, hlen, x_toInt, hwu]
  refine SCalls.mono (len_calls (by omega) (by omega) H) ?_
  rintro r G ⟨rfl, c, rfl⟩
  simp (maxSteps := 1000000) (implicitDefEqProofs := false) only [stp, if_true, if_false, Int.reduceEq, Int.reduceLT, Int.reduceLE, Int.reduceGT, Int.reduceGE, reduceCtorEq, Nat.reduceEqDiff, List.getElem?_cons_zero, List.getElem?_cons_succ, Option.map_some, if_true]
  rcases hv with ⟨rfl, hs⟩ | ⟨id, rfl, ho⟩
  · -- no keys
    have h0 : SCalls PP 54 [v, .int .i64 0, .int .i64 0, .int .i64 c, cmpF] G fun r H' => H' = G := by
      refine SCalls.mono (SCalls.keep (R := fun _ => True) ?_) fun r H' h => h.1
      refine SCalls.go c54 (by simp [fn54]) fun hz => ?_
      have h75 : SCalls PP 75 [v, .int .i64 0, .int .i64 0, cmpF] G fun r H' => Ext G H' ∧ r = .tup [] := by
        refine SCalls.go c75 (by simp [fn75]) fun hz => ?_
        simp (maxSteps := 1000000) (implicitDefEqProofs := false) (disch := omega) only [stp, if_true, if_false, Int.reduceEq, Int.reduceLT, Int.reduceLE, Int.reduceGT, Int.reduceGE, reduceCtorEq, Nat.reduceEqDiff, List.getElem?_cons_zero, List.getElem?_cons_succ, Option.map_some, wrap_i64, fn75, enterFr, List.length, List.range, List.range.loop, List.zip, List.zipWith]
        refine wp_loopI (fun m fr F => F = G ∧ FrSub [(8, .int .i64 1), (2, .int .i64 0)] fr) 0 ⟨rfl, (.cons rfl (.cons rfl .nil))⟩ ?_
        rintro m fr F ⟨rfl, hsub⟩
        refine ⟨_, hsub, ?_⟩
        simp (maxSteps := 1000000) (implicitDefEqProofs := false) (disch := omega) only [stp, if_true, if_false, Int.reduceEq, Int.reduceLT, Int.reduceLE, Int.reduceGT, Int.reduceGE, reduceCtorEq, Nat.reduceEqDiff, List.getElem?_cons_zero, List.getElem?_cons_succ, Option.map_some, wrap_i64, if_true]
        exact ⟨Ext.refl _, by trivial⟩
      simp (maxSteps := 1000000) (implicitDefEqProofs := false) (disch := omega) only [stp, if_true, if_false, Int.reduceEq, Int.reduceLT, Int.reduceLE, Int.reduceGT, Int.reduceGE, reduceCtorEq, Nat.reduceEqDiff, List.getElem?_cons_zero, List.getElem?_cons_succ, Option.map_some, wrap_i64, fn54, enterFr, List.length, List.range, List.range.loop, List.zip, List.zipWith]
      refine wp_loopI (fun m fr F => F = G ∧ FrSub [(1, .int .i64 0), (2, .int .i64 0), (0, v), (4, cmpF)] fr) 0 ⟨rfl, (.cons rfl (.cons rfl (.cons rfl (.cons rfl .nil))))⟩ ?_
      rintro m fr F ⟨rfl, hsub⟩
      refine ⟨_, hsub, ?_⟩
      simp (maxSteps := 1000000) (implicitDefEqProofs := false) (disch := omega) only [stp, if_true, if_false, Int.reduceEq, Int.reduceLT, Int.reduceLE, Int.reduceGT, Int.reduceGE, reduceCtorEq, Nat.reduceEqDiff, List.getElem?_cons_zero, List.getElem?_cons_succ, Option.map_some, wrap_i64, if_true]
      refine SCalls.mono h75 ?_
      rintro r F2 ⟨hx, rfl⟩
      simp (maxSteps := 1000000) (implicitDefEqProofs := false) only [stp, if_true, if_false, Int.reduceEq, Int.reduceLT, Int.reduceLE, Int.reduceGT, Int.reduceGE, reduceCtorEq, Nat.reduceEqDiff, List.getElem?_cons_zero, List.getElem?_cons_succ, Option.map_some, if_true]
      exact ⟨hx, trivial, rfl⟩
    refine SCalls.mono h0 ?_
    rintro r F rfl
    simp (maxSteps := 1000000) (implicitDefEqProofs := false) only [stp, if_true, if_false, Int.reduceEq, Int.reduceLT, Int.reduceLE, Int.reduceGT, Int.reduceGE, reduceCtorEq, Nat.reduceEqDiff, List.getElem?_cons_zero, List.getElem?_cons_succ, Option.map_some, if_true]
    exact ⟨by trivial, Nat.le_refl _, hw, fun j _ _ => by trivial⟩
  · obtain ⟨ks, rfl⟩ : ∃ ks : List KeyA, es = ks.map KeyA.cells := by
      clear hlen hwu ho hl hw
      induction es with
      | nil => exact ⟨[], rfl⟩
      | cons e es ih =>
        obtain ⟨k, hk⟩ := hes e (by simp)
        obtain ⟨ks, hks⟩ := ih fun e he => hes e (List.mem_cons_of_mem _ he)
        exact ⟨k :: ks, by rw [hk, hks]; rfl⟩
    rw [List.length_map] at hl ⊢
    have hG : G = wr G id ks := by
      unfold wr Heap.set
      cases G with
      | mk gn nx get =>
        congr 1
        funext j
        split
        · rename_i h; subst h; exact ho.get
        · rfl
    have hid := ho.lt
    have h1 := pdq_calls (ks.length + 1) (H := G) hw (id := id) (n := ks.length) hid hl (ks := ks) rfl (a := 0) (b := ks.length) c (by omega) (by omega) (by omega) (by omega)
    rw [← hG] at h1
    refine SCalls.mono h1 ?_
    rintro r F hL
    obtain ⟨H2, ks2, hx2, hw2, hks2, rfl⟩ := hL.out
    have hid2 := Left.hid hid hx2
    simp (maxSteps := 1000000) (implicitDefEqProofs := false) only [stp, if_true, if_false, Int.reduceEq, Int.reduceLT, Int.reduceLE, Int.reduceGT, Int.reduceGE, reduceCtorEq, Nat.reduceEqDiff, List.getElem?_cons_zero, List.getElem?_cons_succ, Option.map_some, if_true]
    refine ⟨hx2.gn, hx2.next, wr_wf hw2 hid2 _, fun j hj hne => ?_⟩
    unfold wr
    rw [Heap.set_get]
    split
    · rename_i h
      subst h
      by_cases hnil : ks.map KeyA.cells = []
      · have hk0 : ks = [] := by simpa using hnil
        subst hk0
        have : ks2 = [] := List.eq_nil_of_length_eq_zero hks2
        subst this
        exact ho.get.symm
      · exact absurd rfl (hne j rfl hnil)
    · exact hx2.get j hj
end Go.Proofs.YtbadbkdpnbacnaaDoor.Fw

/- The tables of unicode/utf8 as the rows' own cells lay them. No condition. -/
namespace Go.Proofs.YtbadbkdpnbacnaaDoor.Fw
open Go Go.Lib Go.ChangeShapes Go.WideShapes Go.ChangeAt Go.RowKit
set_option maxRecDepth 10000
set_option linter.unusedSimpArgs false
set_option linter.unusedVariables false

theorem hOf_get {W : World} {g : Nat} {c : Array Value} {e : TypeId} {fz : Nat × Nat} (h : W.heap[g]? = some (.cells c e fz)) : (hOf W).get g = some (.row true 0 (pref W c.toList)) := by
  have hg := (Array.getElem?_eq_some_iff.1 h).1
  have e1 : hPl W g = ⟨g, 0, c.size⟩ := by simp only [hPl, hg, if_true, h, obSize]
  have e2 : g < hNext W := by unfold hNext; omega
  simp only [hOf, e2, if_true, e1, h, List.drop_zero]
/-- A package-level variable of numbers. -/
theorem hOf_glob {W : World} {g : Nat} {k : IntKind} {zs : List Int} (hz : zs ≠ []) (h : ∀ i : Nat, i < zs.length → W.cell? ⟨g, i, none⟩ = some (.int k (zs.getD i 0))) : At (hOf W) g 0 (zs.map (V.int k)) := by
  have hpos : 0 < zs.length := List.length_pos_iff.2 hz
  obtain ⟨_, c, e, fz, hb, h0⟩ := cell_block (h 0 hpos)
  simp only at hb
  have hc : ∀ i : Nat, i < zs.length → c.toList[i]? = some (.int k (zs.getD i 0)) := fun i hi => by
    obtain ⟨_, c', e', fz', hb', h1⟩ := cell_block (h i hi)
    simp only at hb' h1
    rw [hb] at hb'
    cases hb'
    simpa using h1
  have hp : ∀ i : Nat, i < zs.length → (pref W c.toList)[i]? = some (.int k (zs.getD i 0)) := fun i hi =>
    pref_of W (n := zs.length) (fun j hj => ⟨_, _, hc j hj, rfl⟩) i hi _ _ (hc i hi) rfl
  have hl : zs.length ≤ (pref W c.toList).length := by
    have := (List.getElem?_eq_some_iff.1 (hp (zs.length - 1) (by omega))).1
    omega
  refine ⟨?_, true, 0, _, hOf_get hb, by rw [List.length_map, Nat.zero_add]; exact hl, fun j v hj => ?_⟩
  · have hg := (Array.getElem?_eq_some_iff.1 hb).1
    show g < hNext W
    unfold hNext; omega
  · have hj' : j < zs.length := by have := (List.getElem?_eq_some_iff.1 hj).1; simpa using this
    rw [Nat.zero_add, hp j hj']
    simp [hj'] at hj
    subst hj
    simp [List.getD_eq_getElem?_getD, hj']

theorem acc_pairs {W : World} {fuel : Nat} {cs : List Value} {p : List MemPlace} (h : DataW.trod (fun _ => ()) PP W 0 (fun _ => true) false fuel 156 cs = some (Rows.laid_unicode_utf8_acceptRanges, p)) : cs = accT.map fun z => Value.int .u8 z := by
  have t156 : PP.underlying 156 = some (.array 16 155) := by kernel_rfl
  have c155 : PP.cellsOf 155 = 2 := by kernel_rfl
  have c156 : PP.cellsOf 156 = 32 := by kernel_rfl
  have c5 : PP.cellsOf 5 = 1 := by kernel_rfl
  have t5 : PP.underlying 5 = some (.int .u8) := by kernel_rfl
  have t155 := Go.Proofs.Tryd.underlying155
  cases fuel with
  | zero => simp [DataW.trod] at h
  | succ fuel =>
    simp only [DataW.trod, t156, c155] at h
    split at h
    · rename_i hl
      obtain ⟨xs, hm, hx⟩ := Option.map_eq_some_iff.1 h
      have hxs : DataW.agg (xs.map (·.1)) = (Rows.laid_unicode_utf8_acceptRanges : DataW Unit) := congrArg Prod.fst hx
      have hl' : cs.length = 32 := hl.trans c156
      apply List.ext_getElem?
      intro i
      by_cases hi : i < 32
      · obtain ⟨b, hb, hf⟩ := mapM_at hm (i / 2) (i / 2) (List.getElem?_range (by omega))
        obtain ⟨y0, y1, n, hb', _, h0, h1⟩ := trod_struct2 t155 hf
        rw [c5] at h0 h1
        obtain ⟨z0, e0, x0, _⟩ := DataW.trod_int t5 h0
        obtain ⟨z1, e1, x1, _⟩ := DataW.trod_int t5 h1
        have k0 : cs[i / 2 * 2]? = some (.int .u8 z0) := by
          have := congrArg (·[0]?) e0
          simpa [List.getElem?_take, List.getElem?_drop] using this
        have k1 : cs[i / 2 * 2 + 1]? = some (.int .u8 z1) := by
          have := congrArg (·[0]?) e1
          simpa [List.getElem?_take, List.getElem?_drop] using this
        have hq : (xs.map (·.1))[i / 2]? = some (.agg [.lit (.int .u8 z0), .lit (.int .u8 z1)]) := by
          rw [List.getElem?_map, hb]
          simp [hb', x0, x1]
        have hlist : xs.map (·.1) = (List.range 16).map fun q => (DataW.agg [.lit (.int .u8 (accT.getD (q * 2) 0)), .lit (.int .u8 (accT.getD (q * 2 + 1) 0))] : DataW Unit) := by
          have : (DataW.agg (xs.map (·.1)) : DataW Unit) = DataW.agg ((List.range 16).map fun q => (DataW.agg [.lit (.int .u8 (accT.getD (q * 2) 0)), .lit (.int .u8 (accT.getD (q * 2 + 1) 0))] : DataW Unit)) := by rw [hxs]; kernel_rfl
          exact DataW.agg.inj this
        rw [hlist, List.getElem?_map, List.getElem?_range (by omega)] at hq
        simp only [Option.map_some, Option.some.injEq, DataW.agg.injEq, List.cons.injEq, DataW.lit.injEq, Lit.int.injEq, true_and, and_true] at hq
        have hlen : accT.length = 32 := by decide
        have ha : (accT.map fun z => Value.int .u8 z)[i]? = some (.int .u8 (accT.getD i 0)) := by simp [List.getD_eq_getElem?_getD, hlen, hi]
        rw [ha]
        by_cases hp : i % 2 = 0
        · rw [show i = i / 2 * 2 by omega, k0, ← hq.1]
        · rw [show i = i / 2 * 2 + 1 by omega, k1, ← hq.2]
      · have hlen : accT.length = 32 := by decide
        rw [List.getElem?_eq_none (by omega), List.getElem?_eq_none (by simp [hlen]; omega)]
    · cases h

abbrev laidU : List (String × DataW Unit) := [("unicode/utf8.acceptRanges", Rows.laid_unicode_utf8_acceptRanges), ("unicode/utf8.first", Rows.laid_unicode_utf8_first)]
theorem tabs_of {W : World} (hL : laidMetH PP laidU W) : Tabs (hOf W) := by
  have h : laidMet PP laidU W := hL
  obtain ⟨ps, ⟨g, t, cs, fuel, p, q, hg, ht, hv, hd, ⟨g', t', cs', fuel', p', q', hg', ht', hv', hd', _, _⟩, _⟩, _⟩ := h
  have e2 : PP.globalNamed "unicode/utf8.acceptRanges" = some 2 := by kernel_rfl
  have e1 : PP.globalNamed "unicode/utf8.first" = some 1 := by kernel_rfl
  have y2 : (PP.globals[2]?).map (·.type) = some 156 := by kernel_rfl
  have y1 : (PP.globals[1]?).map (·.type) = some 153 := by kernel_rfl
  obtain rfl := Option.some.inj (e2.symm.trans hg)
  obtain rfl := Option.some.inj (e1.symm.trans hg')
  obtain rfl := Option.some.inj (y2.symm.trans ht)
  obtain rfl := Option.some.inj (y1.symm.trans ht')
  have h2 := acc_pairs hd
  have hf : (Rows.laid_unicode_utf8_first : DataW Unit) = tabData .u8 firstT := by kernel_rfl
  rw [hf] at hd'
  have h1 := cells_of_tab (n := 256) (k := .u8) (e := 5) (by kernel_rfl) (by kernel_rfl) (by kernel_rfl) (by kernel_rfl) hd'
  have cell : ∀ (name : String) (g : Nat) (cs : Array Value) (zs : List Int), PP.globalNamed name = some g → W.var? PP name = some cs → cs.toList = (zs.map fun z => Value.int .u8 z) → ∀ i : Nat, i < zs.length → W.cell? ⟨g, i, none⟩ = some (.int .u8 (zs.getD i 0)) := by
    intro name g cs zs hg hv hc i hi
    rw [World.var?_cell hg hv i, ← Array.getElem?_toList, hc]
    simp [List.getD_eq_getElem?_getD, hi]
  have hs : 2 < W.heap.size := by
    obtain ⟨_, c, e, fz, hb, _⟩ := cell_block (cell _ _ _ _ e2 hv h2 0 (by decide +kernel))
    exact (Array.getElem?_eq_some_iff.1 hb).1
  exact ⟨hs, hOf_glob (by decide +kernel) (cell _ _ _ _ e1 hv' h1), hOf_glob (by decide +kernel) (cell _ _ _ _ e2 hv h2)⟩
end Go.Proofs.YtbadbkdpnbacnaaDoor.Fw

/- A slice among the arguments, with what can be cut of it. No condition. -/
namespace Go.Proofs.YtbadbkdpnbacnaaDoor.Fw
open Go Go.ChangeShapes Go.WideShapes Go.ChangeAt Go.RowKit
set_option linter.unusedSimpArgs false
set_option linter.unusedVariables false

/-- The capacity of a slice is known. -/
def CapOk (x : V) : Prop := ∀ id off n c, x = .slice id off n c → ∃ k, c = some k ∧ n ≤ k
theorem av_cap (W : World) (v : Value) : CapOk (av W v) := by
  intro id off n c h
  have key : ∀ u, abv W v = some u → u = .slice id off n c → ∃ k, c = some k ∧ n ≤ k := by
    intro u hu e
    subst e
    unfold abv at hu
    split at hu <;> try (cases hu; done)
    split at hu
    · split at hu
      · cases hu; exact ⟨0, rfl, Nat.le_refl _⟩
      · cases hu
    · split at hu
      · rename_i hk
        cases hu
        exact ⟨_, rfl, hk.2.2.2⟩
      · cases hu
  unfold av at h
  cases hv : abv W v with
  | none => rw [hv] at h; cases h
  | some u => rw [hv] at h; exact key u hv h
theorem arg_slice2 {P : Program} {H : Type} {enc : TypeId × Value → H} {W : World} {base : Nat} {t e : TypeId} {v : Value} {d : DataW H} {p : List MemPlace} {n B : Nat} (ht : P.underlying t = some (.slice e)) (hp : plainT P (n + 1) t = true)
    (hval : Value.okWide P W .any base t v) (h : DataW.Trod enc P W 0 (fun _ => true) true t v d p) (hB : Rows.uptoBulk d ≤ B) :
    ∃ x ls, VRel (hPl W) (hOf W) x v ∧ SL (hOf W) x (P.cellsOf e) ls ∧ ls.length ≤ B ∧ (∀ l ∈ ls, GoodT P B (hOf W) n e l) ∧ CapOk x := by
  obtain ⟨a0, len, cap, rfl⟩ := okWide_slice ht hval
  obtain ⟨fuel, hf⟩ := h
  obtain ⟨h1, h2⟩ := read_good (n + 1) fuel t _ (d, p) hp hf hB
  simp only [GoodT, ht] at h2
  obtain ⟨x, ls, hx, hs, hl, hg⟩ := h2
  simp [Value.cells] at h1 hx
  exact ⟨x, ls, by rw [← hx]; exact av_rel W h1, hs, hl, hg, by rw [← hx]; exact av_cap W _⟩
end Go.Proofs.YtbadbkdpnbacnaaDoor.Fw

/- A slice cut in two; one step. No condition. -/
namespace Go.Proofs.YtbadbkdpnbacnaaDoor.Fw
open Go
set_option linter.unusedSimpArgs false
set_option linter.unusedVariables false
theorem x_bbinf (a b : Bool) (H : Heap) : exec (.bbin false) [.bool a, .bool b] H = some (.bool (a == b), H) := by
  cases a <;> cases b <;> rfl
theorem SL.cut {H : Heap} {x : V} {sz : Nat} {es : List (List V)} (h : SL H x sz es) (hc : CapOk x) {k : Nat} (hk : k ≤ es.length) :
    ∃ a b, (∀ G, exec (.slc sz false true false) [x, .int .i64 k] G = some (a, G)) ∧ (∀ G, exec (.slc sz true false false) [x, .int .i64 k] G = some (b, G)) ∧ SL H a sz (es.take k) ∧ SL H b sz (es.drop k) := by
  obtain ⟨h0, ⟨rfl, rfl⟩ | ⟨id, off, cap, rfl, h2, h3⟩⟩ := h
  · obtain rfl : k = 0 := by simpa using hk
    exact ⟨.nils, .nils, fun G => rfl, fun G => rfl, ⟨by simp, .inl ⟨rfl, rfl⟩⟩, ⟨by simp, .inl ⟨rfl, rfl⟩⟩⟩
  · obtain ⟨c, rfl, hn⟩ := hc _ _ _ _ rfl
    refine ⟨.slice id (off + 0 * sz) (k - 0) (some (c - 0)), .slice id (off + k * sz) (es.length - k) (some (c - k)), fun G => ?_, fun G => ?_, ⟨fun e he => h0 e (List.mem_of_mem_take he), .inr ⟨id, off + 0 * sz, some (c - 0), ?_, h2, fun i e he => ?_⟩⟩, ⟨fun e he => h0 e (List.mem_of_mem_drop he), .inr ⟨id, off + k * sz, some (c - k), ?_, h2, fun i e he => ?_⟩⟩⟩
    · have hb : bounds3 false true false es.length ((some c).getD es.length) [V.int .i64 k] = some (0, k, c) := by simp [bounds3, natV]
      simp only [exec, hb]
      rw [if_pos ⟨Nat.zero_le _, by omega, Nat.le_refl _, by simp [slcOk]⟩]
    · have hb : bounds3 true false false es.length ((some c).getD es.length) [V.int .i64 k] = some (k, es.length, c) := by simp [bounds3, natV]
      simp only [exec, hb]
      rw [if_pos ⟨hk, hn, Nat.le_refl _, by simp [slcOk]⟩]
    · rw [List.length_take, Nat.min_eq_left hk, Nat.sub_zero]
    · rw [List.getElem?_take] at he
      split at he
      · have := h3 i e he
        rwa [Nat.zero_mul, Nat.add_zero]
      · cases he
    · rw [List.length_drop]
    · rw [List.getElem?_drop] at he
      have := h3 _ e he
      rwa [Nat.add_mul, ← Nat.add_assoc] at this
end Go.Proofs.YtbadbkdpnbacnaaDoor.Fw

/- What a reading of the arguments tells, in the program's own types. No condition. -/
namespace Go.Proofs.YtbadbkdpnbacnaaDoor.Fw
open Go
set_option linter.unusedSimpArgs false
set_option linter.unusedVariables false
set_option maxRecDepth 100000

theorem cl3 : PP.cellsOf 3 = 1 := by kernel_rfl
theorem cl4 : PP.cellsOf 4 = 1 := by kernel_rfl
theorem cl5 : PP.cellsOf 5 = 1 := by kernel_rfl
theorem cl53 : PP.cellsOf 53 = 6 := by kernel_rfl
theorem good_int {P : Program} {B n : Nat} {G : Heap} {t : TypeId} {k : IntKind} {vs : List V} (hu : P.underlying t = some (.int k)) (h : GoodT P B G (n + 1) t vs) : ∃ i, vs = [.int k i] ∧ (Lit.int k i).wf = true := by
  simp only [GoodT, hu] at h; exact h
theorem good_bool {P : Program} {B n : Nat} {G : Heap} {t : TypeId} {vs : List V} (hu : P.underlying t = some .bool) (h : GoodT P B G (n + 1) t vs) : ∃ b, vs = [.bool b] := by
  simp only [GoodT, hu] at h; exact h
theorem good_struct {P : Program} {B n : Nat} {G : Heap} {t : TypeId} {fs : Array Field} {vs : List V} (hu : P.underlying t = some (.struct fs)) (h : GoodT P B G (n + 1) t vs) :
    vs.length = P.cellsOf t ∧ ∀ f ∈ fs.toList, GoodT P B G n f.type ((vs.drop f.offset).take (P.cellsOf f.type)) := by
  simp only [GoodT, hu] at h; exact h
theorem key_of {B n : Nat} {G : Heap} {l : List V} (h : GoodT PP B G (n + 2) 53 l) : ∃ k : KeyA, l = k.cells := by
  obtain ⟨hl, hf⟩ := good_struct Tryd.underlying53 h
  rw [cl53] at hl
  match l, hl with
  | [a, b, c, d, e, f], _ =>
    have g0 : GoodT PP B G (n + 1) 3 (([a, b, c, d, e, f].drop 0).take (PP.cellsOf 3)) := hf ⟨ "ID", 3, 0, false, "", "", 0⟩ (by simp)
    have g1 : GoodT PP B G (n + 1) 4 (([a, b, c, d, e, f].drop 1).take (PP.cellsOf 4)) := hf ⟨ "Block", 4, 1, false, "", "", 8⟩ (by simp)
    have g2 : GoodT PP B G (n + 1) 5 (([a, b, c, d, e, f].drop 2).take (PP.cellsOf 5)) := hf ⟨ "Kind", 5, 2, false, "", "", 9⟩ (by simp)
    have g3 : GoodT PP B G (n + 1) 4 (([a, b, c, d, e, f].drop 3).take (PP.cellsOf 4)) := hf ⟨ "After", 4, 3, false, "", "", 10⟩ (by simp)
    have g4 : GoodT PP B G (n + 1) 4 (([a, b, c, d, e, f].drop 4).take (PP.cellsOf 4)) := hf ⟨ "Before", 4, 4, false, "", "", 11⟩ (by simp)
    have g5 : GoodT PP B G (n + 1) 3 (([a, b, c, d, e, f].drop 5).take (PP.cellsOf 3)) := hf ⟨ "Group", 3, 5, false, "", "", 16⟩ (by simp)
    rw [cl3] at g0 g5
    rw [cl4] at g1 g3 g4
    rw [cl5] at g2
    obtain ⟨i0, e0, _⟩ := good_int Tryd.underlying3 g0
    obtain ⟨i1, e1⟩ := good_bool Tryd.underlying4 g1
    obtain ⟨i2, e2, _⟩ := good_int Tryd.underlying5 g2
    obtain ⟨i3, e3⟩ := good_bool Tryd.underlying4 g3
    obtain ⟨i4, e4⟩ := good_bool Tryd.underlying4 g4
    obtain ⟨i5, e5, _⟩ := good_int Tryd.underlying3 g5
    simp only [List.drop_zero, List.drop_succ_cons, List.take_succ_cons, List.take_zero, List.cons.injEq, and_true] at e0 e1 e2 e3 e4 e5
    exact ⟨⟨i0, i1, i2, i3, i4, i5⟩, by simp [KeyA.cells, e0, e1, e2, e3, e4, e5]⟩
theorem keys_of {B n : Nat} {G : Heap} : ∀ {ls : List (List V)}, (∀ l ∈ ls, GoodT PP B G (n + 2) 53 l) → ∃ ks : List KeyA, ls = ks.map KeyA.cells
  | [], h => ⟨[], rfl⟩
  | l :: ls, h => by
    obtain ⟨k, rfl⟩ := key_of (h l (by simp))
    obtain ⟨ks, rfl⟩ := keys_of (ls := ls) fun q hq => h q (List.mem_cons_of_mem _ hq)
    exact ⟨k :: ks, rfl⟩
end Go.Proofs.YtbadbkdpnbacnaaDoor.Fw

/- What a reading of the arguments tells: deltas. No condition. -/
namespace Go.Proofs.YtbadbkdpnbacnaaDoor.Fw
open Go
set_option linter.unusedSimpArgs false
set_option linter.unusedVariables false
set_option maxRecDepth 100000

theorem cl2 : PP.cellsOf 2 = 1 := by kernel_rfl
theorem cl34 : PP.cellsOf 34 = 1 := by kernel_rfl
theorem cl9 : PP.cellsOf 9 = 1 := by kernel_rfl
theorem cl71 : PP.cellsOf 71 = 4 := by kernel_rfl
theorem cl73 : PP.cellsOf 73 = 5 := by kernel_rfl
theorem cl93 : PP.cellsOf 93 = 6 := by kernel_rfl
theorem cl41 : PP.cellsOf 41 = 5 := by kernel_rfl
theorem cl37 : PP.cellsOf 37 = 1 := by kernel_rfl
theorem cl38 : PP.cellsOf 38 = 1 := by kernel_rfl
theorem cl39 : PP.cellsOf 39 = 1 := by kernel_rfl
theorem cl21 : PP.cellsOf 21 = 1 := by kernel_rfl
theorem good_str {P : Program} {B n : Nat} {G : Heap} {t : TypeId} {vs : List V} (hu : P.underlying t = some .string) (h : GoodT P B G (n + 1) t vs) : ∃ s, vs = [.str s] ∧ s.size ≤ B := by
  simp only [GoodT, hu] at h; exact h
theorem good_slice {P : Program} {B n : Nat} {G : Heap} {t e : TypeId} {vs : List V} (hu : P.underlying t = some (.slice e)) (h : GoodT P B G (n + 1) t vs) :
    ∃ v ls, vs = [v] ∧ SL G v (P.cellsOf e) ls ∧ ls.length ≤ B ∧ ∀ l ∈ ls, GoodT P B G n e l := by
  simp only [GoodT, hu] at h; exact h
theorem val_of {B n : Nat} {G : Heap} {l : List V} (h : GoodT PP B G (n + 2) 71 l) : ∃ v : ValA, l = v.cells ∧ v.s.size ≤ B := by
  obtain ⟨hl, hf⟩ := good_struct Tryd.underlying71 h
  rw [cl71] at hl
  match l, hl with
  | [a, b, c, d], _ =>
    have g0 : GoodT PP B G (n + 1) 5 (([a, b, c, d].drop 0).take (PP.cellsOf 5)) := hf ⟨ "Kind", 5, 0, false, "", "", 0⟩ (by simp)
    have g1 : GoodT PP B G (n + 1) 2 (([a, b, c, d].drop 1).take (PP.cellsOf 2)) := hf ⟨ "N", 2, 1, false, "", "", 8⟩ (by simp)
    have g2 : GoodT PP B G (n + 1) 34 (([a, b, c, d].drop 2).take (PP.cellsOf 34)) := hf ⟨ "F", 34, 2, false, "", "", 16⟩ (by simp)
    have g3 : GoodT PP B G (n + 1) 9 (([a, b, c, d].drop 3).take (PP.cellsOf 9)) := hf ⟨ "S", 9, 3, false, "", "", 24⟩ (by simp)
    rw [cl5] at g0
    rw [cl2] at g1
    rw [cl34] at g2
    rw [cl9] at g3
    obtain ⟨i0, e0, _⟩ := good_int Tryd.underlying5 g0
    obtain ⟨i1, e1, _⟩ := good_int Tryd.underlying2 g1
    obtain ⟨i2, e2, _⟩ := good_int Tryd.underlying34 g2
    obtain ⟨i3, e3, hs⟩ := good_str Tryd.underlying9 g3
    simp only [List.drop_zero, List.drop_succ_cons, List.take_succ_cons, List.take_zero, List.cons.injEq, and_true] at e0 e1 e2 e3
    exact ⟨⟨i0, i1, i2, i3⟩, by simp [ValA.cells, e0, e1, e2, e3], hs⟩
theorem attr_of {B n : Nat} {G : Heap} {l : List V} (h : GoodT PP B G (n + 3) 73 l) : ∃ a : AttrA, l = a.cells ∧ a.val.s.size ≤ B := by
  obtain ⟨hl, hf⟩ := good_struct Tryd.underlying73 h
  rw [cl73] at hl
  match l, hl with
  | a :: vs, hl =>
    have g0 : GoodT PP B G (n + 2) 3 (((a :: vs).drop 0).take (PP.cellsOf 3)) := hf ⟨ "Key", 3, 0, false, "", "", 0⟩ (by simp)
    have g1 : GoodT PP B G (n + 2) 71 (((a :: vs).drop 1).take (PP.cellsOf 71)) := hf ⟨ "Value", 71, 1, false, "", "", 8⟩ (by simp)
    rw [cl3] at g0
    rw [cl71] at g1
    obtain ⟨i0, e0, _⟩ := good_int Tryd.underlying3 g0
    obtain ⟨v, e1, hs⟩ := val_of g1
    simp only [List.drop_zero, List.drop_succ_cons, List.take_succ_cons, List.take_zero, List.cons.injEq, and_true] at e0 e1
    rw [List.take_of_length_le (by simp at hl; omega)] at e1
    exact ⟨⟨i0, v⟩, by rw [e0, e1]; rfl, hs⟩
theorem chg_of {B n : Nat} {G : Heap} {l : List V} (h : GoodT PP B G (n + 3) 93 l) : ∃ c : ChgA, l = c.cells ∧ c.val.s.size ≤ B := by
  obtain ⟨hl, hf⟩ := good_struct Tryd.underlying93 h
  rw [cl93] at hl
  match l, hl with
  | a :: b :: vs, hl =>
    have g0 : GoodT PP B G (n + 2) 3 (((a :: b :: vs).drop 0).take (PP.cellsOf 3)) := hf ⟨ "Key", 3, 0, false, "", "", 0⟩ (by simp)
    have g1 : GoodT PP B G (n + 2) 4 (((a :: b :: vs).drop 1).take (PP.cellsOf 4)) := hf ⟨ "Gone", 4, 1, false, "", "", 8⟩ (by simp)
    have g2 : GoodT PP B G (n + 2) 71 (((a :: b :: vs).drop 2).take (PP.cellsOf 71)) := hf ⟨ "Value", 71, 2, false, "", "", 16⟩ (by simp)
    rw [cl3] at g0
    rw [cl4] at g1
    rw [cl71] at g2
    obtain ⟨i0, e0, _⟩ := good_int Tryd.underlying3 g0
    obtain ⟨i1, e1⟩ := good_bool Tryd.underlying4 g1
    obtain ⟨v, e2, hs⟩ := val_of g2
    simp only [List.drop_zero, List.drop_succ_cons, List.take_succ_cons, List.take_zero, List.cons.injEq, and_true] at e0 e1 e2
    rw [List.take_of_length_le (by simp at hl; omega)] at e2
    exact ⟨⟨i0, i1, v⟩, by rw [e0, e1, e2]; rfl, hs⟩
theorem list_of {α : Type} {G : List V → Prop} {cells : α → List V} {R : α → Prop} (h : ∀ l, G l → ∃ a, l = cells a ∧ R a) : ∀ {ls : List (List V)}, (∀ l ∈ ls, G l) → ∃ xs : List α, ls = xs.map cells ∧ ∀ a ∈ xs, R a
  | [], _ => ⟨[], rfl, by simp⟩
  | l :: ls, hl => by
    obtain ⟨a, rfl, ha⟩ := h l (hl l (by simp))
    obtain ⟨b, rfl, hb⟩ := list_of h (ls := ls) fun q hq => hl q (List.mem_cons_of_mem _ hq)
    exact ⟨a :: b, rfl, fun q hq => by
      rcases List.mem_cons.1 hq with rfl | hq
      · exact ha
      · exact hb q hq⟩
theorem op_of {n : Nat} {G : Heap} {l : List V} (h : GoodT PP big G (n + 5) 41 l) : ∃ o : OpA, l = o.cells ∧ o.In G := by
  obtain ⟨hl, hf⟩ := good_struct Tryd.underlying41 h
  rw [cl41] at hl
  match l, hl with
  | [a, b, c, d, e], _ =>
    have g0 : GoodT PP big G (n + 4) 5 (([a, b, c, d, e].drop 0).take (PP.cellsOf 5)) := hf ⟨ "Kind", 5, 0, false, "", "", 0⟩ (by simp)
    have g1 : GoodT PP big G (n + 4) 3 (([a, b, c, d, e].drop 1).take (PP.cellsOf 3)) := hf ⟨ "N", 3, 1, false, "", "", 8⟩ (by simp)
    have g2 : GoodT PP big G (n + 4) 37 (([a, b, c, d, e].drop 2).take (PP.cellsOf 37)) := hf ⟨ "Runes", 37, 2, false, "", "", 16⟩ (by simp)
    have g3 : GoodT PP big G (n + 4) 38 (([a, b, c, d, e].drop 3).take (PP.cellsOf 38)) := hf ⟨ "Set", 38, 3, false, "", "", 40⟩ (by simp)
    have g4 : GoodT PP big G (n + 4) 39 (([a, b, c, d, e].drop 4).take (PP.cellsOf 39)) := hf ⟨ "Patch", 39, 4, false, "", "", 64⟩ (by simp)
    rw [cl5] at g0
    rw [cl3] at g1
    rw [cl37] at g2
    rw [cl38] at g3
    rw [cl39] at g4
    obtain ⟨i0, e0, _⟩ := good_int Tryd.underlying5 g0
    obtain ⟨i1, e1, w1⟩ := good_int Tryd.underlying3 g1
    obtain ⟨v2, l2, e2, s2, n2, k2⟩ := good_slice Tryd.underlying37 g2
    obtain ⟨v3, l3, e3, s3, n3, k3⟩ := good_slice Tryd.underlying38 g3
    obtain ⟨v4, l4, e4, s4, n4, k4⟩ := good_slice Tryd.underlying39 g4
    simp only [List.drop_zero, List.drop_succ_cons, List.take_succ_cons, List.take_zero, List.cons.injEq, and_true] at e0 e1 e2 e3 e4
    obtain ⟨rs, rfl, _⟩ := list_of (α := Int) (cells := fun r => [V.int .i32 r]) (R := fun _ => True) (fun l hl => by obtain ⟨i, hi, _⟩ := good_int Tryd.underlying21 hl; exact ⟨i, hi, trivial⟩) k2
    obtain ⟨ats, rfl, ra⟩ := list_of (fun l hl => attr_of (n := n) hl) k3
    obtain ⟨chs, rfl, rc⟩ := list_of (fun l hl => chg_of (n := n) hl) k4
    rw [cl21] at s2
    rw [cl73] at s3
    rw [cl93] at s4
    rw [List.length_map] at n2 n3 n4
    have hw : -9223372036854775808 ≤ i1 ∧ i1 ≤ 9223372036854775807 := by
      simp only [Lit.wf, Bool.and_eq_true, decide_eq_true_eq] at w1
      have h1 : IntKind.i64.min = -9223372036854775808 := by decide
      have h2 : IntKind.i64.max = 9223372036854775807 := by decide
      rw [h1, h2] at w1
      exact w1
    exact ⟨⟨i0, i1, v2, v3, v4, rs, ats, chs⟩, by simp [OpA.cells, e0, e1, e2, e3, e4], ⟨s2, s3, s4, n2, n3, n4, ra, rc, hw.1, hw.2⟩⟩
end Go.Proofs.YtbadbkdpnbacnaaDoor.Fw

/- CellsApart: the walk, and what a reading of the arguments tells. No condition. -/
namespace Go.Proofs.YtbadbkdpnbacnaaDoor.Fw
open Go
set_option linter.unusedSimpArgs false
set_option linter.unusedVariables false
variable {ks : List KeyA}

theorem knownC_ok (H : Heap) (K : V → Heap → Prop) (hK : K (.bool true) H) : SCalls PP 16 [] H K := SCalls.mono (knownC_calls H) fun r H' ⟨h1, h2⟩ => by rw [h1, h2]; exact hK
theorem cells_cut {H : Heap} {x : V} {us i : List CellA} {c : CellA} (hx : CellsIn H x us) (hc : CapOk x) (hu : us = i ++ [c]) :
    ∃ a, ∀ j d, us = j ++ [d] → (∀ G, exec (.slc 2 false true false) [x, .int .i64 (j.length : Nat)] G = some (a, G)) ∧ SL H a 2 (j.map CellA.cells) := by
  obtain ⟨a, b, h1, _, h3, _⟩ := hx.sl.cut hc (k := i.length) (by rw [hu]; simp)
  refine ⟨a, fun j d h => ?_⟩
  obtain rfl : j = i := (List.append_inj' (h.symm.trans hu) rfl).1
  refine ⟨h1, ?_⟩
  have e : (us.map CellA.cells).take j.length = j.map CellA.cells := by rw [hu, List.map_append, List.take_left' (by simp)]
  rwa [e] at h3

set_option maxRecDepth 40000 in
set_option maxHeartbeats 4000000 in
theorem cellsApart_calls {keys x y : V} {H : Heap} {us bs : List CellA} (hT : Tabs H) (hk : SL H keys 6 (ks.map KeyA.cells)) (hkl : ks.length ≤ big) (hx : CellsIn H x us) (hy : CellsIn H y bs) (hcx : CapOk x) (hcy : CapOk y) :
    SCalls PP 6 [keys, x, y] H fun r H' => r = .bool true := by
  refine SCalls.go c6 (by simp [fn6]) fun hw => ?_
  have hlk : ∀ G, exec .len [keys] G = some (.int .i64 ks.length, G) := fun G => by have := hk.len (H' := G); rwa [List.length_map] at this
  by_cases h64 : (ks.length : Int) > 64
  · simp (maxSteps := 1000000) (implicitDefEqProofs := false) only [stp, if_true, if_false, Int.reduceEq, Int.reduceLT, Int.reduceLE, Int.reduceGT, Int.reduceGE, reduceCtorEq, Nat.reduceEqDiff, List.getElem?_cons_zero, List.getElem?_cons_succ, Option.map_some, fn6, enterFr, List.length, List.range, List.range.loop, List.zip, List.zipWith, hlk, h64]
    refine knownC_ok _ _ ?_
    simp (maxSteps := 1000000) (implicitDefEqProofs := false) only [stp, if_true, if_false, Int.reduceEq, Int.reduceLT, Int.reduceLE, Int.reduceGT, Int.reduceGE, reduceCtorEq, Nat.reduceEqDiff, List.getElem?_cons_zero, List.getElem?_cons_succ, Option.map_some, if_true]
  simp (maxSteps := 1000000) (implicitDefEqProofs := false) only [stp, if_true, if_false, Int.reduceEq, Int.reduceLT, Int.reduceLE, Int.reduceGT, Int.reduceGE, reduceCtorEq, Nat.reduceEqDiff, List.getElem?_cons_zero, List.getElem?_cons_succ, Option.map_some, fn6, enterFr, List.length, List.range, List.range.loop, List.zip, List.zipWith, hlk, h64]
  refine SCalls.mono (greatC_calls hx 500) ?_
  rintro r G ⟨rfl, b1, rfl, l1⟩
  cases b1 with
  | true =>
    simp (maxSteps := 1000000) (implicitDefEqProofs := false) only [stp, if_true, if_false, Int.reduceEq, Int.reduceLT, Int.reduceLE, Int.reduceGT, Int.reduceGE, reduceCtorEq, Nat.reduceEqDiff, List.getElem?_cons_zero, List.getElem?_cons_succ, Option.map_some, if_true]
    refine knownC_ok _ _ ?_
    simp (maxSteps := 1000000) (implicitDefEqProofs := false) only [stp, if_true, if_false, Int.reduceEq, Int.reduceLT, Int.reduceLE, Int.reduceGT, Int.reduceGE, reduceCtorEq, Nat.reduceEqDiff, List.getElem?_cons_zero, List.getElem?_cons_succ, Option.map_some, if_true]
  | false =>
  have l1 := l1 rfl
  simp (maxSteps := 1000000) (implicitDefEqProofs := false) only [stp, if_true, if_false, Int.reduceEq, Int.reduceLT, Int.reduceLE, Int.reduceGT, Int.reduceGE, reduceCtorEq, Nat.reduceEqDiff, List.getElem?_cons_zero, List.getElem?_cons_succ, Option.map_some, if_true]
  refine SCalls.mono (greatC_calls hy 500) ?_
  rintro r G ⟨rfl, b2, rfl, l2⟩
  cases b2 with
  | true =>
    simp (maxSteps := 1000000) (implicitDefEqProofs := false) only [stp, if_true, if_false, Int.reduceEq, Int.reduceLT, Int.reduceLE, Int.reduceGT, Int.reduceGE, reduceCtorEq, Nat.reduceEqDiff, List.getElem?_cons_zero, List.getElem?_cons_succ, Option.map_some, if_true]
    refine knownC_ok _ _ ?_
    simp (maxSteps := 1000000) (implicitDefEqProofs := false) only [stp, if_true, if_false, Int.reduceEq, Int.reduceLT, Int.reduceLE, Int.reduceGT, Int.reduceGE, reduceCtorEq, Nat.reduceEqDiff, List.getElem?_cons_zero, List.getElem?_cons_succ, Option.map_some, if_true]
  | false =>
  have l2 := l2 rfl
  simp (maxSteps := 1000000) (implicitDefEqProofs := false) only [stp, if_true, if_false, Int.reduceEq, Int.reduceLT, Int.reduceLE, Int.reduceGT, Int.reduceGE, reduceCtorEq, Nat.reduceEqDiff, List.getElem?_cons_zero, List.getElem?_cons_succ, Option.map_some, if_true]
  refine SCalls.mono (new_calls sortIs hk hkl) ?_
  rintro r H3 ⟨hx3, hw3, ⟨s, rfl⟩ | ⟨s, rfl, hs⟩⟩
  · simp (maxSteps := 1000000) (implicitDefEqProofs := false) only [stp, if_true, if_false, Int.reduceEq, Int.reduceLT, Int.reduceLE, Int.reduceGT, Int.reduceGE, reduceCtorEq, Nat.reduceEqDiff, List.getElem?_cons_zero, List.getElem?_cons_succ, Option.map_some, Bool.false_eq_true]
    refine knownC_ok _ _ ?_
    simp (maxSteps := 1000000) (implicitDefEqProofs := false) only [stp, if_true, if_false, Int.reduceEq, Int.reduceLT, Int.reduceLE, Int.reduceGT, Int.reduceGE, reduceCtorEq, Nat.reduceEqDiff, List.getElem?_cons_zero, List.getElem?_cons_succ, Option.map_some, if_true]
  have hx' := hx.ext hx3
  have hy' := hy.ext hx3
  simp (maxSteps := 1000000) (implicitDefEqProofs := false) only [stp, if_true, if_false, Int.reduceEq, Int.reduceLT, Int.reduceLE, Int.reduceGT, Int.reduceGE, reduceCtorEq, Nat.reduceEqDiff, List.getElem?_cons_zero, List.getElem?_cons_succ, Option.map_some, Bool.false_eq_true]
  refine SCalls.mono (cellsMay_calls (hT.ext hx3) hs hx') ?_
  rintro r G4 ⟨rfl, e1, rfl, q1⟩
  by_cases z1 : e1 = 0
  rotate_left
  · simp (maxSteps := 1000000) (implicitDefEqProofs := false) only [stp, if_true, if_false, Int.reduceEq, Int.reduceLT, Int.reduceLE, Int.reduceGT, Int.reduceGE, reduceCtorEq, Nat.reduceEqDiff, List.getElem?_cons_zero, List.getElem?_cons_succ, Option.map_some, z1]
    refine knownC_ok _ _ ?_
    simp (maxSteps := 1000000) (implicitDefEqProofs := false) only [stp, if_true, if_false, Int.reduceEq, Int.reduceLT, Int.reduceLE, Int.reduceGT, Int.reduceGE, reduceCtorEq, Nat.reduceEqDiff, List.getElem?_cons_zero, List.getElem?_cons_succ, Option.map_some, if_true]
  obtain ⟨i1, c1, hu1, n1⟩ := q1 z1
  simp (maxSteps := 1000000) (implicitDefEqProofs := false) only [stp, if_true, if_false, Int.reduceEq, Int.reduceLT, Int.reduceLE, Int.reduceGT, Int.reduceGE, reduceCtorEq, Nat.reduceEqDiff, List.getElem?_cons_zero, List.getElem?_cons_succ, Option.map_some, z1]
  refine SCalls.mono (cellsMay_calls (hT.ext hx3) hs hy') ?_
  rintro r G4 ⟨rfl, e2, rfl, q2⟩
  by_cases z2 : e2 = 0
  rotate_left
  · simp (maxSteps := 1000000) (implicitDefEqProofs := false) only [stp, if_true, if_false, Int.reduceEq, Int.reduceLT, Int.reduceLE, Int.reduceGT, Int.reduceGE, reduceCtorEq, Nat.reduceEqDiff, List.getElem?_cons_zero, List.getElem?_cons_succ, Option.map_some, z2]
    refine knownC_ok _ _ ?_
    simp (maxSteps := 1000000) (implicitDefEqProofs := false) only [stp, if_true, if_false, Int.reduceEq, Int.reduceLT, Int.reduceLE, Int.reduceGT, Int.reduceGE, reduceCtorEq, Nat.reduceEqDiff, List.getElem?_cons_zero, List.getElem?_cons_succ, Option.map_some, if_true]
  obtain ⟨i2, c2, hu2, n2⟩ := q2 z2
  simp (maxSteps := 1000000) (implicitDefEqProofs := false) only [stp, if_true, if_false, Int.reduceEq, Int.reduceLT, Int.reduceLE, Int.reduceGT, Int.reduceGE, reduceCtorEq, Nat.reduceEqDiff, List.getElem?_cons_zero, List.getElem?_cons_succ, Option.map_some, z2]
  refine SCalls.mono (cellsSame_calls hx' hy') ?_
  rintro r G4 ⟨rfl, rfl⟩
  obtain ⟨a1, hcut1⟩ := cells_cut hx' hcx hu1
  simp (maxSteps := 1000000) (implicitDefEqProofs := false) only [stp, if_true, if_false, Int.reduceEq, Int.reduceLT, Int.reduceLE, Int.reduceGT, Int.reduceGE, reduceCtorEq, Nat.reduceEqDiff, List.getElem?_cons_zero, List.getElem?_cons_succ, Option.map_some, if_true]
  refine SCalls.mono (delta_calls hx' hcut1 (by omega)) ?_
  rintro r G1 ⟨g1, gw1, os1, ho1, hc1⟩
  obtain ⟨a2, hcut2⟩ := cells_cut (hy'.ext g1) hcy hu2
  simp (maxSteps := 1000000) (implicitDefEqProofs := false) only [stp, if_true, if_false, Int.reduceEq, Int.reduceLT, Int.reduceLE, Int.reduceGT, Int.reduceGE, reduceCtorEq, Nat.reduceEqDiff, List.getElem?_cons_zero, List.getElem?_cons_succ, Option.map_some, if_true]
  refine SCalls.mono (delta_calls (hy'.ext g1) hcut2 (by omega)) ?_
  rintro r G2 ⟨g2, gw2, os2, ho2, hc2⟩
  simp (maxSteps := 1000000) (implicitDefEqProofs := false) only [stp, if_true, if_false, Int.reduceEq, Int.reduceLT, Int.reduceLE, Int.reduceGT, Int.reduceGE, reduceCtorEq, Nat.reduceEqDiff, List.getElem?_cons_zero, List.getElem?_cons_succ, Option.map_some, if_true]
  refine SCalls.mono (opsSame_calls (ho1.ext g2) ho2) ?_
  rintro r G5 ⟨rfl, rfl⟩
  have hlaw : listEq opEq (os1.map OpA.con) (os2.map OpA.con) = listEq pairEq (us.map CellA.pr) (bs.map CellA.pr) := by
    rw [hc1, hc2, hu1, hu2, Bool.eq_iff_iff, listEq_iff (fun a _ b _ => opEq_iff), listEq_iff (fun a _ b _ => pairEq_iff)]
    exact apart_law (n1.trans n2.symm)
  rw [hlaw]
  cases hse : listEq pairEq (us.map CellA.pr) (bs.map CellA.pr) with
  | false =>
    simp (maxSteps := 1000000) (implicitDefEqProofs := false) only [stp, if_true, if_false, Int.reduceEq, Int.reduceLT, Int.reduceLE, Int.reduceGT, Int.reduceGE, reduceCtorEq, Nat.reduceEqDiff, List.getElem?_cons_zero, List.getElem?_cons_succ, Option.map_some, x_bbinf]
    refine knownC_ok _ _ ?_
    simp (maxSteps := 1000000) (implicitDefEqProofs := false) only [stp, if_true, if_false, Int.reduceEq, Int.reduceLT, Int.reduceLE, Int.reduceGT, Int.reduceGE, reduceCtorEq, Nat.reduceEqDiff, List.getElem?_cons_zero, List.getElem?_cons_succ, Option.map_some, if_true]
  | true =>
    have hpr := (listEq_iff (fun a _ b _ => pairEq_iff)).1 hse
    have hrr : us.map (·.r) = bs.map (·.r) := by
      have := congrArg (List.map Prod.fst) hpr
      simpa [CellA.pr, Function.comp_def] using this
    have g12 := g1.trans g2
    simp (maxSteps := 1000000) (implicitDefEqProofs := false) only [stp, if_true, if_false, Int.reduceEq, Int.reduceLT, Int.reduceLE, Int.reduceGT, Int.reduceGE, reduceCtorEq, Nat.reduceEqDiff, List.getElem?_cons_zero, List.getElem?_cons_succ, Option.map_some, x_bbinf]
    refine SCalls.mono (cellsText_calls (hx'.ext g12)) ?_
    rintro r G6 ⟨g6, gw6, t1⟩
    simp (maxSteps := 1000000) (implicitDefEqProofs := false) only [stp, if_true, if_false, Int.reduceEq, Int.reduceLT, Int.reduceLE, Int.reduceGT, Int.reduceGE, reduceCtorEq, Nat.reduceEqDiff, List.getElem?_cons_zero, List.getElem?_cons_succ, Option.map_some, if_true]
    refine SCalls.mono (cellsText_calls (hy'.ext (g12.trans g6))) ?_
    rintro r G7 ⟨g7, gw7, t2⟩
    have hul := hx.len
    simp (maxSteps := 1000000) (implicitDefEqProofs := false) only [stp, if_true, if_false, Int.reduceEq, Int.reduceLT, Int.reduceLE, Int.reduceGT, Int.reduceGE, reduceCtorEq, Nat.reduceEqDiff, List.getElem?_cons_zero, List.getElem?_cons_succ, Option.map_some, if_true]
    refine SCalls.mono (refSame_calls (t1.ext g7) t2 (by rw [List.length_map]; exact hul)) ?_
    rintro r G8 ⟨rfl, rfl⟩
    have ht : listEq runeEq (us.map (·.r)) (bs.map (·.r)) = true := (listEq_iff fun a _ b _ => runeEq_iff).2 hrr
    rw [ht]
    simp (maxSteps := 1000000) (implicitDefEqProofs := false) only [stp, if_true, if_false, Int.reduceEq, Int.reduceLT, Int.reduceLE, Int.reduceGT, Int.reduceGE, reduceCtorEq, Nat.reduceEqDiff, List.getElem?_cons_zero, List.getElem?_cons_succ, Option.map_some, if_true]
    refine knownC_ok _ _ ?_
    simp (maxSteps := 1000000) (implicitDefEqProofs := false) only [stp, if_true, if_false, Int.reduceEq, Int.reduceLT, Int.reduceLE, Int.reduceGT, Int.reduceGE, reduceCtorEq, Nat.reduceEqDiff, List.getElem?_cons_zero, List.getElem?_cons_succ, Option.map_some, if_true]

theorem cl69 : PP.cellsOf 69 = 2 := by kernel_rfl
set_option maxRecDepth 100000 in
theorem cell_of {n : Nat} {G : Heap} {l : List V} (h : GoodT PP big G (n + 5) 69 l) : ∃ c : CellA, l = c.cells ∧ c.In G := by
  obtain ⟨hl, hf⟩ := good_struct Tryd.underlying69 h
  rw [cl69] at hl
  match l, hl with
  | [a, b], _ =>
    have g0 : GoodT PP big G (n + 4) 21 (([a, b].drop 0).take (PP.cellsOf 21)) := hf ⟨ "R", 21, 0, false, "", "", 0⟩ (by simp)
    have g1 : GoodT PP big G (n + 4) 38 (([a, b].drop 1).take (PP.cellsOf 38)) := hf ⟨ "Set", 38, 1, false, "", "", 8⟩ (by simp)
    rw [cl21] at g0
    rw [cl38] at g1
    obtain ⟨i0, e0, _⟩ := good_int Tryd.underlying21 g0
    obtain ⟨v3, l3, e3, s3, n3, k3⟩ := good_slice Tryd.underlying38 g1
    simp only [List.drop_zero, List.drop_succ_cons, List.take_succ_cons, List.take_zero, List.cons.injEq, and_true] at e0 e3
    obtain ⟨ats, rfl, ra⟩ := list_of (fun l hl => attr_of (n := n) hl) k3
    rw [cl73] at s3
    rw [List.length_map] at n3
    exact ⟨⟨i0, v3, ats⟩, by simp [CellA.cells, e0, e3], ⟨s3, n3, ra⟩⟩
set_option maxRecDepth 100000 in
theorem cellsApart_main {G : Heap} (hT : Tabs G) {keys x y : V} {ks us bs : List (List V)} (hk : SL G keys 6 ks) (hkl : ks.length ≤ big) (hkg : ∀ l ∈ ks, GoodT PP big G 9 53 l)
    (hx : SL G x 2 us) (hxl : us.length ≤ big) (hxg : ∀ l ∈ us, GoodT PP big G 9 69 l) (hcx : CapOk x) (hy : SL G y 2 bs) (hyl : bs.length ≤ big) (hyg : ∀ l ∈ bs, GoodT PP big G 9 69 l) (hcy : CapOk y) :
    SCalls PP 6 [keys, x, y] G fun r H' => r = .bool true := by
  obtain ⟨ks, rfl⟩ := keys_of (n := 7) hkg
  obtain ⟨us, rfl, hin⟩ := list_of (fun l hl => cell_of (n := 4) hl) hxg
  obtain ⟨bs, rfl, hjn⟩ := list_of (fun l hl => cell_of (n := 4) hl) hyg
  rw [List.length_map] at hkl hxl hyl
  exact cellsApart_calls hT hk hkl ⟨hx, hin, hxl⟩ ⟨hy, hjn, hyl⟩ hcx hcy
end Go.Proofs.YtbadbkdpnbacnaaDoor.Fw

/- CellsApart: the frame. No condition. Printed by mkH.py. -/
namespace Go.Proofs.YtbadbkdpnbacnaaDoor.cellsApart
open Go Go.ChangeShapes Go.WideShapes Go.ChangeAt Go.RowKit Go.Proofs.YtbadbkdpnbacnaaDoor.Fw
set_option linter.unusedSimpArgs false
set_option linter.unusedVariables false

set_option maxRecDepth 100000 in
theorem main {W : World} {B : Nat} (hB : B = 1048576) {x0 : V} {l0 : List (List V)} (hs0 : SL (hOf W) x0 6 l0) (hl0 : l0.length ≤ B) (hg0 : ∀ l ∈ l0, GoodT PP B (hOf W) 9 53 l) (hc0 : CapOk x0) {x1 : V} {l1 : List (List V)} (hs1 : SL (hOf W) x1 2 l1) (hl1 : l1.length ≤ B) (hg1 : ∀ l ∈ l1, GoodT PP B (hOf W) 9 69 l) (hc1 : CapOk x1) {x2 : V} {l2 : List (List V)} (hs2 : SL (hOf W) x2 2 l2) (hl2 : l2.length ≤ B) (hg2 : ∀ l ∈ l2, GoodT PP B (hOf W) 9 69 l) (hc2 : CapOk x2) (hL : laidMetH PP Rows.cellsApartRow.laid W) :
    SCalls PP 6 [x0, x1, x2] (hOf W) fun r H' => r = .bool true := by
  subst hB
  exact cellsApart_main (tabs_of hL) hs0 hl0 hg0 hs1 hl1 hg1 hc1 hs2 hl2 hg2 hc2

set_option maxRecDepth 100000 in
theorem contract (H : Type) (enc : TypeId × Value → H) (W : World) (base : Nat) (args : Array Value) (ds gs : List (DataW H)) (before : List MemPlace)
    (hval : ∀ (j : Nat) t v, Tryd.f6.params[j]? = some t → args[j]? = some v → Value.okWide Tryd.prog W .any base t v)
    (hW : DataW.Whole enc Tryd.prog Tryd.f6.params.toList Rows.cellsApartSpec.vars false W args.toList ds gs before) (hb : Rows.uptoBulkAll (ds ++ gs) ≤ 1048576) (hL : laidMetH Tryd.prog Rows.cellsApartRow.laid W) :
    Calls Tryd.prog 6 args W fun e W' => ∃ v, e = .returned v ∧ Rows.cellsApartSpec.post enc Tryd.prog Tryd.f6 false true false false W args v W' := by
  have hW' := hW
  obtain ⟨p, q, hA0, hV, rfl, hfz, hnd⟩ := hW
  have hA : DataW.TrodAll enc Tryd.prog W 0 (fun _ => true) true Tryd.f6.params.toList args.toList ds p := hA0
  rw [Tryd.params6] at hA hval
  obtain ⟨v0, vs0, d0, ds0, p0, q0, hargs, rfl, rfl, h0, r0⟩ := trodAll_cons hA
  obtain ⟨v1, vs1, d1, ds1, p1, q1, rfl, rfl, rfl, h1, r1⟩ := trodAll_cons r0
  obtain ⟨v2, vs2, d2, ds2, p2, q2, rfl, rfl, rfl, h2, r2⟩ := trodAll_cons r1
  obtain ⟨rfl, rfl, rfl⟩ := trodAll_nil r2
  obtain rfl : args = #[v0, v1, v2] := by cases args; simp_all
  obtain ⟨rfl, rfl⟩ := trodVars_none hV
  simp only [Rows.uptoBulkAll, List.append_nil] at hb
  have hlt : ∀ x ∈ p0 ++ (p1 ++ (p2 ++ [])) ++ [], x.block < W.heap.size := fun x hx => by simpa using hW'.lt x hx
  obtain ⟨x0, l0, hv0, hs0, hl0, hg0, hc0⟩ := arg_slice2 (n := 9) Tryd.underlying22 (by kernel_rfl) (hval 0 22 v0 rfl rfl) h0 (B := 1048576) (by omega)
  have h0k := h0
  obtain ⟨x1, l1, hv1, hs1, hl1, hg1, hc1⟩ := arg_slice2 (n := 9) Tryd.underlying42 (by kernel_rfl) (hval 1 42 v1 rfl rfl) h1 (B := 1048576) (by omega)
  have h1k := h1
  obtain ⟨x2, l2, hv2, hs2, hl2, hg2, hc2⟩ := arg_slice2 (n := 9) Tryd.underlying42 (by kernel_rfl) (hval 2 42 v2 rfl rfl) h2 (B := 1048576) (by omega)
  have h2k := h2
  have walk := calls_of (main (W := W) rfl (x0 := x0) (l0 := l0) (by rw [show (6 : Nat) = PP.cellsOf 53 by kernel_rfl]; exact hs0) hl0 hg0 hc0 (x1 := x1) (l1 := l1) (by rw [show (2 : Nat) = PP.cellsOf 69 by kernel_rfl]; exact hs1) hl1 hg1 hc1 (x2 := x2) (l2 := l2) (by rw [show (2 : Nat) = PP.cellsOf 69 by kernel_rfl]; exact hs2) hl2 hg2 hc2 hL)
    (.mk_cons hv0 (.mk_cons hv1 (.mk_cons hv2 .mk_nil)))
  refine walk.mono fun e W' ⟨he, hB⟩ => ?_
  subst he
  refine ⟨_, rfl, _, _, _, [], p0 ++ (p1 ++ (p2 ++ [])), [], hW', trodAll_cons_mk (shut_bool Tryd.underlying4 _) trodAll_mk0, ?_, rfl, hB.frame _, fun h => by cases h⟩
  exact trodAll_cons_mk (Below.trod laidOut (by kernel_rfl) (of_decide_eq_true (by kernel_rfl)) h0k hB (fun x hx => hlt x (by simp [hx])))
    (trodAll_cons_mk (Below.trod laidOut (by kernel_rfl) (of_decide_eq_true (by kernel_rfl)) h1k hB (fun x hx => hlt x (by simp [hx])))
    (trodAll_cons_mk (Below.trod laidOut (by kernel_rfl) (of_decide_eq_true (by kernel_rfl)) h2k hB (fun x hx => hlt x (by simp [hx])))
    trodAll_mk0))

/-- A WORLD FOR THE WITNESS. -/
def flatD : DataW Unit → List Value
  | .lit (.int k n) => [.int k n]
  | .agg l => flatDL l
  | _ => []
  where flatDL : List (DataW Unit) → List Value
  | [] => []
  | d :: l => flatD d ++ flatDL l
def setCells (l : List Value) : Obj → Obj
  | .cells _ t frozen => .cells l.toArray t frozen
  | o => o
noncomputable def laidWorld (os : Os) : World :=
  { World.holding Tryd.prog os ⟨#[], #[], []⟩ with heap := ((World.holding Tryd.prog os ⟨#[], #[], []⟩).heap.modify 1 (setCells (flatD Rows.laid_unicode_utf8_first))).modify 2 (setCells (flatD Rows.laid_unicode_utf8_acceptRanges)) }
def wargs : Array Value := #[.slice none 0 0, .slice none 0 0, .slice none 0 0]
theorem laid_met (os : Os) : laidMet Tryd.prog Rows.cellsApartRow.laid ((laidWorld os).forCall (fun _ _ => 0) ⟨#[], wargs, []⟩).memory :=
  laidMet_of_run' 8 (by kernel_rfl) (by kernel_rfl)
theorem reads (os : Os) {H : Type} (enc : TypeId × Value → H) : ∃ places, DataW.whole enc Tryd.prog ((laidWorld os).forCall (fun _ _ => 0) ⟨#[], wargs, []⟩).memory Tryd.f6.params.toList Rows.cellsApartSpec.vars false wargs.toList 8 = some ([.nil, .nil, .nil], [], places) :=
  ⟨[], by kernel_rfl⟩

set_option maxRecDepth 100000 in
theorem liftedUpto (os : Os) (started : os.Started) (H : Type) (enc : TypeId × Value → H) (F : Stop.Interp) :
    ReturnsInHanded {} Tryd.checked os 6 .any ((Rows.OpenSpec.upto Rows.cellsApartSpec).preRow enc Tryd.prog Tryd.f6 Rows.cellsApartUptoRow.domain false Rows.cellsApartUptoRow.laid) (((Rows.OpenSpec.upto Rows.cellsApartSpec).at F).post enc Tryd.prog Tryd.f6 false true false false) := by
  obtain ⟨places, hx⟩ := reads os enc
  refine returnsInHanded_of_row (C := Tryd.checked) (s := Rows.OpenSpec.upto Rows.cellsApartSpec) own started (by kernel_rfl) Tryd.func6
    (witness_row_at (enc := enc) (C := Tryd.checked) false (laidWorld os) wargs rfl (by kernel_rfl) (by kernel_rfl) (by kernel_rfl)
      (OpenSpec.preRow_of_cond 8 hx (by kernel_rfl) (fun k hk => (by cases hk; kernel_rfl)) (by kernel_rfl) (laid_met os))) ?_
  intro W base args ds gs before hval hW _ hcond _ hL _ _
  exact contract H enc W base args ds gs before hval hW (of_decide_eq_true (hcond _ rfl)) hL

theorem saidUpto : Rows.CellsApartUptoSaid :=
  OpenClaim.holds_of_cond 6 Tryd.f6 rfl rfl rfl rfl rfl rfl rfl ⟨rfl, rfl, rfl, rfl, rfl⟩ rfl rfl rfl rfl rfl (by kernel_rfl) Tryd.func6 (by kernel_rfl)
    (of_decide_eq_true (by kernel_rfl)) (by unfold Func.isWrapper; first | (rw [if_pos (by decide +kernel)]; kernel_rfl) | (rw [if_neg (by decide +kernel)]; exact ⟨rfl, rfl⟩))
    (fun os started H enc _ F => by rw [OpenClaim.pre_eq_preRow]; exact liftedUpto os started H enc F)

theorem plain (f : FuncId) (fn : Func) (hf : Tryd.pinned.checked.prog.funcNamed "rubric/rubriclaw18.CellsApart" = some f) (hfn : Tryd.pinned.checked.prog.funcs[f]? = some fn) :
    false = Tryd.pinned.checked.prog.looks [] ∧ ∀ (j : Nat) t, fn.params[j]? = some t → Tryd.pinned.checked.prog.wantsStandIn t = false := by
  obtain rfl : f = 6 := Option.some.inj ((show Tryd.prog.funcNamed "rubric/rubriclaw18.CellsApart" = some 6 by kernel_rfl).symm.trans hf) |>.symm
  obtain rfl : fn = Tryd.f6 := (Option.some.inj (Tryd.func6.symm.trans hfn)).symm
  refine ⟨by kernel_rfl, fun j t ht => ?_⟩
  rw [Tryd.params6] at ht
  have hm : t ∈ #[22, 42, 42] := Array.mem_of_getElem? ht
  simp at hm
  rcases hm with rfl | rfl
  · exact (show Tryd.prog.wantsStandIn 22 = false by kernel_rfl)
  · exact (show Tryd.prog.wantsStandIn 42 = false by kernel_rfl)

/-- THE CARD. -/
theorem cardUpto : Rows.CellsApartUptoCardSaid :=
  Claim7.holds_tied_plain_at .later [] _ _ _ _ saidUpto (fun _ h => by cases h) (by kernel_rfl) (fun _ h => by cases h) cellsApartUpto_row_tie rfl ⟨rfl, rfl⟩ (by kernel_rfl) rfl plain (by kernel_rfl)
end Go.Proofs.YtbadbkdpnbacnaaDoor.cellsApart

