/- Part 2 of the proof. HistoryBrackets: what is pushed in a bracket is one group; a bracket with nothing is none, and leaves what can be done again; undo and redo are refused within; on the one condition that the arguments hold together at most 2^20 data, as the statement's own bound says. -/
import Derived.Test.YtkmaikggdbielaaGreatDoorBracketsM1

/- What functions of the program answer: Takes. No condition. -/
namespace Go.Proofs.YtkmaikggdbielaaGreatDoor.Fw
open Go
set_option linter.unusedSimpArgs false
set_option linter.unusedVariables false

/-! ### Takes, size, Makes, final -/
def takesF : Int → List OpA → Int
  | acc, [] => acc
  | acc, o :: os => takesF (if o.kind = 2 then acc else IntKind.i64.wrap (acc + o.n)) os

theorem takes_calls {x : V} {H : Heap} {os : List OpA} (hx : OpsIn H x os) : SCalls PP 83 [x] H fun r H' => H' = H ∧ r = .int .i64 (takesF 0 os) := by
  refine SCalls.keep (R := fun r => r = .int .i64 (takesF 0 os)) (SCalls.go c83 (by simp [fn83]) fun hw => ?_)
  have hb := hx.len
  simp only [fn83, enterFr, List.length, List.range, List.range.loop, List.zip, List.zipWith, stp, if_true, if_false, Int.reduceEq, Int.reduceLT, Int.reduceLE, Int.reduceGT, Int.reduceGE, reduceCtorEq, Nat.reduceEqDiff, List.getElem?_cons_zero, List.getElem?_cons_succ, Option.map_some, hx.sl.len]
  refine wp_range SCalls.scMono (by simp only [List.length_map]; unfold big at hb; omega) (fun acc => [(6, x), (3, .int .i64 acc)]) (fun k acc H' => takesF acc (os.drop k) = takesF 0 os ∧ Ext H H' ∧ WF H') 0 ⟨rfl, Ext.refl H, hw⟩
    (.cons rfl (.cons rfl (.cons rfl (.cons rfl .nil)))) (by decide) (fun s => ⟨rfl, rfl, rfl⟩) ?_ ?_
  · rintro k acc H' hk ⟨hacc, hext, hwf⟩
    rw [List.length_map] at hk
    simp only [s_seq, s_region]
    refine wp_elem hx.sl hext hwf (k := k) (e := os[k].cells) (by simp [hk]) rfl rfl rfl rfl (by decide) fun q id o H2 hx2 hw2 ha2 _ => ?_
    have l0 := ha2.ld (j := 0) (v := .int .u8 os[k].kind) rfl 1
    have l1 := ha2.ld (j := 1) (v := .int .i64 os[k].n) rfl 1
    rw [List.drop_eq_getElem_cons hk] at hacc
    simp only [takesF] at hacc
    by_cases h2 : os[k].kind = 2
    · rw [if_pos h2] at hacc
      simp only [stp, if_true, if_false, Int.reduceEq, Int.reduceLT, Int.reduceLE, Int.reduceGT, Int.reduceGE, reduceCtorEq, Nat.reduceEqDiff, List.getElem?_cons_zero, List.getElem?_cons_succ, Option.map_some, l0, h2, decide_true, Bool.not_true]
      exact ⟨acc, ⟨hacc, hx2, hw2⟩, .cons rfl (.cons rfl (.cons rfl (.cons rfl .nil)))⟩
    · rw [if_neg h2] at hacc
      simp only [stp, if_true, if_false, Int.reduceEq, Int.reduceLT, Int.reduceLE, Int.reduceGT, Int.reduceGE, reduceCtorEq, Nat.reduceEqDiff, List.getElem?_cons_zero, List.getElem?_cons_succ, Option.map_some, l0, l1, h2, decide_false, Bool.not_false]
      exact ⟨_, ⟨hacc, hx2, hw2⟩, .cons rfl (.cons rfl (.cons rfl (.cons rfl .nil)))⟩
  · rintro acc H' ⟨hacc, hext, hwf⟩
    simp only [stp, if_true, if_false, Int.reduceEq, Int.reduceLT, Int.reduceLE, Int.reduceGT, Int.reduceGE, reduceCtorEq, Nat.reduceEqDiff, List.getElem?_cons_zero, List.getElem?_cons_succ, Option.map_some]
    rw [List.length_map, List.drop_length] at hacc
    exact ⟨hext, by rw [← hacc]; rfl, rfl⟩

def sizeO (o : OpA) : Int := if o.kind = 2 then o.rs.length else o.n
theorem size_calls {H : Heap} {o : OpA} (ho : o.In H) (hon : o.cells.all V.one = true) : SCalls PP 109 [.agg o.cells] H fun r H' => H' = H ∧ r = .int .i64 (sizeO o) := by
  refine SCalls.keep (R := fun r => r = .int .i64 (sizeO o)) (SCalls.go c109 (by simp [fn109]) fun hw => ?_)
  obtain ⟨H2, hx2, hw2, ha2, hbx⟩ := x_boxed (Ext.refl H) hw (e := o.cells) hon
  have l0 := ha2.ld (j := 0) (v := .int .u8 o.kind) rfl 1
  have l1 := ha2.ld (j := 1) (v := .int .i64 o.n) rfl 1
  have l2 := ha2.ld (j := 2) (v := o.runes) rfl 1
  by_cases h2 : o.kind = 2
  · simp only [fn109, enterFr, List.length, List.range, List.range.loop, List.zip, List.zipWith, stp, if_true, if_false, Int.reduceEq, Int.reduceLT, Int.reduceLE, Int.reduceGT, Int.reduceGE, reduceCtorEq, Nat.reduceEqDiff, List.getElem?_cons_zero, List.getElem?_cons_succ, Option.map_some, hbx, l0, l2, h2, decide_true, ho.runes.len]
    exact ⟨hx2, by simp [sizeO, h2, resV], rfl⟩
  · simp only [fn109, enterFr, List.length, List.range, List.range.loop, List.zip, List.zipWith, stp, if_true, if_false, Int.reduceEq, Int.reduceLT, Int.reduceLE, Int.reduceGT, Int.reduceGE, reduceCtorEq, Nat.reduceEqDiff, List.getElem?_cons_zero, List.getElem?_cons_succ, Option.map_some, hbx, l0, l1, h2, decide_false]
    exact ⟨hx2, by simp [sizeO, h2, resV], rfl⟩

def makesF : Int → List OpA → Int
  | acc, [] => acc
  | acc, o :: os => makesF (if o.kind = 3 then acc else IntKind.i64.wrap (acc + sizeO o)) os
theorem makes_calls {x : V} {H : Heap} {os : List OpA} (hx : OpsIn H x os) : SCalls PP 84 [x] H fun r H' => H' = H ∧ r = .int .i64 (makesF 0 os) := by
  refine SCalls.keep (R := fun r => r = .int .i64 (makesF 0 os)) (SCalls.go c84 (by simp [fn84]) fun hw => ?_)
  have hb := hx.len
  simp only [fn84, enterFr, List.length, List.range, List.range.loop, List.zip, List.zipWith, stp, if_true, if_false, Int.reduceEq, Int.reduceLT, Int.reduceLE, Int.reduceGT, Int.reduceGE, reduceCtorEq, Nat.reduceEqDiff, List.getElem?_cons_zero, List.getElem?_cons_succ, Option.map_some, hx.sl.len]
  refine wp_range SCalls.scMono (by simp only [List.length_map]; unfold big at hb; omega) (fun acc => [(6, x), (3, .int .i64 acc)]) (fun k acc H' => makesF acc (os.drop k) = makesF 0 os ∧ Ext H H' ∧ WF H') 0 ⟨rfl, Ext.refl H, hw⟩
    (.cons rfl (.cons rfl (.cons rfl (.cons rfl .nil)))) (by decide) (fun s => ⟨rfl, rfl, rfl⟩) ?_ ?_
  · rintro k acc H' hk ⟨hacc, hext, hwf⟩
    rw [List.length_map] at hk
    simp only [s_seq, s_region]
    refine wp_elem hx.sl hext hwf (k := k) (e := os[k].cells) (by simp [hk]) rfl rfl rfl rfl (by decide) fun q id o H2 hx2 hw2 ha2 _ => ?_
    have l0 := ha2.ld (j := 0) (v := .int .u8 os[k].kind) rfl 1
    have la := ha2.lda (n := 5) rfl
    rw [List.drop_eq_getElem_cons hk] at hacc
    simp only [makesF] at hacc
    by_cases h2 : os[k].kind = 3
    · rw [if_pos h2] at hacc
      simp only [stp, if_true, if_false, Int.reduceEq, Int.reduceLT, Int.reduceLE, Int.reduceGT, Int.reduceGE, reduceCtorEq, Nat.reduceEqDiff, List.getElem?_cons_zero, List.getElem?_cons_succ, Option.map_some, l0, h2, decide_true, Bool.not_true]
      exact ⟨acc, ⟨hacc, hx2, hw2⟩, .cons rfl (.cons rfl (.cons rfl (.cons rfl .nil)))⟩
    · rw [if_neg h2] at hacc
      simp only [stp, if_true, if_false, Int.reduceEq, Int.reduceLT, Int.reduceLE, Int.reduceGT, Int.reduceGE, reduceCtorEq, Nat.reduceEqDiff, List.getElem?_cons_zero, List.getElem?_cons_succ, Option.map_some, l0, la, h2, decide_false, Bool.not_false]
      refine SCalls.mono (size_calls ((hx.ins _ (List.getElem_mem hk)).ext hx2) (hx.sl.1 _ (List.mem_map_of_mem (List.getElem_mem hk))).2) ?_
      rintro r H3 ⟨rfl, rfl⟩
      simp only [stp, if_true, if_false, Int.reduceEq, Int.reduceLT, Int.reduceLE, Int.reduceGT, Int.reduceGE, reduceCtorEq, Nat.reduceEqDiff, List.getElem?_cons_zero, List.getElem?_cons_succ, Option.map_some]
      exact ⟨_, ⟨hacc, hx2, hw2⟩, .cons rfl (.cons rfl (.cons rfl (.cons rfl .nil)))⟩
  · rintro acc H' ⟨hacc, hext, hwf⟩
    simp only [stp, if_true, if_false, Int.reduceEq, Int.reduceLT, Int.reduceLE, Int.reduceGT, Int.reduceGE, reduceCtorEq, Nat.reduceEqDiff, List.getElem?_cons_zero, List.getElem?_cons_succ, Option.map_some]
    rw [List.length_map, List.drop_length] at hacc
    exact ⟨hext, by rw [← hacc]; rfl, rfl⟩

end Go.Proofs.YtkmaikggdbielaaGreatDoor.Fw

/- What functions of the program answer: runes, form. No condition. -/
namespace Go.Proofs.YtkmaikggdbielaaGreatDoor.Fw
open Go
set_option linter.unusedSimpArgs false
set_option linter.unusedVariables false

def runeOk (r : Int) : Bool := (decide (0 ≤ r) && decide (r < 55296)) || (decide (57343 < r) && decide (r ≤ 1114111))
theorem validRune_calls (r : Int) (H : Heap) : SCalls PP 144 [.int .i32 r] H fun v H' => H' = H ∧ v = .bool (runeOk r) := by
  refine SCalls.keep (R := fun v => v = .bool (runeOk r)) (SCalls.go c144 (by simp [fn144]) fun hw => ?_)
  by_cases h1 : 0 ≤ r <;> by_cases h2 : r < 55296 <;> by_cases h3 : 57343 < r <;> by_cases h4 : r ≤ 1114111 <;>
    simp only [fn144, enterFr, List.length, List.range, List.range.loop, List.zip, List.zipWith, stp, if_true, if_false, Int.reduceEq, Int.reduceLT, Int.reduceLE, Int.reduceGT, Int.reduceGE, reduceCtorEq, Nat.reduceEqDiff, List.getElem?_cons_zero, List.getElem?_cons_succ, Option.map_some, h1, h2, h3, h4, Bool.false_eq_true] <;>
    exact ⟨Ext.refl H, by simp [runeOk, h1, h2, h3, h4], rfl⟩
theorem runesMay_calls (r : Int) (H : Heap) : SCalls PP 138 [.int .i32 r] H fun v H' => H' = H ∧ v = .bool (runeOk r) := by
  refine SCalls.go c138 (by simp [fn138]) fun hw => ?_
  simp only [fn138, enterFr, List.length, List.range, List.range.loop, List.zip, List.zipWith, stp, if_true, if_false, Int.reduceEq, Int.reduceLT, Int.reduceLE, Int.reduceGT, Int.reduceGE, reduceCtorEq, Nat.reduceEqDiff, List.getElem?_cons_zero, List.getElem?_cons_succ, Option.map_some]
  refine SCalls.mono (validRune_calls r H) ?_
  rintro v H' ⟨rfl, rfl⟩
  simp only [stp, if_true, if_false, Int.reduceEq, Int.reduceLT, Int.reduceLE, Int.reduceGT, Int.reduceGE, reduceCtorEq, Nat.reduceEqDiff, List.getElem?_cons_zero, List.getElem?_cons_succ, Option.map_some]
  exact ⟨by trivial, by trivial⟩
theorem form1_calls (r : Int) (H : Heap) : SCalls PP 137 [.int .i32 r] H fun v H' => H' = H ∧ v = .bool (!runeOk r) := by
  refine SCalls.go c137 (by simp [fn137]) fun hw => ?_
  simp only [fn137, enterFr, List.length, List.range, List.range.loop, List.zip, List.zipWith, stp, if_true, if_false, Int.reduceEq, Int.reduceLT, Int.reduceLE, Int.reduceGT, Int.reduceGE, reduceCtorEq, Nat.reduceEqDiff, List.getElem?_cons_zero, List.getElem?_cons_succ, Option.map_some]
  refine SCalls.mono (runesMay_calls r H) ?_
  rintro v H' ⟨rfl, rfl⟩
  simp only [stp, if_true, if_false, Int.reduceEq, Int.reduceLT, Int.reduceLE, Int.reduceGT, Int.reduceGE, reduceCtorEq, Nat.reduceEqDiff, List.getElem?_cons_zero, List.getElem?_cons_succ, Option.map_some]
  exact ⟨by trivial, by trivial⟩

/-- Where the first rune is that may not be. -/
def badAt : Nat → List Int → Int
  | _, [] => -1
  | k, r :: rs => if runeOk r then badAt (k + 1) rs else k
theorem indexFunc_calls {x : V} {H : Heap} {rs : List Int} (hx : SL H x 1 (rs.map fun r => [V.int .i32 r])) (hl : rs.length ≤ big) :
    SCalls PP 143 [x, .fn (.func 137) [] []] H fun r H' => H' = H ∧ r = .int .i64 (badAt 0 rs) := by
  refine SCalls.keep (R := fun r => r = .int .i64 (badAt 0 rs)) (SCalls.go c143 (by simp [fn143]) fun hw => ?_)
  simp only [fn143, enterFr, List.length, List.range, List.range.loop, List.zip, List.zipWith, stp, if_true, if_false, Int.reduceEq, Int.reduceLT, Int.reduceLE, Int.reduceGT, Int.reduceGE, reduceCtorEq, Nat.reduceEqDiff, List.getElem?_cons_zero, List.getElem?_cons_succ, Option.map_some, hx.len]
  refine wp_range SCalls.scMono (by simp only [List.length_map]; unfold big at hl; omega) (fun _ : Unit => [(0, x), (1, .fn (.func 137) [] [])]) (fun k _ H' => badAt k (rs.drop k) = badAt 0 rs ∧ H' = H) () ⟨rfl, rfl⟩
    (.cons rfl (.cons rfl (.cons rfl (.cons rfl .nil)))) (by decide) (fun s => ⟨rfl, rfl, rfl⟩) ?_ ?_
  · rintro k _ H' hk ⟨hacc, rfl⟩
    rw [List.length_map] at hk
    obtain ⟨id, p, hia, hat⟩ := hx.ia (H' := H') (i := k) (e := [V.int .i32 rs[k]]) (by simp [hk]) .i64
    have l0 := hat.ld (j := 0) (v := .int .i32 rs[k]) rfl 1
    rw [Nat.add_zero] at l0
    rw [List.drop_eq_getElem_cons hk] at hacc
    simp only [badAt] at hacc
    simp only [stp, if_true, if_false, Int.reduceEq, Int.reduceLT, Int.reduceLE, Int.reduceGT, Int.reduceGE, reduceCtorEq, Nat.reduceEqDiff, List.getElem?_cons_zero, List.getElem?_cons_succ, Option.map_some, hia, l0, List.nil_append, List.append_nil]
    refine SCalls.mono (form1_calls rs[k] H') ?_
    rintro v H2 ⟨rfl, rfl⟩
    cases hr : runeOk rs[k] with
    | true =>
      rw [hr, if_pos rfl] at hacc
      simp only [stp, if_true, if_false, Int.reduceEq, Int.reduceLT, Int.reduceLE, Int.reduceGT, Int.reduceGE, reduceCtorEq, Nat.reduceEqDiff, List.getElem?_cons_zero, List.getElem?_cons_succ, Option.map_some, hr]
      exact ⟨(), ⟨hacc, by trivial⟩, .cons rfl (.cons rfl (.cons rfl (.cons rfl .nil)))⟩
    | false =>
      rw [hr, if_neg (by simp)] at hacc
      simp only [stp, if_true, if_false, Int.reduceEq, Int.reduceLT, Int.reduceLE, Int.reduceGT, Int.reduceGE, reduceCtorEq, Nat.reduceEqDiff, List.getElem?_cons_zero, List.getElem?_cons_succ, Option.map_some, hr]
      exact ⟨Ext.refl _, congrArg (V.int .i64) hacc, rfl⟩
  · rintro _ H' ⟨hacc, rfl⟩
    simp only [stp, if_true, if_false, Int.reduceEq, Int.reduceLT, Int.reduceLE, Int.reduceGT, Int.reduceGE, reduceCtorEq, Nat.reduceEqDiff, List.getElem?_cons_zero, List.getElem?_cons_succ, Option.map_some]
    rw [List.length_map, List.drop_length] at hacc
    exact ⟨Ext.refl _, by rw [← hacc]; rfl, rfl⟩
theorem containsFunc_calls {x : V} {H : Heap} {rs : List Int} (hx : SL H x 1 (rs.map fun r => [V.int .i32 r])) (hl : rs.length ≤ big) :
    SCalls PP 136 [x, .fn (.func 137) [] []] H fun r H' => H' = H ∧ r = .bool (decide (badAt 0 rs ≥ 0)) := by
  refine SCalls.go c136 (by simp [fn136]) fun hw => ?_
  simp only [fn136, enterFr, List.length, List.range, List.range.loop, List.zip, List.zipWith, stp, if_true, if_false, Int.reduceEq, Int.reduceLT, Int.reduceLE, Int.reduceGT, Int.reduceGE, reduceCtorEq, Nat.reduceEqDiff, List.getElem?_cons_zero, List.getElem?_cons_succ, Option.map_some]
  refine SCalls.mono (indexFunc_calls hx hl) ?_
  rintro v H' ⟨rfl, rfl⟩
  simp only [stp, if_true, if_false, Int.reduceEq, Int.reduceLT, Int.reduceLE, Int.reduceGT, Int.reduceGE, reduceCtorEq, Nat.reduceEqDiff, List.getElem?_cons_zero, List.getElem?_cons_succ, Option.map_some]
  exact ⟨by trivial, by trivial⟩

/-- An op's form. -/
def formO (o : OpA) : Bool :=
  let text := decide (0 < o.rs.length) || decide (0 < o.ats.length)
  if o.kind = 1 then !text
  else if o.kind = 3 then !text && decide (o.chs.length = 0)
  else if o.kind = 2 then decide (o.n = 0) && decide (o.chs.length = 0) && !decide (badAt 0 o.rs ≥ 0)
  else false
set_option maxHeartbeats 2000000 in
theorem form_calls {H : Heap} {o : OpA} (ho : o.In H) (hon : o.cells.all V.one = true) : SCalls PP 127 [.agg o.cells] H fun r H' => H' = H ∧ r = .bool (formO o) := by
  refine SCalls.keep (R := fun r => r = .bool (formO o)) (SCalls.go c127 (by simp [fn127]) fun hw => ?_)
  obtain ⟨H2, hx2, hw2, ha2, hbx⟩ := x_boxed (Ext.refl H) hw (e := o.cells) hon
  have l0 := ha2.ld (j := 0) (v := .int .u8 o.kind) rfl 1
  have l1 := ha2.ld (j := 1) (v := .int .i64 o.n) rfl 1
  have l2 := ha2.ld (j := 2) (v := o.runes) rfl 1
  have l3 := ha2.ld (j := 3) (v := o.set) rfl 1
  have l4 := ha2.ld (j := 4) (v := o.patch) rfl 1
  have ho2 := ho.ext hx2
  have n2 : exec .len [o.runes] H2 = some (.int .i64 o.rs.length, H2) := by have := ho.runes.len (H' := H2); rwa [List.length_map] at this
  have n3 : exec .len [o.set] H2 = some (.int .i64 o.ats.length, H2) := by have := ho.set.len (H' := H2); rwa [List.length_map] at this
  have n4 : exec .len [o.patch] H2 = some (.int .i64 o.chs.length, H2) := by have := ho.patch.len (H' := H2); rwa [List.length_map] at this
  have er : (0 < o.rs.length) ↔ ((o.rs.length : Int) > 0) := by omega
  have ea : (0 < o.ats.length) ↔ ((o.ats.length : Int) > 0) := by omega
  have ec : (o.chs.length = 0) ↔ ((o.chs.length : Int) = 0) := by omega
  by_cases hr : (o.rs.length : Int) > 0 <;> by_cases ha : (o.ats.length : Int) > 0 <;> by_cases k1 : o.kind = 1 <;> by_cases k3 : o.kind = 3 <;> by_cases k2 : o.kind = 2 <;> (first | omega | skip)
  all_goals by_cases n0 : o.n = 0
  all_goals by_cases c0 : (o.chs.length : Int) = 0
  all_goals
    simp only [fn127, enterFr, List.length, List.range, List.range.loop, List.zip, List.zipWith, stp, if_true, if_false, Int.reduceEq, Int.reduceLT, Int.reduceLE, Int.reduceGT, Int.reduceGE, reduceCtorEq, Nat.reduceEqDiff, List.getElem?_cons_zero, List.getElem?_cons_succ, Option.map_some, hbx, l0, l1, l2, l3, l4, n2, n3, n4, hr, ha, k1, k2, k3, n0, c0, Bool.false_eq_true]
    rw [← er] at hr
    rw [← ea] at ha
    rw [← ec] at c0
    first
      | exact ⟨hx2, by simp [formO, hr, ha, k1, k2, k3, n0, c0], rfl⟩
      | (refine SCalls.mono (containsFunc_calls ho2.runes ho.rl) ?_
         rintro v H3 ⟨rfl, rfl⟩
         simp only [stp, if_true, if_false, Int.reduceEq, Int.reduceLT, Int.reduceLE, Int.reduceGT, Int.reduceGE, reduceCtorEq, Nat.reduceEqDiff, List.getElem?_cons_zero, List.getElem?_cons_succ, Option.map_some]
         exact ⟨hx2, by simp [formO, hr, ha, k1, k2, k3, n0, c0], rfl⟩)
end Go.Proofs.YtkmaikggdbielaaGreatDoor.Fw

/- What functions of the program answer: values. No condition but what utf8.Valid answers, which is a hypothesis here. -/
namespace Go.Proofs.YtkmaikggdbielaaGreatDoor.Fw
open Go
set_option linter.unusedSimpArgs false
set_option linter.unusedVariables false

theorem decode_pos (s : ByteArray) (i : Nat) : 1 ≤ (Utf8.decode s i).2 := by
  unfold Utf8.decode
  simp only
  repeat' split
  all_goals simp

/-- The tables of unicode/utf8. -/
def firstT : List Int := List.replicate 128 240 ++ (List.replicate 66 241 ++ (List.replicate 30 2 ++ (19 :: (List.replicate 12 3 ++ (35 :: 3 :: 3 :: 52 :: 4 :: 4 :: 4 :: 68 :: List.replicate 11 241)))))
def accT : List Int := [128, 191, 160, 191, 128, 159, 144, 191, 128, 143, 0, 0, 0, 0, 0, 0, 0, 0, 0, 0, 0, 0, 0, 0, 0, 0, 0, 0, 0, 0, 0, 0]
/-- .. lie where they lie. -/
structure Tabs (H : Heap) : Prop where
  gn : 2 < H.gn
  first : At H 1 0 (firstT.map (V.int .u8))
  acc : At H 2 0 (accT.map (V.int .u8))
theorem Tabs.ext {H H' : Heap} (h : Tabs H) (k : Ext H H') : Tabs H' := ⟨by rw [k.gn]; exact h.gn, h.first.ext k, h.acc.ext k⟩
/-- What utf8.Valid answers at short texts. -/
def ValidIs (vU : ByteArray → Bool) : Prop := ∀ (s : ByteArray) (H : Heap) (id : Nat), Tabs H → s.size ≤ 64 → id < H.next → H.get id = some (.row false 1 (bytesV s)) → SCalls PP 154 [.slice id 0 s.size none] H fun r H' => H' = H ∧ r = .bool (vU s)

abbrev zv : List V := [.int .u8 0, .int .i64 0, .int .u64 0, .str ⟨#[]⟩]
theorem at_set {H : Heap} {i : Nat} {e : List V} (hi : i < H.next) (esz : Nat) : At (H.set i (.row false esz e)) i 0 e :=
  ⟨hi, false, esz, e, set_get' _ _ _, by omega, fun j v hj => by rw [Nat.zero_add]; exact hj⟩

def floatV (b : Nat) : List V := if nanB b then [.int .u8 3, .int .i64 0, .int .u64 9221120237041090560, .str ⟨#[]⟩] else [.int .u8 3, .int .i64 0, .int .u64 b, .str ⟨#[]⟩]
theorem float_calls (b : Nat) (H : Heap) : SCalls PP 147 [.float .f64 b] H fun r H' => H' = H ∧ r = .agg (floatV b) := by
  refine SCalls.keep (R := fun v => v = .agg (floatV b)) (SCalls.go c147 (by simp [fn147]) fun hw => ?_)
  have hal : exec (.alloc zv) [] H = some (.ptr H.next 0, H.new (.row false 4 zv)) := x_alloc H zv rfl
  simp only [fn147, enterFr, List.length, List.range, List.range.loop, List.zip, List.zipWith, stp, if_true, if_false, Int.reduceEq, Int.reduceLT, Int.reduceLE, Int.reduceGT, Int.reduceGE, reduceCtorEq, Nat.reduceEqDiff, List.getElem?_cons_zero, List.getElem?_cons_succ, Option.map_some, hal]
  refine SCalls.mono (isNaN_calls b _) ?_
  rintro v H' ⟨rfl, rfl⟩
  have hx : Ext H (H.new (.row false 4 zv)) := (Ext.refl H).new _
  have hg := new_get H (.row false 4 zv)
  cases hn : nanB b with
  | true =>
    have hb : exec (.build zv [(0, 1), (2, 1)]) [.int .u8 3, .int .u64 9221120237041090560] (H.new (.row false 4 zv)) = some (.agg (floatV b), H.new (.row false 4 zv)) := by rw [floatV, hn]; rfl
    have hst := x_st (v := .agg (floatV b)) hg (n := 4) (by rw [floatV, hn]; rfl) rfl (by rw [floatV, hn]; rfl)
    have hat := at_set (H := H.new (.row false 4 zv)) (i := H.next) (e := floatV b) (Nat.lt_succ_self _) 4
    simp only [stp, if_true, if_false, Int.reduceEq, Int.reduceLT, Int.reduceLE, Int.reduceGT, Int.reduceGE, reduceCtorEq, Nat.reduceEqDiff, List.getElem?_cons_zero, List.getElem?_cons_succ, Option.map_some, hn, hb, hst]
    show kfin _ _ (evCons (cellsAt _ 4 (some (.ptr H.next 0))) (some [])) 
    rw [show (V.agg (floatV b)).cells = floatV b from rfl, hat.cells (by rw [floatV, hn]; rfl)]
    simp only [stp, if_true, if_false, Int.reduceEq, Int.reduceLT, Int.reduceLE, Int.reduceGT, Int.reduceGE, reduceCtorEq, Nat.reduceEqDiff, List.getElem?_cons_zero, List.getElem?_cons_succ, Option.map_some]
    exact ⟨hx.set (Nat.le_refl _) _, by trivial, by rw [floatV, hn]; rfl⟩
  | false =>
    have hb : exec (.build zv [(0, 1), (2, 1)]) [.int .u8 3, .int .u64 b] (H.new (.row false 4 zv)) = some (.agg (floatV b), H.new (.row false 4 zv)) := by rw [floatV, hn]; rfl
    have hst := x_st (v := .agg (floatV b)) hg (n := 4) (by rw [floatV, hn]; rfl) rfl (by rw [floatV, hn]; rfl)
    have hat := at_set (H := H.new (.row false 4 zv)) (i := H.next) (e := floatV b) (Nat.lt_succ_self _) 4
    simp only [stp, if_true, if_false, Int.reduceEq, Int.reduceLT, Int.reduceLE, Int.reduceGT, Int.reduceGE, reduceCtorEq, Nat.reduceEqDiff, List.getElem?_cons_zero, List.getElem?_cons_succ, Option.map_some, hn, hb, hst]
    show kfin _ _ (evCons (cellsAt _ 4 (some (.ptr H.next 0))) (some []))
    rw [show (V.agg (floatV b)).cells = floatV b from rfl, hat.cells (by rw [floatV, hn]; rfl)]
    simp only [stp, if_true, if_false, Int.reduceEq, Int.reduceLT, Int.reduceLE, Int.reduceGT, Int.reduceGE, reduceCtorEq, Nat.reduceEqDiff, List.getElem?_cons_zero, List.getElem?_cons_succ, Option.map_some]
    exact ⟨hx.set (Nat.le_refl _) _, by trivial, by rw [floatV, hn]; rfl⟩
end Go.Proofs.YtkmaikggdbielaaGreatDoor.Fw

/- What functions of the program answer: texts, and which values may be. No condition but what utf8.Valid answers, which is a hypothesis here. -/
namespace Go.Proofs.YtkmaikggdbielaaGreatDoor.Fw
open Go
set_option linter.unusedSimpArgs false
set_option linter.unusedVariables false

theorem bytesV_length (s : ByteArray) : (bytesV s).length = s.size := by simp [bytesV]
theorem bytesV_all (s : ByteArray) : (bytesV s).all V.one = true := by
  rw [List.all_eq_true]
  intro v hv
  obtain ⟨b, _, rfl⟩ := List.mem_map.1 hv
  rfl
theorem bytesL_bytesV : ∀ (l : List UInt8), bytesL (l.map fun b => V.int .u8 b.toNat) = some l := by
  intro l
  induction l with
  | nil => rfl
  | cons b l ih =>
    have hb : byteOf (V.int .u8 b.toNat) = some b := by
      have := b.toNat_lt
      simp only [byteOf]
      simp
      try omega
    simp only [List.map_cons, bytesL, hb, ih]

theorem decode_le (s : ByteArray) (i : Nat) : (Utf8.decode s i).2 ≤ 4 := by
  unfold Utf8.decode
  simp only
  repeat' split
  all_goals simp

variable {vU : ByteArray → Bool}

theorem read_calls (hU : ValidIs vU) (s : ByteArray) (H : Heap) (id : Nat) (hT : Tabs H) (hs : s.size ≤ 64) (hid : id < H.next) (hg : H.get id = some (.row false 1 (bytesV s))) :
    SCalls PP 153 [.slice id 0 s.size none] H fun r H' => (∃ x, r = .tup [x, .int .i64 (if vU s then 0 else 3)]) ∧ Ext H H' ∧ WF H' := by
  refine SCalls.go c153 (by simp [fn153]) fun hw => ?_
  simp only [fn153, enterFr, List.length, List.range, List.range.loop, List.zip, List.zipWith, stp, if_true, if_false, Int.reduceEq, Int.reduceLT, Int.reduceLE, Int.reduceGT, Int.reduceGE, reduceCtorEq, Nat.reduceEqDiff, List.getElem?_cons_zero, List.getElem?_cons_succ, Option.map_some]
  refine SCalls.mono (hU s H id hT hs hid hg) ?_
  rintro v H' ⟨rfl, rfl⟩
  cases hv : vU s with
  | false =>
    simp only [stp, if_true, if_false, Int.reduceEq, Int.reduceLT, Int.reduceLE, Int.reduceGT, Int.reduceGE, reduceCtorEq, Nat.reduceEqDiff, List.getElem?_cons_zero, List.getElem?_cons_succ, Option.map_some, hv]
    exact ⟨⟨_, rfl⟩, Ext.refl _, hw⟩
  | true =>
    have hbs : exec .b2s [.slice id 0 s.size none] H' = some (.str s, H') := by
      by_cases hs0 : s.size = 0
      · have : s = ⟨#[]⟩ := by
          obtain ⟨d⟩ := s
          have : d.size = 0 := hs0
          rw [Array.eq_empty_of_size_eq_zero this]
        subst this
        rfl
      simp only [exec, lenV, readN, hg]
      rw [if_neg hs0, if_pos (by rw [bytesV_length]; omega)]
      have e : ((bytesV s).drop 0).take s.size = bytesV s := by rw [List.drop_zero, ← bytesV_length s, List.take_length]
      simp only [e]
      rw [bytesV, bytesL_bytesV]
      simp
    have hri : exec .rits [.str s] H' = some (.ptr H'.next 0, H'.new (.iter s 0)) := rfl
    simp only [stp, if_true, if_false, Int.reduceEq, Int.reduceLT, Int.reduceLE, Int.reduceGT, Int.reduceGE, reduceCtorEq, Nat.reduceEqDiff, List.getElem?_cons_zero, List.getElem?_cons_succ, Option.map_some, hv, hbs, hri]
    refine wp_loopI (fun k fr G => ∃ pos l, k = s.size - pos ∧ Ext H' G ∧ WF G ∧ H'.next < G.next ∧ G.get H'.next = some (.iter s pos) ∧ pos ≤ s.size + 4 ∧
      (l = .nils ∨ ∃ i cells, l = .slice i 0 cells.length none ∧ H'.next < i ∧ i < G.next ∧ G.get i = some (.row false 1 cells) ∧ cells.all V.one = true ∧ cells.length ≤ pos) ∧
      FrSub [(4, l), (12, .ptr H'.next 0)] fr) s.size ⟨0, .nils, rfl, (Ext.refl H').new _, hw.new _, Nat.lt_succ_self _, new_get _ _, by omega, .inl rfl, .cons rfl (.cons rfl .nil)⟩ ?_
    rintro k fr G ⟨pos, l, rfl, hext, hwf, hlt, hit, hpos, hl, hsub⟩
    refine ⟨_, hsub, ?_⟩
    by_cases hp : pos < s.size
    · have hrn : exec .rnext [.ptr H'.next 0] G = some (.tup [.bool true, .int .i64 pos, .int .i32 (Utf8.decode s pos).1], G.set H'.next (.iter s (pos + (Utf8.decode s pos).2))) := by
        simp only [exec, hit]
        rw [if_pos hp]
      have hdp := decode_pos s pos
      have hd4 : (Utf8.decode s pos).2 ≤ 4 := decode_le s pos
      generalize hdd : (Utf8.decode s pos).2 = dw at hrn hdp hd4
      generalize hcc : ((Utf8.decode s pos).1 : Int) = cc at hrn
      generalize hG2 : G.set H'.next (.iter s (pos + dw)) = G2 at hrn
      have hx2 : Ext H' G2 := by rw [← hG2]; exact hext.set (Nat.le_refl _) _
      have hw2 : WF G2 := by rw [← hG2]; exact hwf.set hit _
      have hn2 : G2.next = G.next := by rw [← hG2]; rfl
      have hit2 : G2.get H'.next = some (.iter s (pos + dw)) := by rw [← hG2]; exact set_get' _ _ _
      have hbsl : exec (.bsl 1 1 [.int .i32 0] [(0, 1)]) [.int .i32 cc] G2 = some (.slice G2.next 0 1 (some 1), G2.new (.row false 1 [.int .i32 cc])) := rfl
      have hgn : (G2.new (.row false 1 [.int .i32 cc])).get G2.next = some (.row false 1 [.int .i32 cc]) := new_get _ _
      have hsrc : srcCells (G2.new (.row false 1 [.int .i32 cc])) 1 1 (.slice G2.next 0 1 (some 1)) = some [.int .i32 cc] := by
        simp only [srcCells, readN, hgn]
        rfl
      have hit3 : (G2.new (.row false 1 [.int .i32 cc])).get H'.next = some (.iter s (pos + dw)) := hw2.get_new hit2 _
      rcases hl with rfl | ⟨i, cells, rfl, hi1, hi2, hi3, hi4, hi5⟩
      · have happ := x_app_nil (H := G2.new (.row false 1 [.int .i32 cc])) (x := .slice G2.next 0 1 (some 1)) (bytes := 4) rfl hsrc rfl rfl (by omega) (by omega) (by omega) (by omega)
        simp only [stp, if_true, if_false, Int.reduceEq, Int.reduceLT, Int.reduceLE, Int.reduceGT, Int.reduceGE, reduceCtorEq, Nat.reduceEqDiff, List.getElem?_cons_zero, List.getElem?_cons_succ, Option.map_some, hrn, List.getElem?_cons_zero, List.getElem?_cons_succ, Option.map_some, hbsl, happ]
        refine ⟨s.size - (pos + dw), by omega, pos + dw, _, rfl, (hx2.new _).new _, (hw2.new _).new _, ?_, (hw2.new _).get_new hit3 _, by omega, .inr ⟨_, [.int .i32 cc], rfl, ?_, Nat.lt_succ_self _, new_get _ _, rfl, by simp only [List.length_cons, List.length_nil]; omega⟩, .cons rfl (.cons rfl .nil)⟩
        · simp only [Heap.new_next]; omega
        · simp only [Heap.new_next]; omega
      · have hi3' : (G2.new (.row false 1 [.int .i32 cc])).get i = some (.row false 1 cells) := by
          refine hw2.get_new ?_ _
          rw [← hG2, Heap.set_get, if_neg (by omega)]; exact hi3
        have happ := x_app_own (H := G2.new (.row false 1 [.int .i32 cc])) (x := .slice G2.next 0 1 (some 1)) (bytes := 4) hi3' (by rw [Nat.mul_one]) hi4 rfl hsrc rfl rfl (by omega) (by omega) (by omega) (by omega)
        simp only [stp, if_true, if_false, Int.reduceEq, Int.reduceLT, Int.reduceLE, Int.reduceGT, Int.reduceGE, reduceCtorEq, Nat.reduceEqDiff, List.getElem?_cons_zero, List.getElem?_cons_succ, Option.map_some, hrn, List.getElem?_cons_zero, List.getElem?_cons_succ, Option.map_some, hbsl, happ]
        refine ⟨s.size - (pos + dw), by omega, pos + dw, _, rfl, ((hx2.new _).kill (by omega)).new _, ((hw2.new _).kill _).new _, ?_, ?_, by omega, .inr ⟨_, cells ++ [.int .i32 cc], by simp, ?_, Nat.lt_succ_self _, new_get _ _, by simp [hi4, V.one], by simp only [List.length_append, List.length_cons, List.length_nil]; omega⟩, .cons rfl (.cons rfl .nil)⟩
        · simp only [Heap.new_next, Heap.kill_next]; omega
        · refine ((hw2.new _).kill _).get_new ?_ _
          rw [Heap.kill_get, if_neg (by omega)]; exact hit3
        · simp only [Heap.new_next, Heap.kill_next]; omega
    · have hrn : exec .rnext [.ptr H'.next 0] G = some (.tup [.bool false], G) := by
        simp only [exec, hit]
        rw [if_neg hp]
      simp only [stp, if_true, if_false, Int.reduceEq, Int.reduceLT, Int.reduceLE, Int.reduceGT, Int.reduceGE, reduceCtorEq, Nat.reduceEqDiff, List.getElem?_cons_zero, List.getElem?_cons_succ, Option.map_some, hrn, List.getElem?_cons_zero, Option.map_some]
      exact ⟨⟨_, rfl⟩, hext, hwf⟩
end Go.Proofs.YtkmaikggdbielaaGreatDoor.Fw

/- What functions of the program answer: which values may be. No condition but what utf8.Valid answers, which is a hypothesis here. -/
namespace Go.Proofs.YtkmaikggdbielaaGreatDoor.Fw
open Go
set_option linter.unusedSimpArgs false
set_option linter.unusedVariables false
variable {vU : ByteArray → Bool}

def textE (vU : ByteArray → Bool) (s : ByteArray) : Int := if s.size > 64 then 3 else if vU s then 0 else 3
def textV (vU : ByteArray → Bool) (s : ByteArray) : List V := if s.size > 64 then zv else if vU s then [.int .u8 4, .int .i64 0, .int .u64 0, .str s] else zv
theorem text_calls (hU : ValidIs vU) (s : ByteArray) (H : Heap) (hT : Tabs H) : SCalls PP 149 [.str s] H fun r H' => H' = H ∧ r = .tup [.agg (textV vU s), .int .i64 (textE vU s)] := by
  refine SCalls.keep (R := fun v => v = .tup [.agg (textV vU s), .int .i64 (textE vU s)]) (SCalls.go c149 (by simp [fn149]) fun hw => ?_)
  have hal : exec (.alloc zv) [] H = some (.ptr H.next 0, H.new (.row false 4 zv)) := x_alloc H zv rfl
  have hx1 : Ext H (H.new (.row false 4 zv)) := (Ext.refl H).new _
  have hw1 : WF (H.new (.row false 4 zv)) := hw.new _
  have hg1 := new_get H (.row false 4 zv)
  have hn1 : (H.new (.row false 4 zv)).next = H.next + 1 := rfl
  have hz : ∀ G, exec (.build zv []) [] G = some (.agg zv, G) := fun G => rfl
  have hv : ∀ G, exec (.build zv [(0, 1), (3, 1)]) [.int .u8 4, .str s] G = some (.agg [.int .u8 4, .int .i64 0, .int .u64 0, .str s], G) := fun G => rfl
  have fin : ∀ (G : Heap) (e : List V), Ext H G → H.next < G.next → e.length = 4 → e.all V.one = true → flatL e = true → G.get H.next = some (.row false 4 zv) → exec (.st 4) [.ptr H.next 0, .agg e] G = some (.undef, G.set H.next (.row false 4 e)) ∧ Ext H (G.set H.next (.row false 4 e)) ∧
      cellsAt (G.set H.next (.row false 4 e)) 4 (some (.ptr H.next 0)) = some (.agg e) := fun G e hx hlt hl ho hf hg =>
    ⟨x_st (v := .agg e) hg hl rfl ho, hx.set (Nat.le_refl _) _, (at_set (H := G) hlt 4).cells hl.symm⟩
  generalize hG : H.new (.row false 4 zv) = G1 at *
  by_cases h1 : (s.size : Int) > 64
  · have h1' : s.size > 64 := by omega
    obtain ⟨f1, f2, f3⟩ := fin G1 zv hx1 (by omega) rfl rfl rfl hg1
    simp only [fn149, enterFr, List.length, List.range, List.range.loop, List.zip, List.zipWith, stp, if_true, if_false, Int.reduceEq, Int.reduceLT, Int.reduceLE, Int.reduceGT, Int.reduceGE, reduceCtorEq, Nat.reduceEqDiff, List.getElem?_cons_zero, List.getElem?_cons_succ, Option.map_some, hal, hz, h1, f1, f3]
    exact ⟨f2, by simp [textV, textE, h1'], rfl⟩
  · have h1' : ¬ s.size > 64 := by omega
    have hsb : exec .s2b [.str s] G1 = some (.slice G1.next 0 s.size none, G1.new (.row false 1 (bytesV s))) := rfl
    simp only [fn149, enterFr, List.length, List.range, List.range.loop, List.zip, List.zipWith, stp, if_true, if_false, Int.reduceEq, Int.reduceLT, Int.reduceLE, Int.reduceGT, Int.reduceGE, reduceCtorEq, Nat.reduceEqDiff, List.getElem?_cons_zero, List.getElem?_cons_succ, Option.map_some, hal, hz, h1, hsb]
    refine SCalls.mono (read_calls hU s (G1.new (.row false 1 (bytesV s))) G1.next (hT.ext (hx1.new _)) (by omega) (Nat.lt_succ_self _) (new_get _ _)) ?_
    rintro r H3 ⟨⟨x, rfl⟩, hx3, hw3⟩
    have hg3 : H3.get H.next = some (.row false 4 zv) := by
      rw [hx3.get _ (by simp only [Heap.new_next]; omega)]
      exact hw1.get_new hg1 _
    have hxx : Ext H H3 := (hx1.new _).trans hx3
    have hlt3 : H.next < H3.next := by have := hx3.next; simp only [Heap.new_next] at this; omega
    cases hu : vU s with
    | true =>
      obtain ⟨f1, f2, f3⟩ := fin H3 [.int .u8 4, .int .i64 0, .int .u64 0, .str s] hxx hlt3 rfl rfl rfl hg3
      simp only [stp, if_true, if_false, Int.reduceEq, Int.reduceLT, Int.reduceLE, Int.reduceGT, Int.reduceGE, reduceCtorEq, Nat.reduceEqDiff, List.getElem?_cons_zero, List.getElem?_cons_succ, Option.map_some, hu, hz, hv, f1, f3]
      exact ⟨f2, by simp [textV, textE, h1', hu], rfl⟩
    | false =>
      obtain ⟨f1, f2, f3⟩ := fin H3 zv hxx hlt3 rfl rfl rfl hg3
      simp only [stp, if_true, if_false, Int.reduceEq, Int.reduceLT, Int.reduceLE, Int.reduceGT, Int.reduceGE, reduceCtorEq, Nat.reduceEqDiff, List.getElem?_cons_zero, List.getElem?_cons_succ, Option.map_some, hu, hz, hv, f1, f3, Bool.false_eq_true]
      exact ⟨f2, by simp [textV, textE, h1', hu], rfl⟩

def same4 (a b : List V) : Bool := (sameL [0, 0, 0, 2] a b).getD false
def vMay (vU : ByteArray → Bool) (v : ValA) : Bool :=
  if v.kind = 1 then same4 v.cells (flagV (decide (v.n = 1)))
  else if v.kind = 2 then same4 v.cells (intV v.n)
  else if v.kind = 3 then same4 v.cells (floatV v.f.toNat)
  else if v.kind = 4 then decide (textE vU v.s = 0) && same4 v.cells (textV vU v.s)
  else false
theorem same4_some (v : ValA) {k : Int} {n f : Int} {s : ByteArray} (H : Heap) : exec (.eqagg false [0, 0, 0, 2]) [.agg v.cells, .agg [.int .u8 k, .int .i64 n, .int .u64 f, .str s]] H = some (.bool (same4 v.cells [.int .u8 k, .int .i64 n, .int .u64 f, .str s]), H) := by
  simp only [exec, same4, ValA.cells, sameL, V.sameK, if_true, Option.map_some, Option.getD_some, Bool.bne_false]
theorem valueMay_calls (hU : ValidIs vU) (v : ValA) (H : Heap) (hT : Tabs H) : SCalls PP 139 [.agg v.cells] H fun r H' => H' = H ∧ r = .bool (vMay vU v) := by
  refine SCalls.keep (R := fun r => r = .bool (vMay vU v)) (SCalls.go c139 (by simp [fn139]) fun hw => ?_)
  obtain ⟨H2, hx2, hw2, ha2, hbx⟩ := x_boxed (Ext.refl H) hw (e := v.cells) rfl
  have l0 := ha2.ld (j := 0) (v := .int .u8 v.kind) rfl 1
  have l1 := ha2.ld (j := 1) (v := .int .i64 v.n) rfl 1
  have l2 := ha2.ld (j := 2) (v := .int .u64 v.f) rfl 1
  have l3 := ha2.ld (j := 3) (v := .str v.s) rfl 1
  have la := ha2.lda (n := 4) rfl
  have q1 : ∀ b, exec (.eqagg false [0, 0, 0, 2]) [.agg v.cells, .agg (flagV b)] H2 = some (.bool (same4 v.cells (flagV b)), H2) := fun b => same4_some v H2
  have q2 : ∀ n, exec (.eqagg false [0, 0, 0, 2]) [.agg v.cells, .agg (intV n)] H2 = some (.bool (same4 v.cells (intV n)), H2) := fun b => same4_some v H2
  have q3 : ∀ b, exec (.eqagg false [0, 0, 0, 2]) [.agg v.cells, .agg (floatV b)] H2 = some (.bool (same4 v.cells (floatV b)), H2) := fun b => by unfold floatV; split <;> exact same4_some v H2
  by_cases k1 : v.kind = 1
  · simp only [fn139, enterFr, List.length, List.range, List.range.loop, List.zip, List.zipWith, stp, if_true, if_false, Int.reduceEq, Int.reduceLT, Int.reduceLE, Int.reduceGT, Int.reduceGE, reduceCtorEq, Nat.reduceEqDiff, List.getElem?_cons_zero, List.getElem?_cons_succ, Option.map_some, hbx, l0, l1, la, k1]
    constructor
    · refine SCalls.mono (flag_calls _ H2) ?_
      rintro r H3 ⟨rfl, rfl⟩
      simp only [stp, if_true, if_false, Int.reduceEq, Int.reduceLT, Int.reduceLE, Int.reduceGT, Int.reduceGE, reduceCtorEq, Nat.reduceEqDiff, List.getElem?_cons_zero, List.getElem?_cons_succ, Option.map_some, q1]
      exact ⟨hx2, by simp [vMay, k1], rfl⟩
    · refine SCalls.mono (flag_calls _ H2) ?_
      rintro r H3 ⟨rfl, rfl⟩
      simp only [stp, if_true, if_false, Int.reduceEq, Int.reduceLT, Int.reduceLE, Int.reduceGT, Int.reduceGE, reduceCtorEq, Nat.reduceEqDiff, List.getElem?_cons_zero, List.getElem?_cons_succ, Option.map_some, la, q1]
      exact ⟨hx2, by simp [vMay, k1], rfl⟩
  by_cases k2 : v.kind = 2
  · simp only [fn139, enterFr, List.length, List.range, List.range.loop, List.zip, List.zipWith, stp, if_true, if_false, Int.reduceEq, Int.reduceLT, Int.reduceLE, Int.reduceGT, Int.reduceGE, reduceCtorEq, Nat.reduceEqDiff, List.getElem?_cons_zero, List.getElem?_cons_succ, Option.map_some, hbx, l0, l1, la, k2]
    constructor
    · refine SCalls.mono (int_calls _ H2) ?_
      rintro r H3 ⟨rfl, rfl⟩
      simp only [stp, if_true, if_false, Int.reduceEq, Int.reduceLT, Int.reduceLE, Int.reduceGT, Int.reduceGE, reduceCtorEq, Nat.reduceEqDiff, List.getElem?_cons_zero, List.getElem?_cons_succ, Option.map_some, q2]
      exact ⟨hx2, by simp [vMay, k2], rfl⟩
    · refine SCalls.mono (int_calls _ H2) ?_
      rintro r H3 ⟨rfl, rfl⟩
      simp only [stp, if_true, if_false, Int.reduceEq, Int.reduceLT, Int.reduceLE, Int.reduceGT, Int.reduceGE, reduceCtorEq, Nat.reduceEqDiff, List.getElem?_cons_zero, List.getElem?_cons_succ, Option.map_some, la, q2]
      exact ⟨hx2, by simp [vMay, k2], rfl⟩
  by_cases k3 : v.kind = 3
  · simp only [fn139, enterFr, List.length, List.range, List.range.loop, List.zip, List.zipWith, stp, if_true, if_false, Int.reduceEq, Int.reduceLT, Int.reduceLE, Int.reduceGT, Int.reduceGE, reduceCtorEq, Nat.reduceEqDiff, List.getElem?_cons_zero, List.getElem?_cons_succ, Option.map_some, hbx, l0, l2, la, k3]
    constructor
    · refine SCalls.mono (float_calls _ H2) ?_
      rintro r H3 ⟨rfl, rfl⟩
      simp only [stp, if_true, if_false, Int.reduceEq, Int.reduceLT, Int.reduceLE, Int.reduceGT, Int.reduceGE, reduceCtorEq, Nat.reduceEqDiff, List.getElem?_cons_zero, List.getElem?_cons_succ, Option.map_some, q3]
      exact ⟨hx2, by simp [vMay, k3], rfl⟩
    · refine SCalls.mono (float_calls _ H2) ?_
      rintro r H3 ⟨rfl, rfl⟩
      simp only [stp, if_true, if_false, Int.reduceEq, Int.reduceLT, Int.reduceLE, Int.reduceGT, Int.reduceGE, reduceCtorEq, Nat.reduceEqDiff, List.getElem?_cons_zero, List.getElem?_cons_succ, Option.map_some, la, q3]
      exact ⟨hx2, by simp [vMay, k3], rfl⟩
  by_cases k4 : v.kind = 4
  · simp only [fn139, enterFr, List.length, List.range, List.range.loop, List.zip, List.zipWith, stp, if_true, if_false, Int.reduceEq, Int.reduceLT, Int.reduceLE, Int.reduceGT, Int.reduceGE, reduceCtorEq, Nat.reduceEqDiff, List.getElem?_cons_zero, List.getElem?_cons_succ, Option.map_some, hbx, l0, l3, la, k4]
    refine SCalls.mono (text_calls hU _ H2 (hT.ext hx2)) ?_
    rintro r H3 ⟨rfl, rfl⟩
    have htl : (textV vU v.s).length = 4 ∧ (textV vU v.s).all V.one = true := by
      unfold textV; split
      · exact ⟨rfl, rfl⟩
      · split <;> exact ⟨rfl, rfl⟩
    obtain ⟨H4, hx4, hw4, ha4, hal, hst⟩ := x_copy (Ext.refl H3) hw2 (z := zv) (e := textV vU v.s) (n := 4) rfl rfl htl.1 htl.2
    have la4 := (ha2.ext hx4).lda (n := 4) rfl
    have lb4 := ha4.lda (n := 4) htl.1.symm
    have q4 : exec (.eqagg false [0, 0, 0, 2]) [.agg v.cells, .agg (textV vU v.s)] H4 = some (.bool (same4 v.cells (textV vU v.s)), H4) := by
      unfold textV
      split
      · exact same4_some v H4
      · split <;> exact same4_some v H4
    by_cases he : textE vU v.s = 0
    · simp only [stp, if_true, if_false, Int.reduceEq, Int.reduceLT, Int.reduceLE, Int.reduceGT, Int.reduceGE, reduceCtorEq, Nat.reduceEqDiff, List.getElem?_cons_zero, List.getElem?_cons_succ, Option.map_some, hal, hst, he, la4, lb4, q4]
      exact ⟨hx2.trans hx4, by simp [vMay, k4, he], rfl⟩
    · simp only [stp, if_true, if_false, Int.reduceEq, Int.reduceLT, Int.reduceLE, Int.reduceGT, Int.reduceGE, reduceCtorEq, Nat.reduceEqDiff, List.getElem?_cons_zero, List.getElem?_cons_succ, Option.map_some, hal, hst, he]
      exact ⟨hx2.trans hx4, by simp [vMay, k4, he], rfl⟩
  · simp only [fn139, enterFr, List.length, List.range, List.range.loop, List.zip, List.zipWith, stp, if_true, if_false, Int.reduceEq, Int.reduceLT, Int.reduceLE, Int.reduceGT, Int.reduceGE, reduceCtorEq, Nat.reduceEqDiff, List.getElem?_cons_zero, List.getElem?_cons_succ, Option.map_some, hbx, l0, k1, k2, k3, k4]
    exact ⟨hx2, by simp [vMay, k1, k2, k3, k4], rfl⟩
end Go.Proofs.YtkmaikggdbielaaGreatDoor.Fw

/- What functions of the program answer: a schema's keys. No condition but what utf8.Valid answers, which is a hypothesis here. -/
namespace Go.Proofs.YtkmaikggdbielaaGreatDoor.Fw
open Go
set_option linter.unusedSimpArgs false
set_option linter.unusedVariables false
variable {vU : ByteArray → Bool}

def zeroK : KeyA := ⟨0, false, 0, false, false, 0⟩
abbrev zk : List V := [.int .i64 0, .bool false, .int .u8 0, .bool false, .bool false, .int .i64 0]
/-- A schema as it lies: a pair of a slice and a map of its keys. -/
structure Sch (H : Heap) (s : V) (ks : List KeyA) : Prop where
  is : ∃ p sl mid, s = .ptr p 0 ∧ At H p 0 [sl, .map mid] ∧ mid < H.next ∧ H.get mid = some (.mapo (ks.map fun k => (.int .i64 k.id, .agg k.cells)))
theorem Sch.ext {H H' : Heap} {s : V} {ks : List KeyA} (h : Sch H s ks) (k : Ext H H') : Sch H' s ks := by
  obtain ⟨p, sl, mid, h1, h2, h3, h4⟩ := h.is
  exact ⟨p, sl, mid, h1, h2.ext k, Nat.lt_of_lt_of_le h3 k.next, by rw [k.get mid h3]; exact h4⟩
def findK (ks : List KeyA) (id : Int) : Option KeyA := ks.find? fun k => id == k.id
def foundC (ks : List KeyA) (id : Int) : List V := ((findK ks id).getD zeroK).cells

theorem find_map (id : Int) : ∀ (ks : List KeyA), match findE 0 (.int .i64 id) (ks.map fun k => (V.int .i64 k.id, V.agg k.cells)) with
    | some none => findK ks id = none
    | some (some i) => ∃ k, findK ks id = some k ∧ (ks.map fun k => (V.int .i64 k.id, V.agg k.cells))[i]? = some (.int .i64 k.id, .agg k.cells)
    | none => False
  | [] => by simp [findE, findK]
  | k :: ks => by
    have ih := find_map id ks
    simp only [List.map_cons, findE, V.sameK, if_true]
    cases hb : id == k.id with
    | true =>
      simp only
      exact ⟨k, by simp [findK, hb], rfl⟩
    | false =>
      simp only
      cases hf : findE 0 (.int .i64 id) (ks.map fun k => (V.int .i64 k.id, V.agg k.cells)) with
      | none => rw [hf] at ih; exact ih.elim
      | some o =>
        rw [hf] at ih
        cases o with
        | none => simp only [Option.map_some, Option.map_none] at ih ⊢; simpa [findK, hb] using ih
        | some i =>
          simp only [Option.map_some] at ih ⊢
          obtain ⟨k', h1, h2⟩ := ih
          exact ⟨k', by simpa [findK, hb] using h1, by simpa using h2⟩

theorem look_eq {H : Heap} {mid : Nat} {ks : List KeyA} (h : H.get mid = some (.mapo (ks.map fun k => (.int .i64 k.id, .agg k.cells)))) (id : Int) :
    exec (.look 0 (.agg zk) true) [.map mid, .int .i64 id] H = some (.tup [.agg (foundC ks id), .bool (findK ks id).isSome], H) := by
  have := find_map id ks
  simp only [exec, h, keyOk, if_true]
  cases hf : findE 0 (.int .i64 id) (ks.map fun k => (V.int .i64 k.id, V.agg k.cells)) with
  | none => rw [hf] at this; exact this.elim
  | some o =>
    rw [hf] at this
    cases o with
    | none =>
      simp only at this ⊢
      simp only [foundC, this, Option.getD_none, Option.isSome_none]
      try rfl
    | some i =>
      simp only at this ⊢
      obtain ⟨k, h1, h2⟩ := this
      rw [h2]
      simp only [Option.map_some, foundC, h1, Option.getD_some, Option.isSome_some]
      try rfl

theorem foundC_ok (ks : List KeyA) (id : Int) : (foundC ks id).length = 6 ∧ (foundC ks id).all V.one = true ∧ flatL (foundC ks id) = true := ⟨rfl, rfl, rfl⟩

theorem find_calls {s : V} {H : Heap} {ks : List KeyA} (hs : Sch H s ks) (id : Int) : SCalls PP 134 [s, .int .i64 id] H fun r H' => H' = H ∧ r = .tup [.agg (foundC ks id), .bool (findK ks id).isSome] := by
  refine SCalls.keep (R := fun r => r = .tup [.agg (foundC ks id), .bool (findK ks id).isSome]) (SCalls.go c134 (by simp [fn134]) fun hw => ?_)
  obtain ⟨p, sl, mid, rfl, hat, hm, hg⟩ := hs.is
  have hal : exec (.alloc zk) [] H = some (.ptr H.next 0, H.new (.row false 6 zk)) := x_alloc H zk rfl
  have hx1 : Ext H (H.new (.row false 6 zk)) := (Ext.refl H).new _
  have hw1 : WF (H.new (.row false 6 zk)) := hw.new _
  have hg1 := new_get H (.row false 6 zk)
  have hn1 : (H.new (.row false 6 zk)).next = H.next + 1 := rfl
  generalize hG : H.new (.row false 6 zk) = G1 at *
  have hnil : exec (.eqnil 0 false) [.ptr p 0, .nilp] G1 = some (.bool false, G1) := rfl
  have ld1 := (hat.ext hx1).ld (j := 1) (v := .map mid) rfl 1
  have hlk := look_eq (H := G1) (by rw [hx1.get mid hm]; exact hg) id
  obtain ⟨H2, hx2, hw2, ha2, hal2, hst2⟩ := x_copy (Ext.refl G1) hw1 (z := zk) (e := foundC ks id) (n := 6) rfl rfl rfl rfl
  have la := ha2.lda (n := 6) rfl
  have hg2 : H2.get H.next = some (.row false 6 zk) := by rw [hx2.get _ (by omega)]; exact hg1
  have hst3 := x_st (v := .agg (foundC ks id)) hg2 (n := 6) rfl rfl rfl
  have hlt2 : H.next < H2.next := by have := hx2.next; omega
  have hat3 := at_set (H := H2) (i := H.next) (e := foundC ks id) hlt2 6
  have hce := hat3.cells (n := 6) rfl
  have hcl : (V.agg (foundC ks id)).cells = foundC ks id := rfl
  rw [hcl] at hst3
  simp only [fn134, enterFr, List.length, List.range, List.range.loop, List.zip, List.zipWith, stp, if_true, if_false, Int.reduceEq, Int.reduceLT, Int.reduceLE, Int.reduceGT, Int.reduceGE, reduceCtorEq, Nat.reduceEqDiff, List.getElem?_cons_zero, List.getElem?_cons_succ, Option.map_some, hal, hnil, ld1, hlk, hal2, hst2, la, hst3, hce]
  exact ⟨(hx1.trans hx2).set (Nat.le_refl _) _, by trivial, rfl⟩

def fitsK (vU : ByteArray → Bool) (ks : List KeyA) (id : Int) (v : ValA) : Bool := (findK ks id).isSome && decide (((findK ks id).getD zeroK).kind = v.kind) && vMay vU v
theorem sfits_calls (hU : ValidIs vU) {s : V} {H : Heap} {ks : List KeyA} (hT : Tabs H) (hs : Sch H s ks) (id : Int) (v : ValA) : SCalls PP 140 [s, .int .i64 id, .agg v.cells] H fun r H' => H' = H ∧ r = .bool (fitsK vU ks id v) := by
  refine SCalls.keep (R := fun r => r = .bool (fitsK vU ks id v)) (SCalls.go c140 (by simp [fn140]) fun hw => ?_)
  obtain ⟨H2, hx2, hw2, ha2, hbx⟩ := x_boxed (Ext.refl H) hw (e := v.cells) rfl
  simp only [fn140, enterFr, List.length, List.range, List.range.loop, List.zip, List.zipWith, stp, if_true, if_false, Int.reduceEq, Int.reduceLT, Int.reduceLE, Int.reduceGT, Int.reduceGE, reduceCtorEq, Nat.reduceEqDiff, List.getElem?_cons_zero, List.getElem?_cons_succ, Option.map_some, hbx]
  refine SCalls.mono (find_calls (hs.ext hx2) id) ?_
  rintro r H3 ⟨rfl, rfl⟩
  obtain ⟨H4, hx4, hw4, ha4, hal, hst⟩ := x_copy (Ext.refl H3) hw2 (z := zk) (e := foundC ks id) (n := 6) rfl rfl rfl rfl
  have l2 := ha4.ld (j := 2) (v := .int .u8 ((findK ks id).getD zeroK).kind) rfl 1
  have v0 := (ha2.ext hx4).ld (j := 0) (v := .int .u8 v.kind) rfl 1
  have va := (ha2.ext hx4).lda (n := 4) rfl
  cases hf : (findK ks id).isSome with
  | false =>
    simp only [stp, if_true, if_false, Int.reduceEq, Int.reduceLT, Int.reduceLE, Int.reduceGT, Int.reduceGE, reduceCtorEq, Nat.reduceEqDiff, List.getElem?_cons_zero, List.getElem?_cons_succ, Option.map_some, hal, hst, hf, Bool.false_eq_true]
    exact ⟨hx2.trans hx4, by simp [fitsK, hf], rfl⟩
  | true =>
    by_cases hk : ((findK ks id).getD zeroK).kind = v.kind
    · simp only [stp, if_true, if_false, Int.reduceEq, Int.reduceLT, Int.reduceLE, Int.reduceGT, Int.reduceGE, reduceCtorEq, Nat.reduceEqDiff, List.getElem?_cons_zero, List.getElem?_cons_succ, Option.map_some, hal, hst, hf, l2, v0, hk, va]
      refine SCalls.mono (valueMay_calls hU v _ (hT.ext (hx2.trans hx4))) ?_
      rintro r H5 ⟨rfl, rfl⟩
      simp only [stp, if_true, if_false, Int.reduceEq, Int.reduceLT, Int.reduceLE, Int.reduceGT, Int.reduceGE, reduceCtorEq, Nat.reduceEqDiff, List.getElem?_cons_zero, List.getElem?_cons_succ, Option.map_some]
      exact ⟨hx2.trans hx4, by simp [fitsK, hf, hk], rfl⟩
    · simp only [stp, if_true, if_false, Int.reduceEq, Int.reduceLT, Int.reduceLE, Int.reduceGT, Int.reduceGE, reduceCtorEq, Nat.reduceEqDiff, List.getElem?_cons_zero, List.getElem?_cons_succ, Option.map_some, hal, hst, hf, l2, v0, hk, Bool.false_eq_true]
      exact ⟨hx2.trans hx4, by simp [fitsK, hf, hk], rfl⟩
end Go.Proofs.YtkmaikggdbielaaGreatDoor.Fw

/- What functions of the program answer: whether attributes may be. No condition but what utf8.Valid answers, which is a hypothesis here. -/
namespace Go.Proofs.YtkmaikggdbielaaGreatDoor.Fw
open Go
set_option linter.unusedSimpArgs false
set_option linter.unusedVariables false
variable {vU : ByteArray → Bool}

def prevBad (p : Option Int) (k : Int) : Bool := match p with
  | some q => decide (q ≥ k)
  | none => false
def attrsF (vU : ByteArray → Bool) (ks : List KeyA) : Option Int → Int → List AttrA → Int
  | _, e, [] => e
  | p, e, a :: ats => if prevBad p a.key || !vMay vU a.val then 3 else attrsF vU ks (some a.key) (if fitsK vU ks a.key a.val then e else 4) ats
def attrsMayF (vU : ByteArray → Bool) (ks : List KeyA) (ats : List AttrA) : Int := if ats.length > 64 then 3 else attrsF vU ks none 0 ats
def prevOf (ats : List AttrA) (k : Nat) : Option Int := if k = 0 then none else (ats[k - 1]?).map (·.key)

set_option maxHeartbeats 1000000 in
theorem attrsMay_calls (hU : ValidIs vU) {s x : V} {H : Heap} {ks : List KeyA} {ats : List AttrA} (hT : Tabs H) (hs : Sch H s ks) (hx : SL H x 5 (ats.map AttrA.cells)) :
    SCalls PP 128 [s, x] H fun r H' => H' = H ∧ r = .int .i64 (attrsMayF vU ks ats) := by
  refine SCalls.keep (R := fun r => r = .int .i64 (attrsMayF vU ks ats)) (SCalls.go c128 (by simp [fn128]) fun hw => ?_)
  by_cases h64 : (ats.length : Int) > 64
  · have h64' : ats.length > 64 := by omega
    simp only [fn128, enterFr, List.length, List.range, List.range.loop, List.zip, List.zipWith, stp, if_true, if_false, Int.reduceEq, Int.reduceLT, Int.reduceLE, Int.reduceGT, Int.reduceGE, reduceCtorEq, Nat.reduceEqDiff, List.getElem?_cons_zero, List.getElem?_cons_succ, Option.map_some, hx.len, List.length_map, h64]
    exact ⟨Ext.refl H, by simp [attrsMayF, h64'], rfl⟩
  have h64' : ¬ ats.length > 64 := by omega
  have hF : attrsMayF vU ks ats = attrsF vU ks none 0 ats := by simp [attrsMayF, h64']
  rw [hF]
  simp only [fn128, enterFr, List.length, List.range, List.range.loop, List.zip, List.zipWith, stp, if_true, if_false, Int.reduceEq, Int.reduceLT, Int.reduceLE, Int.reduceGT, Int.reduceGE, reduceCtorEq, Nat.reduceEqDiff, List.getElem?_cons_zero, List.getElem?_cons_succ, Option.map_some, hx.len, List.length_map, h64]
  refine wp_range SCalls.scMono (by omega) (fun e : Int => [(11, x), (5, .int .i64 e), (0, s), (1, x)]) (fun k e H' => attrsF vU ks (prevOf ats k) e (ats.drop k) = attrsF vU ks none 0 ats ∧ Ext H H' ∧ WF H') 0 ⟨rfl, Ext.refl H, hw⟩
    (.cons rfl (.cons rfl (.cons rfl (.cons rfl (.cons rfl (.cons rfl .nil)))))) (by decide) (fun s => ⟨rfl, rfl, rfl⟩) ?_ ?_
  · rintro k e H' hk ⟨hacc, hext, hwf⟩
    have hm := hx.1 ats[k].cells (List.mem_map_of_mem (List.getElem_mem hk))
    obtain ⟨id, o, hia, hat⟩ := (hx.ext hext).ia (H' := H') (i := k) (e := ats[k].cells) (by simp [hk]) .i64
    obtain ⟨H2, hx2, hw2, ha2, hal, hst⟩ := x_copy hext hwf (z := [V.int .i64 0, .int .u8 0, .int .i64 0, .int .u64 0, .str ⟨#[]⟩]) (e := ats[k].cells) (n := 5) rfl rfl hm.1 hm.2
    have hT2 := hT.ext hx2
    have hs2 := hs.ext hx2
    have l0 := ha2.ld (j := 0) (v := .int .i64 ats[k].key) rfl 1
    have ha2v : At H2 H'.next (0 + 1) ats[k].val.cells := At.tail (a := [.int .i64 ats[k].key]) ha2
    have lv := ha2v.lda (n := 4) rfl
    rw [List.drop_eq_getElem_cons hk] at hacc
    simp only [attrsF] at hacc
    have hnext : prevOf ats (k + 1) = some ats[k].key := by simp [prevOf, List.getElem?_eq_getElem hk]
    -- the end of a round, the value's answer known
    have fin : ∀ (fr : Fr), prevBad (prevOf ats k) ats[k].key = false → vMay vU ats[k].val = true → True := fun _ _ _ => trivial
    by_cases hk0 : k = 0
    · subst hk0
      have hpv : prevBad (prevOf ats 0) ats[0].key = false := rfl
      rw [hpv] at hacc
      have hgt : ¬ ((0 : Nat) : Int) > 0 := by omega
      simp only [stp, if_true, if_false, Int.reduceEq, Int.reduceLT, Int.reduceLE, Int.reduceGT, Int.reduceGE, reduceCtorEq, Nat.reduceEqDiff, List.getElem?_cons_zero, List.getElem?_cons_succ, Option.map_some, hia, hat.lda (n := 5) rfl, hal, hst, hgt, Bool.false_eq_true, lv]
      refine SCalls.mono (valueMay_calls hU ats[0].val _ hT2) ?_
      rintro r H3 ⟨rfl, rfl⟩
      cases hv : vMay vU ats[0].val with
      | false =>
        rw [hv] at hacc
        simp only [stp, if_true, if_false, Int.reduceEq, Int.reduceLT, Int.reduceLE, Int.reduceGT, Int.reduceGE, reduceCtorEq, Nat.reduceEqDiff, List.getElem?_cons_zero, List.getElem?_cons_succ, Option.map_some, hv]
        exact ⟨hx2, congrArg (V.int .i64) (by simpa using hacc), rfl⟩
      | true =>
        rw [hv] at hacc
        simp only [stp, if_true, if_false, Int.reduceEq, Int.reduceLT, Int.reduceLE, Int.reduceGT, Int.reduceGE, reduceCtorEq, Nat.reduceEqDiff, List.getElem?_cons_zero, List.getElem?_cons_succ, Option.map_some, hv, l0, lv, Bool.false_eq_true]
        refine SCalls.mono (sfits_calls hU hT2 hs2 ats[0].key ats[0].val) ?_
        rintro r H4 ⟨rfl, rfl⟩
        cases hf : fitsK vU ks ats[0].key ats[0].val with
        | true =>
          simp only [stp, if_true, if_false, Int.reduceEq, Int.reduceLT, Int.reduceLE, Int.reduceGT, Int.reduceGE, reduceCtorEq, Nat.reduceEqDiff, List.getElem?_cons_zero, List.getElem?_cons_succ, Option.map_some, hf]
          exact ⟨e, ⟨by rw [hnext]; simpa [hf] using hacc, hx2, hw2⟩, .cons rfl (.cons rfl (.cons rfl (.cons rfl (.cons rfl (.cons rfl .nil)))))⟩
        | false =>
          simp only [stp, if_true, if_false, Int.reduceEq, Int.reduceLT, Int.reduceLE, Int.reduceGT, Int.reduceGE, reduceCtorEq, Nat.reduceEqDiff, List.getElem?_cons_zero, List.getElem?_cons_succ, Option.map_some, hf]
          exact ⟨4, ⟨by rw [hnext]; simpa [hf] using hacc, hx2, hw2⟩, .cons rfl (.cons rfl (.cons rfl (.cons rfl (.cons rfl (.cons rfl .nil)))))⟩
    · have hgt : (k : Int) > 0 := by omega
      have hk1 : k - 1 < ats.length := by omega
      obtain ⟨id', o', hia', hat'⟩ := (hx.ext hx2).ia (H' := H2) (i := k - 1) (e := ats[k - 1].cells) (by simp [hk1]) .i64
      have lp := hat'.ld (j := 0) (v := .int .i64 ats[k - 1].key) rfl 1
      have hsub : IntKind.i64.wrap ((k : Int) - 1) = ((k - 1 : Nat) : Int) := by rw [wrap_i64 (by omega) (by omega)]; omega
      have hpv : prevBad (prevOf ats k) ats[k].key = decide (ats[k - 1].key ≥ ats[k].key) := by
        simp [prevOf, hk0, List.getElem?_eq_getElem hk1, prevBad]
      rw [hpv] at hacc
      by_cases hge : ats[k - 1].key ≥ ats[k].key
      · simp only [hge, decide_true, Bool.true_or, if_true] at hacc
        simp only [stp, if_true, if_false, Int.reduceEq, Int.reduceLT, Int.reduceLE, Int.reduceGT, Int.reduceGE, reduceCtorEq, Nat.reduceEqDiff, List.getElem?_cons_zero, List.getElem?_cons_succ, Option.map_some, hia, hat.lda (n := 5) rfl, hal, hst, hgt, hsub, hia', lp, l0, hge]
        exact ⟨hx2, congrArg (V.int .i64) hacc, rfl⟩
      · simp only [hge, decide_false, Bool.false_or] at hacc
        simp only [stp, if_true, if_false, Int.reduceEq, Int.reduceLT, Int.reduceLE, Int.reduceGT, Int.reduceGE, reduceCtorEq, Nat.reduceEqDiff, List.getElem?_cons_zero, List.getElem?_cons_succ, Option.map_some, hia, hat.lda (n := 5) rfl, hal, hst, hgt, hsub, hia', lp, l0, hge, lv, Bool.false_eq_true]
        refine SCalls.mono (valueMay_calls hU ats[k].val _ hT2) ?_
        rintro r H3 ⟨rfl, rfl⟩
        cases hv : vMay vU ats[k].val with
        | false =>
          rw [hv] at hacc
          simp only [stp, if_true, if_false, Int.reduceEq, Int.reduceLT, Int.reduceLE, Int.reduceGT, Int.reduceGE, reduceCtorEq, Nat.reduceEqDiff, List.getElem?_cons_zero, List.getElem?_cons_succ, Option.map_some, hv]
          exact ⟨hx2, congrArg (V.int .i64) (by simpa using hacc), rfl⟩
        | true =>
          rw [hv] at hacc
          simp only [stp, if_true, if_false, Int.reduceEq, Int.reduceLT, Int.reduceLE, Int.reduceGT, Int.reduceGE, reduceCtorEq, Nat.reduceEqDiff, List.getElem?_cons_zero, List.getElem?_cons_succ, Option.map_some, hv, l0, lv, Bool.false_eq_true]
          refine SCalls.mono (sfits_calls hU hT2 hs2 ats[k].key ats[k].val) ?_
          rintro r H4 ⟨rfl, rfl⟩
          cases hf : fitsK vU ks ats[k].key ats[k].val with
          | true =>
            simp only [stp, if_true, if_false, Int.reduceEq, Int.reduceLT, Int.reduceLE, Int.reduceGT, Int.reduceGE, reduceCtorEq, Nat.reduceEqDiff, List.getElem?_cons_zero, List.getElem?_cons_succ, Option.map_some, hf]
            exact ⟨e, ⟨by rw [hnext]; simpa [hf] using hacc, hx2, hw2⟩, .cons rfl (.cons rfl (.cons rfl (.cons rfl (.cons rfl (.cons rfl .nil)))))⟩
          | false =>
            simp only [stp, if_true, if_false, Int.reduceEq, Int.reduceLT, Int.reduceLE, Int.reduceGT, Int.reduceGE, reduceCtorEq, Nat.reduceEqDiff, List.getElem?_cons_zero, List.getElem?_cons_succ, Option.map_some, hf]
            exact ⟨4, ⟨by rw [hnext]; simpa [hf] using hacc, hx2, hw2⟩, .cons rfl (.cons rfl (.cons rfl (.cons rfl (.cons rfl (.cons rfl .nil)))))⟩
  · rintro e H' ⟨hacc, hext, hwf⟩
    simp only [stp, if_true, if_false, Int.reduceEq, Int.reduceLT, Int.reduceLE, Int.reduceGT, Int.reduceGE, reduceCtorEq, Nat.reduceEqDiff, List.getElem?_cons_zero, List.getElem?_cons_succ, Option.map_some]
    rw [List.drop_length] at hacc
    exact ⟨hext, congrArg (V.int .i64) hacc, rfl⟩
end Go.Proofs.YtkmaikggdbielaaGreatDoor.Fw

/- What functions of the program answer: whether a patch may be. No condition but what utf8.Valid answers, which is a hypothesis here. Parts of it printed by a program. -/
namespace Go.Proofs.YtkmaikggdbielaaGreatDoor.Fw
open Go
set_option linter.unusedSimpArgs false
set_option linter.unusedVariables false
variable {vU : ByteArray → Bool}

def valBad (vU : ByteArray → Bool) (c : ChgA) : Bool := (c.gone && !same4 c.val.cells zv) || (!c.gone && !vMay vU c.val)
def keyBad (vU : ByteArray → Bool) (ks : List KeyA) (c : ChgA) : Bool := !(findK ks c.key).isSome || (!c.gone && !fitsK vU ks c.key c.val)
def patchF (vU : ByteArray → Bool) (ks : List KeyA) : Option Int → Int → List ChgA → Int
  | _, e, [] => e
  | p, e, c :: cs => if prevBad p c.key || valBad vU c then 3 else patchF vU ks (some c.key) (if keyBad vU ks c then 4 else e) cs
def patchMayF (vU : ByteArray → Bool) (ks : List KeyA) (cs : List ChgA) : Int := if cs.length > 64 then 3 else patchF vU ks none 0 cs
def prevOfC (cs : List ChgA) (k : Nat) : Option Int := if k = 0 then none else (cs[k - 1]?).map (·.key)
theorem same4_not (v : ValA) (H : Heap) : exec (.eqagg true [0, 0, 0, 2]) [.agg v.cells, .agg zv] H = some (.bool (!same4 v.cells zv), H) := by
  simp only [exec, same4, ValA.cells, sameL, V.sameK, if_true, Option.map_some, Option.getD_some, Bool.bne_true]

set_option maxRecDepth 20000 in
set_option maxHeartbeats 4000000 in
theorem patchMay_calls (hU : ValidIs vU) {s x : V} {H : Heap} {ks : List KeyA} {cs : List ChgA} (hT : Tabs H) (hs : Sch H s ks) (hx : SL H x 6 (cs.map ChgA.cells)) :
    SCalls PP 129 [s, x] H fun r H' => H' = H ∧ r = .int .i64 (patchMayF vU ks cs) := by
  refine SCalls.keep (R := fun r => r = .int .i64 (patchMayF vU ks cs)) (SCalls.go c129 (by simp [fn129]) fun hw => ?_)
  by_cases h64 : (cs.length : Int) > 64
  · have h64' : cs.length > 64 := by omega
    simp only [fn129, enterFr, List.length, List.range, List.range.loop, List.zip, List.zipWith, stp, if_true, if_false, Int.reduceEq, Int.reduceLT, Int.reduceLE, Int.reduceGT, Int.reduceGE, reduceCtorEq, Nat.reduceEqDiff, List.getElem?_cons_zero, List.getElem?_cons_succ, Option.map_some, hx.len, List.length_map, h64]
    exact ⟨Ext.refl H, by simp [patchMayF, h64'], rfl⟩
  have h64' : ¬ cs.length > 64 := by omega
  have hF : patchMayF vU ks cs = patchF vU ks none 0 cs := by simp [patchMayF, h64']
  rw [hF]
  simp only [fn129, enterFr, List.length, List.range, List.range.loop, List.zip, List.zipWith, stp, if_true, if_false, Int.reduceEq, Int.reduceLT, Int.reduceLE, Int.reduceGT, Int.reduceGE, reduceCtorEq, Nat.reduceEqDiff, List.getElem?_cons_zero, List.getElem?_cons_succ, Option.map_some, hx.len, List.length_map, h64]
  refine wp_range SCalls.scMono (by omega) (fun e : Int => [(13, x), (5, .int .i64 e), (0, s), (1, x)]) (fun k e H' => patchF vU ks (prevOfC cs k) e (cs.drop k) = patchF vU ks none 0 cs ∧ Ext H H' ∧ WF H') 0 ⟨rfl, Ext.refl H, hw⟩
    (.cons rfl (.cons rfl (.cons rfl (.cons rfl (.cons rfl (.cons rfl .nil)))))) (by decide) (fun s => ⟨rfl, rfl, rfl⟩) ?_ ?_
  · rintro k e H' hk ⟨hacc, hext, hwf⟩
    have hm := hx.1 cs[k].cells (List.mem_map_of_mem (List.getElem_mem hk))
    obtain ⟨id, o, hia, hat⟩ := (hx.ext hext).ia (H' := H') (i := k) (e := cs[k].cells) (by simp [hk]) .i64
    obtain ⟨H2, hx2, hw2, ha2, hal, hst⟩ := x_copy hext hwf (z := [V.int .i64 0, .bool false, .int .u8 0, .int .i64 0, .int .u64 0, .str ⟨#[]⟩]) (e := cs[k].cells) (n := 6) rfl rfl hm.1 hm.2
    have f0 := ha2.ld (j := 0) (v := .int .i64 cs[k].key) rfl 1
    simp only [stp, if_true, if_false, Int.reduceEq, Int.reduceLT, Int.reduceLE, Int.reduceGT, Int.reduceGE, reduceCtorEq, Nat.reduceEqDiff, List.getElem?_cons_zero, List.getElem?_cons_succ, Option.map_some, hia, hat.lda (n := 6) rfl, hal, hst, f0]
    refine SCalls.mono (find_calls (hs.ext hx2) cs[k].key) ?_
    rintro r H3 ⟨rfl, rfl⟩
    obtain ⟨H4, hx4', hw4, ha4, hal4, hst4⟩ := x_copy (Ext.refl H3) hw2 (z := zk) (e := foundC ks cs[k].key) (n := 6) rfl rfl rfl rfl
    have hx4 : Ext H H4 := hx2.trans hx4'
    have hT4 := hT.ext hx4
    have hs4 := hs.ext hx4
    have ha := ha2.ext hx4'
    have l0 := ha.ld (j := 0) (v := .int .i64 cs[k].key) rfl 1
    have l1 := ha.ld (j := 1) (v := .bool cs[k].gone) rfl 1
    have hav : At H4 H'.next (0 + 2) cs[k].val.cells := At.tail (a := [.int .i64 cs[k].key, .bool cs[k].gone]) ha
    have lv := hav.lda (n := 4) rfl
    have hbz : exec (.build zv []) [] H4 = some (.agg zv, H4) := rfl
    have hq := same4_not cs[k].val H4
    rw [List.drop_eq_getElem_cons hk] at hacc
    simp only [patchF] at hacc
    have hnext : prevOfC cs (k + 1) = some cs[k].key := by simp [prevOfC, List.getElem?_eq_getElem hk]
    have bad : ∀ (b : Bool), b = true → (if b then (3 : Int) else patchF vU ks (some cs[k].key) (if keyBad vU ks cs[k] then 4 else e) (cs.drop (k + 1))) = patchF vU ks none 0 cs → (3 : Int) = patchF vU ks none 0 cs := fun b hb h => by rw [hb] at h; simpa using h
    have good : ∀ (b : Bool), b = false → (if b then (3 : Int) else patchF vU ks (some cs[k].key) (if keyBad vU ks cs[k] then 4 else e) (cs.drop (k + 1))) = patchF vU ks none 0 cs → patchF vU ks (prevOfC cs (k + 1)) (if keyBad vU ks cs[k] then 4 else e) (cs.drop (k + 1)) = patchF vU ks none 0 cs := fun b hb h => by rw [hb] at h; rw [hnext]; simpa using h
    have kb4 : keyBad vU ks cs[k] = true → patchF vU ks (prevOfC cs (k + 1)) (if keyBad vU ks cs[k] then 4 else e) (cs.drop (k + 1)) = patchF vU ks none 0 cs → patchF vU ks (prevOfC cs (k + 1)) 4 (cs.drop (k + 1)) = patchF vU ks none 0 cs := fun hb h => by rw [hb] at h; simpa using h
    have kb0 : keyBad vU ks cs[k] = false → patchF vU ks (prevOfC cs (k + 1)) (if keyBad vU ks cs[k] then 4 else e) (cs.drop (k + 1)) = patchF vU ks none 0 cs → patchF vU ks (prevOfC cs (k + 1)) e (cs.drop (k + 1)) = patchF vU ks none 0 cs := fun hb h => by rw [hb] at h; simpa using h
    by_cases hk0 : k = 0
    · subst hk0
      have hpv : prevBad (prevOfC cs 0) cs[0].key = false := rfl
      have hgt : ¬ ((0 : Nat) : Int) > 0 := by omega
      cases hg : cs[0].gone with
      | true =>
        rw [hg] at l1
        cases hz : same4 cs[0].val.cells zv with
        | false =>
          simp only [stp, if_true, if_false, Int.reduceEq, Int.reduceLT, Int.reduceLE, Int.reduceGT, Int.reduceGE, reduceCtorEq, Nat.reduceEqDiff, List.getElem?_cons_zero, List.getElem?_cons_succ, Option.map_some, hgt, hal4, hst4, l0, l1, lv, hbz, hq, hz, Bool.false_eq_true]
          exact ⟨hx4, congrArg (V.int .i64) (bad _ (by simp [hpv, valBad, hg, hz]) hacc), rfl⟩
        | true =>
          have hac2 := good _ (by simp [hpv, valBad, hg, hz]) hacc
          cases hth : (findK ks cs[0].key).isSome with
          | true =>
            simp only [stp, if_true, if_false, Int.reduceEq, Int.reduceLT, Int.reduceLE, Int.reduceGT, Int.reduceGE, reduceCtorEq, Nat.reduceEqDiff, List.getElem?_cons_zero, List.getElem?_cons_succ, Option.map_some, hgt, hal4, hst4, l0, l1, lv, hbz, hq, hz, hth, Bool.false_eq_true]
            exact ⟨e, ⟨kb0 (by simp [keyBad, hg, hth]) hac2, hx4, hw4⟩, .cons rfl (.cons rfl (.cons rfl (.cons rfl (.cons rfl (.cons rfl .nil)))))⟩
          | false =>
            simp only [stp, if_true, if_false, Int.reduceEq, Int.reduceLT, Int.reduceLE, Int.reduceGT, Int.reduceGE, reduceCtorEq, Nat.reduceEqDiff, List.getElem?_cons_zero, List.getElem?_cons_succ, Option.map_some, hgt, hal4, hst4, l0, l1, lv, hbz, hq, hz, hth, Bool.false_eq_true]
            exact ⟨4, ⟨kb4 (by simp [keyBad, hg, hth]) hac2, hx4, hw4⟩, .cons rfl (.cons rfl (.cons rfl (.cons rfl (.cons rfl (.cons rfl .nil)))))⟩
      | false =>
        rw [hg] at l1
        simp only [stp, if_true, if_false, Int.reduceEq, Int.reduceLT, Int.reduceLE, Int.reduceGT, Int.reduceGE, reduceCtorEq, Nat.reduceEqDiff, List.getElem?_cons_zero, List.getElem?_cons_succ, Option.map_some, hgt, hal4, hst4, l0, l1, lv, hbz, hq, Bool.false_eq_true]
        refine SCalls.mono (valueMay_calls hU cs[0].val _ hT4) ?_
        rintro r H5 ⟨rfl, rfl⟩
        cases hv : vMay vU cs[0].val with
        | false =>
          simp only [stp, if_true, if_false, Int.reduceEq, Int.reduceLT, Int.reduceLE, Int.reduceGT, Int.reduceGE, reduceCtorEq, Nat.reduceEqDiff, List.getElem?_cons_zero, List.getElem?_cons_succ, Option.map_some, hv, Bool.false_eq_true]
          exact ⟨hx4, congrArg (V.int .i64) (bad _ (by simp [hpv, valBad, hg, hv]) hacc), rfl⟩
        | true =>
          have hac2 := good _ (by simp [hpv, valBad, hg, hv]) hacc
          cases hth : (findK ks cs[0].key).isSome with
          | false =>
            simp only [stp, if_true, if_false, Int.reduceEq, Int.reduceLT, Int.reduceLE, Int.reduceGT, Int.reduceGE, reduceCtorEq, Nat.reduceEqDiff, List.getElem?_cons_zero, List.getElem?_cons_succ, Option.map_some, hv, l0, l1, lv, hth, Bool.false_eq_true]
            exact ⟨4, ⟨kb4 (by simp [keyBad, hg, hth]) hac2, hx4, hw4⟩, .cons rfl (.cons rfl (.cons rfl (.cons rfl (.cons rfl (.cons rfl .nil)))))⟩
          | true =>
            simp only [stp, if_true, if_false, Int.reduceEq, Int.reduceLT, Int.reduceLE, Int.reduceGT, Int.reduceGE, reduceCtorEq, Nat.reduceEqDiff, List.getElem?_cons_zero, List.getElem?_cons_succ, Option.map_some, hv, l0, l1, lv, hth, Bool.false_eq_true]
            refine SCalls.mono (sfits_calls hU hT4 hs4 cs[0].key cs[0].val) ?_
            rintro r H6 ⟨rfl, rfl⟩
            cases hf : fitsK vU ks cs[0].key cs[0].val with
            | true =>
              simp only [stp, if_true, if_false, Int.reduceEq, Int.reduceLT, Int.reduceLE, Int.reduceGT, Int.reduceGE, reduceCtorEq, Nat.reduceEqDiff, List.getElem?_cons_zero, List.getElem?_cons_succ, Option.map_some, hf, Bool.false_eq_true]
              exact ⟨e, ⟨kb0 (by simp [keyBad, hg, hth, hf]) hac2, hx4, hw4⟩, .cons rfl (.cons rfl (.cons rfl (.cons rfl (.cons rfl (.cons rfl .nil)))))⟩
            | false =>
              simp only [stp, if_true, if_false, Int.reduceEq, Int.reduceLT, Int.reduceLE, Int.reduceGT, Int.reduceGE, reduceCtorEq, Nat.reduceEqDiff, List.getElem?_cons_zero, List.getElem?_cons_succ, Option.map_some, hf, Bool.false_eq_true]
              exact ⟨4, ⟨kb4 (by simp [keyBad, hg, hth, hf]) hac2, hx4, hw4⟩, .cons rfl (.cons rfl (.cons rfl (.cons rfl (.cons rfl (.cons rfl .nil)))))⟩
    · have hgt : (k : Int) > 0 := by omega
      have hk1 : k - 1 < cs.length := by omega
      obtain ⟨id', o', hia', hat'⟩ := (hx.ext hx4).ia (H' := H4) (i := k - 1) (e := cs[k - 1].cells) (by simp [hk1]) .i64
      have lp := hat'.ld (j := 0) (v := .int .i64 cs[k - 1].key) rfl 1
      have hsub : IntKind.i64.wrap ((k : Int) - 1) = ((k - 1 : Nat) : Int) := by rw [wrap_i64 (by omega) (by omega)]; omega
      have hpe : prevBad (prevOfC cs k) cs[k].key = decide (cs[k - 1].key ≥ cs[k].key) := by
        simp [prevOfC, hk0, List.getElem?_eq_getElem hk1, prevBad]
      by_cases hge : cs[k - 1].key ≥ cs[k].key
      · have hpv : prevBad (prevOfC cs k) cs[k].key = true := by rw [hpe]; simpa using hge
        simp only [stp, if_true, if_false, Int.reduceEq, Int.reduceLT, Int.reduceLE, Int.reduceGT, Int.reduceGE, reduceCtorEq, Nat.reduceEqDiff, List.getElem?_cons_zero, List.getElem?_cons_succ, Option.map_some, hal4, hst4, hgt, hsub, hia', lp, l0, hge]
        exact ⟨hx4, congrArg (V.int .i64) (bad _ (by simp [hpv]) hacc), rfl⟩
      · have hpv : prevBad (prevOfC cs k) cs[k].key = false := by rw [hpe]; simpa using hge
        cases hg : cs[k].gone with
        | true =>
          rw [hg] at l1
          cases hz : same4 cs[k].val.cells zv with
          | false =>
            simp only [stp, if_true, if_false, Int.reduceEq, Int.reduceLT, Int.reduceLE, Int.reduceGT, Int.reduceGE, reduceCtorEq, Nat.reduceEqDiff, List.getElem?_cons_zero, List.getElem?_cons_succ, Option.map_some, hgt, hsub, hia', lp, hge, hal4, hst4, l0, l1, lv, hbz, hq, hz, Bool.false_eq_true]
            exact ⟨hx4, congrArg (V.int .i64) (bad _ (by simp [hpv, valBad, hg, hz]) hacc), rfl⟩
          | true =>
            have hac2 := good _ (by simp [hpv, valBad, hg, hz]) hacc
            cases hth : (findK ks cs[k].key).isSome with
            | true =>
              simp only [stp, if_true, if_false, Int.reduceEq, Int.reduceLT, Int.reduceLE, Int.reduceGT, Int.reduceGE, reduceCtorEq, Nat.reduceEqDiff, List.getElem?_cons_zero, List.getElem?_cons_succ, Option.map_some, hgt, hsub, hia', lp, hge, hal4, hst4, l0, l1, lv, hbz, hq, hz, hth, Bool.false_eq_true]
              exact ⟨e, ⟨kb0 (by simp [keyBad, hg, hth]) hac2, hx4, hw4⟩, .cons rfl (.cons rfl (.cons rfl (.cons rfl (.cons rfl (.cons rfl .nil)))))⟩
            | false =>
              simp only [stp, if_true, if_false, Int.reduceEq, Int.reduceLT, Int.reduceLE, Int.reduceGT, Int.reduceGE, reduceCtorEq, Nat.reduceEqDiff, List.getElem?_cons_zero, List.getElem?_cons_succ, Option.map_some, hgt, hsub, hia', lp, hge, hal4, hst4, l0, l1, lv, hbz, hq, hz, hth, Bool.false_eq_true]
              exact ⟨4, ⟨kb4 (by simp [keyBad, hg, hth]) hac2, hx4, hw4⟩, .cons rfl (.cons rfl (.cons rfl (.cons rfl (.cons rfl (.cons rfl .nil)))))⟩
        | false =>
          rw [hg] at l1
          simp only [stp, if_true, if_false, Int.reduceEq, Int.reduceLT, Int.reduceLE, Int.reduceGT, Int.reduceGE, reduceCtorEq, Nat.reduceEqDiff, List.getElem?_cons_zero, List.getElem?_cons_succ, Option.map_some, hgt, hsub, hia', lp, hge, hal4, hst4, l0, l1, lv, hbz, hq, Bool.false_eq_true]
          refine SCalls.mono (valueMay_calls hU cs[k].val _ hT4) ?_
          rintro r H5 ⟨rfl, rfl⟩
          cases hv : vMay vU cs[k].val with
          | false =>
            simp only [stp, if_true, if_false, Int.reduceEq, Int.reduceLT, Int.reduceLE, Int.reduceGT, Int.reduceGE, reduceCtorEq, Nat.reduceEqDiff, List.getElem?_cons_zero, List.getElem?_cons_succ, Option.map_some, hv, Bool.false_eq_true]
            exact ⟨hx4, congrArg (V.int .i64) (bad _ (by simp [hpv, valBad, hg, hv]) hacc), rfl⟩
          | true =>
            have hac2 := good _ (by simp [hpv, valBad, hg, hv]) hacc
            cases hth : (findK ks cs[k].key).isSome with
            | false =>
              simp only [stp, if_true, if_false, Int.reduceEq, Int.reduceLT, Int.reduceLE, Int.reduceGT, Int.reduceGE, reduceCtorEq, Nat.reduceEqDiff, List.getElem?_cons_zero, List.getElem?_cons_succ, Option.map_some, hv, l0, l1, lv, hth, Bool.false_eq_true]
              exact ⟨4, ⟨kb4 (by simp [keyBad, hg, hth]) hac2, hx4, hw4⟩, .cons rfl (.cons rfl (.cons rfl (.cons rfl (.cons rfl (.cons rfl .nil)))))⟩
            | true =>
              simp only [stp, if_true, if_false, Int.reduceEq, Int.reduceLT, Int.reduceLE, Int.reduceGT, Int.reduceGE, reduceCtorEq, Nat.reduceEqDiff, List.getElem?_cons_zero, List.getElem?_cons_succ, Option.map_some, hv, l0, l1, lv, hth, Bool.false_eq_true]
              refine SCalls.mono (sfits_calls hU hT4 hs4 cs[k].key cs[k].val) ?_
              rintro r H6 ⟨rfl, rfl⟩
              cases hf : fitsK vU ks cs[k].key cs[k].val with
              | true =>
                simp only [stp, if_true, if_false, Int.reduceEq, Int.reduceLT, Int.reduceLE, Int.reduceGT, Int.reduceGE, reduceCtorEq, Nat.reduceEqDiff, List.getElem?_cons_zero, List.getElem?_cons_succ, Option.map_some, hf, Bool.false_eq_true]
                exact ⟨e, ⟨kb0 (by simp [keyBad, hg, hth, hf]) hac2, hx4, hw4⟩, .cons rfl (.cons rfl (.cons rfl (.cons rfl (.cons rfl (.cons rfl .nil)))))⟩
              | false =>
                simp only [stp, if_true, if_false, Int.reduceEq, Int.reduceLT, Int.reduceLE, Int.reduceGT, Int.reduceGE, reduceCtorEq, Nat.reduceEqDiff, List.getElem?_cons_zero, List.getElem?_cons_succ, Option.map_some, hf, Bool.false_eq_true]
                exact ⟨4, ⟨kb4 (by simp [keyBad, hg, hth, hf]) hac2, hx4, hw4⟩, .cons rfl (.cons rfl (.cons rfl (.cons rfl (.cons rfl (.cons rfl .nil)))))⟩
  · rintro e H' ⟨hacc, hext, hwf⟩
    simp only [stp, if_true, if_false, Int.reduceEq, Int.reduceLT, Int.reduceLE, Int.reduceGT, Int.reduceGE, reduceCtorEq, Nat.reduceEqDiff, List.getElem?_cons_zero, List.getElem?_cons_succ, Option.map_some]
    rw [List.drop_length] at hacc
    exact ⟨hext, congrArg (V.int .i64) hacc, rfl⟩
end Go.Proofs.YtkmaikggdbielaaGreatDoor.Fw

/- What functions of the program answer: whether a delta may be. No condition but what utf8.Valid answers, which is a hypothesis here. -/
namespace Go.Proofs.YtkmaikggdbielaaGreatDoor.Fw
open Go
set_option linter.unusedSimpArgs false
set_option linter.unusedVariables false
variable {vU : ByteArray → Bool}

def oneF (vU : ByteArray → Bool) (ks : List KeyA) (o : OpA) : Int :=
  if !formO o || decide (sizeO o < 1) || decide (sizeO o > 536870912) then 3
  else if attrsMayF vU ks o.ats ≠ 0 then attrsMayF vU ks o.ats else patchMayF vU ks o.chs

set_option maxRecDepth 20000 in
set_option maxHeartbeats 1000000 in
theorem one_calls (hU : ValidIs vU) {s : V} {H : Heap} {ks : List KeyA} {o : OpA} (hT : Tabs H) (hs : Sch H s ks) (ho : o.In H) (hon : o.cells.all V.one = true) :
    SCalls PP 119 [s, .agg o.cells] H fun r H' => H' = H ∧ r = .int .i64 (oneF vU ks o) := by
  refine SCalls.keep (R := fun r => r = .int .i64 (oneF vU ks o)) (SCalls.go c119 (by simp [fn119]) fun hw => ?_)
  obtain ⟨H2, hx2, hw2, ha2, hbx⟩ := x_boxed (Ext.refl H) hw (e := o.cells) hon
  have la := ha2.lda (n := 5) rfl
  have l3 := ha2.ld (j := 3) (v := o.set) rfl 1
  have l4 := ha2.ld (j := 4) (v := o.patch) rfl 1
  have ho2 := ho.ext hx2
  have hT2 := hT.ext hx2
  have hs2 := hs.ext hx2
  simp only [fn119, enterFr, List.length, List.range, List.range.loop, List.zip, List.zipWith, stp, if_true, if_false, Int.reduceEq, Int.reduceLT, Int.reduceLE, Int.reduceGT, Int.reduceGE, reduceCtorEq, Nat.reduceEqDiff, List.getElem?_cons_zero, List.getElem?_cons_succ, Option.map_some, hbx, la]
  refine SCalls.mono (form_calls ho2 hon) ?_
  rintro r H3 ⟨rfl, rfl⟩
  cases hf : formO o with
  | false =>
    simp only [stp, if_true, if_false, Int.reduceEq, Int.reduceLT, Int.reduceLE, Int.reduceGT, Int.reduceGE, reduceCtorEq, Nat.reduceEqDiff, List.getElem?_cons_zero, List.getElem?_cons_succ, Option.map_some, hf, Bool.false_eq_true]
    exact ⟨hx2, by simp [oneF, hf], rfl⟩
  | true =>
    simp only [stp, if_true, if_false, Int.reduceEq, Int.reduceLT, Int.reduceLE, Int.reduceGT, Int.reduceGE, reduceCtorEq, Nat.reduceEqDiff, List.getElem?_cons_zero, List.getElem?_cons_succ, Option.map_some, hf, la, Bool.false_eq_true]
    refine SCalls.mono (size_calls ho2 hon) ?_
    rintro r H4 ⟨rfl, rfl⟩
    by_cases h1 : sizeO o < 1
    · simp only [stp, if_true, if_false, Int.reduceEq, Int.reduceLT, Int.reduceLE, Int.reduceGT, Int.reduceGE, reduceCtorEq, Nat.reduceEqDiff, List.getElem?_cons_zero, List.getElem?_cons_succ, Option.map_some, h1, Bool.false_eq_true]
      exact ⟨hx2, by simp [oneF, hf, h1], rfl⟩
    · simp only [stp, if_true, if_false, Int.reduceEq, Int.reduceLT, Int.reduceLE, Int.reduceGT, Int.reduceGE, reduceCtorEq, Nat.reduceEqDiff, List.getElem?_cons_zero, List.getElem?_cons_succ, Option.map_some, h1, la, Bool.false_eq_true]
      refine SCalls.mono (size_calls ho2 hon) ?_
      rintro r H5 ⟨rfl, rfl⟩
      by_cases h2 : sizeO o > 536870912
      · simp only [stp, if_true, if_false, Int.reduceEq, Int.reduceLT, Int.reduceLE, Int.reduceGT, Int.reduceGE, reduceCtorEq, Nat.reduceEqDiff, List.getElem?_cons_zero, List.getElem?_cons_succ, Option.map_some, h2, Bool.false_eq_true]
        exact ⟨hx2, by simp [oneF, hf, h1, h2], rfl⟩
      · simp only [stp, if_true, if_false, Int.reduceEq, Int.reduceLT, Int.reduceLE, Int.reduceGT, Int.reduceGE, reduceCtorEq, Nat.reduceEqDiff, List.getElem?_cons_zero, List.getElem?_cons_succ, Option.map_some, h2, l3, Bool.false_eq_true]
        refine SCalls.mono (attrsMay_calls hU hT2 hs2 ho2.set) ?_
        rintro r H6 ⟨rfl, rfl⟩
        have e1 : oneF vU ks o = if attrsMayF vU ks o.ats ≠ 0 then attrsMayF vU ks o.ats else patchMayF vU ks o.chs := by
          unfold oneF; rw [if_neg (by simp [hf, h1, h2])]
        by_cases he : attrsMayF vU ks o.ats = 0
        · simp only [stp, if_true, if_false, Int.reduceEq, Int.reduceLT, Int.reduceLE, Int.reduceGT, Int.reduceGE, reduceCtorEq, Nat.reduceEqDiff, List.getElem?_cons_zero, List.getElem?_cons_succ, Option.map_some, he, l4, Bool.false_eq_true]
          refine SCalls.mono (patchMay_calls hU hT2 hs2 ho2.patch) ?_
          rintro r H7 ⟨rfl, rfl⟩
          simp only [stp, if_true, if_false, Int.reduceEq, Int.reduceLT, Int.reduceLE, Int.reduceGT, Int.reduceGE, reduceCtorEq, Nat.reduceEqDiff, List.getElem?_cons_zero, List.getElem?_cons_succ, Option.map_some]
          exact ⟨hx2, by rw [e1, if_neg (by simp [he])], rfl⟩
        · simp only [stp, if_true, if_false, Int.reduceEq, Int.reduceLT, Int.reduceLE, Int.reduceGT, Int.reduceGE, reduceCtorEq, Nat.reduceEqDiff, List.getElem?_cons_zero, List.getElem?_cons_succ, Option.map_some, he, Bool.false_eq_true]
          exact ⟨hx2, by rw [e1, if_pos he], rfl⟩

def mayF (vU : ByteArray → Bool) (ks : List KeyA) : Int → List OpA → Option Int
  | found, [] => some found
  | found, o :: os => if oneF vU ks o = 3 then none else mayF vU ks (if oneF vU ks o ≠ 0 then oneF vU ks o else found) os
def opsMayF (vU : ByteArray → Bool) (ks : List KeyA) (os : List OpA) : Int := match mayF vU ks 0 os with
  | none => 3
  | some f => if takesF 0 os > 536870912 then 3 else if makesF 0 os > 536870912 then 3 else f

set_option maxRecDepth 20000 in
set_option maxHeartbeats 1000000 in
theorem opsMay_calls (hU : ValidIs vU) {s x : V} {H : Heap} {ks : List KeyA} {os : List OpA} (hT : Tabs H) (hs : Sch H s ks) (hx : OpsIn H x os) :
    SCalls PP 100 [s, x] H fun r H' => H' = H ∧ r = .int .i64 (opsMayF vU ks os) := by
  refine SCalls.keep (R := fun r => r = .int .i64 (opsMayF vU ks os)) (SCalls.go c100 (by simp [fn100]) fun hw => ?_)
  have hb := hx.len
  simp only [fn100, enterFr, List.length, List.range, List.range.loop, List.zip, List.zipWith, stp, if_true, if_false, Int.reduceEq, Int.reduceLT, Int.reduceLE, Int.reduceGT, Int.reduceGE, reduceCtorEq, Nat.reduceEqDiff, List.getElem?_cons_zero, List.getElem?_cons_succ, Option.map_some, hx.sl.len]
  refine wp_range SCalls.scMono (by simp only [List.length_map]; unfold big at hb; omega) (fun f : Int => [(9, x), (5, .int .i64 f), (0, s), (1, x)]) (fun k f H' => mayF vU ks f (os.drop k) = mayF vU ks 0 os ∧ Ext H H' ∧ WF H') 0 ⟨rfl, Ext.refl H, hw⟩
    (.cons rfl (.cons rfl (.cons rfl (.cons rfl (.cons rfl (.cons rfl .nil)))))) (by decide) (fun s => ⟨rfl, rfl, rfl⟩) ?_ ?_
  · rintro k f H' hk ⟨hacc, hext, hwf⟩
    rw [List.length_map] at hk
    have hm := (hx.sl.1 _ (List.mem_map_of_mem (List.getElem_mem hk))).2
    simp only [s_seq, s_region]
    refine wp_elem hx.sl hext hwf (k := k) (e := os[k].cells) (by simp [hk]) rfl rfl rfl rfl (by decide) fun q id o H2 hx2 hw2 ha2 _ => ?_
    have la := ha2.lda (n := 5) rfl
    rw [List.drop_eq_getElem_cons hk] at hacc
    simp only [mayF] at hacc
    simp only [stp, if_true, if_false, Int.reduceEq, Int.reduceLT, Int.reduceLE, Int.reduceGT, Int.reduceGE, reduceCtorEq, Nat.reduceEqDiff, List.getElem?_cons_zero, List.getElem?_cons_succ, Option.map_some, la]
    refine SCalls.mono (one_calls hU (hT.ext hx2) (hs.ext hx2) ((hx.ins _ (List.getElem_mem hk)).ext hx2) hm) ?_
    rintro r H3 ⟨rfl, rfl⟩
    by_cases h3 : oneF vU ks os[k] = 3
    · rw [if_pos h3] at hacc
      simp only [stp, if_true, if_false, Int.reduceEq, Int.reduceLT, Int.reduceLE, Int.reduceGT, Int.reduceGE, reduceCtorEq, Nat.reduceEqDiff, List.getElem?_cons_zero, List.getElem?_cons_succ, Option.map_some, h3]
      exact ⟨hx2, by simp [opsMayF, ← hacc], rfl⟩
    · rw [if_neg h3] at hacc
      by_cases h0 : oneF vU ks os[k] = 0
      · rw [if_neg (by simp [h0])] at hacc
        simp only [stp, if_true, if_false, Int.reduceEq, Int.reduceLT, Int.reduceLE, Int.reduceGT, Int.reduceGE, reduceCtorEq, Nat.reduceEqDiff, List.getElem?_cons_zero, List.getElem?_cons_succ, Option.map_some, h0]
        exact ⟨f, ⟨hacc, hx2, hw2⟩, .cons rfl (.cons rfl (.cons rfl (.cons rfl (.cons rfl (.cons rfl .nil)))))⟩
      · rw [if_pos h0] at hacc
        simp only [stp, if_true, if_false, Int.reduceEq, Int.reduceLT, Int.reduceLE, Int.reduceGT, Int.reduceGE, reduceCtorEq, Nat.reduceEqDiff, List.getElem?_cons_zero, List.getElem?_cons_succ, Option.map_some, h3, h0]
        exact ⟨_, ⟨hacc, hx2, hw2⟩, .cons rfl (.cons rfl (.cons rfl (.cons rfl (.cons rfl (.cons rfl .nil)))))⟩
  · rintro f H' ⟨hacc, hext, hwf⟩
    rw [List.length_map, List.drop_length] at hacc
    simp only [mayF] at hacc
    simp only [stp, if_true, if_false, Int.reduceEq, Int.reduceLT, Int.reduceLE, Int.reduceGT, Int.reduceGE, reduceCtorEq, Nat.reduceEqDiff, List.getElem?_cons_zero, List.getElem?_cons_succ, Option.map_some]
    refine SCalls.mono (takes_calls (hx.ext hext)) ?_
    rintro r H3 ⟨rfl, rfl⟩
    by_cases h1 : takesF 0 os > 536870912
    · simp only [stp, if_true, if_false, Int.reduceEq, Int.reduceLT, Int.reduceLE, Int.reduceGT, Int.reduceGE, reduceCtorEq, Nat.reduceEqDiff, List.getElem?_cons_zero, List.getElem?_cons_succ, Option.map_some, h1]
      exact ⟨hext, by simp [opsMayF, ← hacc, h1], rfl⟩
    · simp only [stp, if_true, if_false, Int.reduceEq, Int.reduceLT, Int.reduceLE, Int.reduceGT, Int.reduceGE, reduceCtorEq, Nat.reduceEqDiff, List.getElem?_cons_zero, List.getElem?_cons_succ, Option.map_some, h1, Bool.false_eq_true]
      refine SCalls.mono (makes_calls (hx.ext hext)) ?_
      rintro r H4 ⟨rfl, rfl⟩
      by_cases h2 : makesF 0 os > 536870912
      · simp only [stp, if_true, if_false, Int.reduceEq, Int.reduceLT, Int.reduceLE, Int.reduceGT, Int.reduceGE, reduceCtorEq, Nat.reduceEqDiff, List.getElem?_cons_zero, List.getElem?_cons_succ, Option.map_some, h2, Bool.false_eq_true]
        exact ⟨hext, by simp [opsMayF, ← hacc, h1, h2], rfl⟩
      · simp only [stp, if_true, if_false, Int.reduceEq, Int.reduceLT, Int.reduceLE, Int.reduceGT, Int.reduceGE, reduceCtorEq, Nat.reduceEqDiff, List.getElem?_cons_zero, List.getElem?_cons_succ, Option.map_some, h2, Bool.false_eq_true]
        exact ⟨hext, by simp [opsMayF, ← hacc, h1, h2], rfl⟩

end Go.Proofs.YtkmaikggdbielaaGreatDoor.Fw

/- The abstract code of functions of the program, and that it is theirs. No condition. Printed by a program (wip/Print.lean, wip/mkfns.py). -/
namespace Go.Proofs.YtkmaikggdbielaaGreatDoor.Fw
open Go

/-- rubric/rubriclaw27.HistoryBrackets -/
def fn7 : AFn := ⟨195,
 (.seq
  (.region [⟨some 6, none, .ex (.mov) [.k (.bool false)]⟩])
  (.seq
   (.seq
    (.region [⟨some 28, none, .ex (.mov) [.s 0]⟩,
      ⟨some 29, none, .ex (.ibin .lss) [.s 28, .k (.int .i64 1)]⟩,
      ⟨some 30, none, .ex (.mov) [.s 29]⟩,
      ⟨some 31, some (30, false), .ex (.mov) [.s 0]⟩,
      ⟨some 32, some (30, false), .ex (.ibin .gtr) [.s 31, .k (.int .i64 100)]⟩,
      ⟨some 33, none, .ex (.pick) [.s 30, .k (.bool true), .s 32]⟩,
      ⟨some 34, none, .ex (.mov) [.s 33]⟩,
      ⟨some 35, some (34, false), .ex (.mov) [.s 1]⟩,
      ⟨some 36, some (34, false), .ex (.ibin .lss) [.s 35, .k (.int .i64 0)]⟩,
      ⟨some 37, none, .ex (.pick) [.s 34, .k (.bool true), .s 36]⟩,
      ⟨some 38, none, .ex (.mov) [.s 37]⟩,
      ⟨some 39, some (38, false), .ex (.mov) [.s 1]⟩,
      ⟨some 40, some (38, false), .ex (.ibin .gtr) [.s 39, .k (.int .i64 9)]⟩,
      ⟨some 41, none, .ex (.pick) [.s 38, .k (.bool true), .s 40]⟩,
      ⟨some 42, none, .ex (.mov) [.s 41]⟩,
      ⟨some 43, some (42, false), .ex (.mov) [.s 2]⟩,
      ⟨some 44, some (42, false), .ex (.ibin .lss) [.s 43, .k (.int .i64 0)]⟩,
      ⟨some 45, none, .ex (.pick) [.s 42, .k (.bool true), .s 44]⟩,
      ⟨some 46, none, .ex (.mov) [.s 45]⟩,
      ⟨some 47, some (46, false), .ex (.mov) [.s 2]⟩,
      ⟨some 48, some (46, false), .ex (.ibin .gtr) [.s 47, .k (.int .i64 9)]⟩,
      ⟨some 49, none, .ex (.pick) [.s 46, .k (.bool true), .s 48]⟩])
    (.cond (.s 49)
     (.seq
      (.region [⟨some 50, none, .callf 11 []⟩,
        ⟨some 6, none, .ex (.mov) [.s 50]⟩])
      .ret)
     .skip))
   (.seq
    (.region [⟨some 52, none, .callf 9 [.k .nils]⟩,
      ⟨some 51, none, .ex (.mov) [.s 52]⟩,
      ⟨some 53, none, .ex (.ext 0) [.s 51]⟩,
      ⟨some 54, none, .ex (.ext 1) [.s 51]⟩,
      ⟨some 7, none, .ex (.mov) [.s 53]⟩,
      ⟨some 8, none, .ex (.mov) [.s 54]⟩])
    (.seq
     (.region [⟨some 56, none, .ex (.mov) [.s 7]⟩,
       ⟨some 57, none, .ex (.mov) [.s 0]⟩,
       ⟨some 58, none, .callf 10 [.s 56, .s 57]⟩,
       ⟨some 55, none, .ex (.mov) [.s 58]⟩,
       ⟨some 59, none, .ex (.ext 0) [.s 55]⟩,
       ⟨some 60, none, .ex (.ext 1) [.s 55]⟩,
       ⟨some 9, none, .ex (.alloc [.nilp]) []⟩,
       ⟨none, none, .ex (.st 1) [.s 9, .s 59]⟩,
       ⟨some 10, none, .ex (.mov) [.s 60]⟩])
     (.seq
      (.seq
       (.region [⟨some 61, none, .ex (.mov) [.s 8]⟩,
         ⟨some 62, none, .ex (.ibin .neq) [.s 61, .k (.int .i64 0)]⟩,
         ⟨some 63, none, .ex (.mov) [.s 62]⟩,
         ⟨some 64, some (63, false), .ex (.mov) [.s 10]⟩,
         ⟨some 65, some (63, false), .ex (.ibin .neq) [.s 64, .k (.int .i64 0)]⟩,
         ⟨some 66, none, .ex (.pick) [.s 63, .k (.bool true), .s 65]⟩,
         ⟨some 67, none, .ex (.mov) [.s 66]⟩,
         ⟨some 68, some (67, false), .ex (.ld 1) [.s 9]⟩,
         ⟨some 69, some (67, false), .ex (.eqnil 0 false) [.s 68, .k .nilp]⟩,
         ⟨some 70, none, .ex (.pick) [.s 67, .k (.bool true), .s 69]⟩])
       (.cond (.s 70)
        (.seq
         (.region [⟨some 6, none, .ex (.mov) [.k (.bool false)]⟩])
         .ret)
        .skip))
      (.seq
       (.region [⟨some 71, none, .ex (.mkfn (.func 30) 0) [.s 9]⟩,
         ⟨some 11, none, .ex (.mov) [.s 71]⟩])
       (.seq
        (.seq
         (.region [⟨some 72, none, .ex (.mov) [.s 1]⟩,
           ⟨some 73, none, .ex (.mov) [.k (.int .i64 0)]⟩])
         (.block 0
          (.loop
           (.seq
            (.region [⟨some 74, none, .ex (.ibin .lss) [.s 73, .s 72]⟩])
            (.seq
             (.cond (.s 74)
              .skip
              (.exit 0))
             (.seq
              (.block 1
               (.seq
                (.region [⟨some 75, none, .ex (.mov) [.s 11]⟩,
                  ⟨some 76, none, .callv (.s 75) []⟩,
                  ⟨some 77, none, .ex (.bnot) [.s 76]⟩])
                (.cond (.s 77)
                 (.seq
                  (.region [⟨some 6, none, .ex (.mov) [.k (.bool false)]⟩])
                  .ret)
                 .skip)))
              (.region [⟨some 78, none, .ex (.ibin .add) [.s 73, .k (.int .i64 1)]⟩,
                ⟨some 73, none, .ex (.mov) [.s 78]⟩])))))))
        (.seq
         (.region [⟨some 12, none, .ex (.mov) [.k (.int .i64 0)]⟩])
         (.seq
          (.seq
           (.region [⟨some 80, none, .ex (.ld 1) [.s 9]⟩,
             ⟨some 81, none, .callf 14 [.s 80]⟩,
             ⟨some 79, none, .ex (.mov) [.s 81]⟩,
             ⟨some 82, none, .ex (.ext 0) [.s 79]⟩,
             ⟨some 83, none, .ex (.ext 1) [.s 79]⟩,
             ⟨some 13, none, .ex (.mov) [.s 82]⟩,
             ⟨some 14, none, .ex (.mov) [.s 83]⟩])
           (.seq
            (.region [⟨some 84, none, .ex (.mov) [.s 14]⟩,
              ⟨some 85, none, .ex (.ibin .eql) [.s 84, .k (.int .i64 0)]⟩])
            (.cond (.s 85)
             (.region [⟨some 12, none, .ex (.mov) [.k (.int .i64 1)]⟩])
             .skip)))
          (.seq
           (.region [⟨some 87, none, .ex (.ld 1) [.s 9]⟩,
             ⟨some 88, none, .callf 15 [.s 87]⟩,
             ⟨some 86, none, .ex (.mov) [.s 88]⟩,
             ⟨some 89, none, .ex (.ext 0) [.s 86]⟩,
             ⟨some 90, none, .ex (.ext 1) [.s 86]⟩,
             ⟨some 15, none, .ex (.mov) [.s 89]⟩,
             ⟨some 16, none, .ex (.mov) [.s 90]⟩])
           (.seq
            (.seq
             (.region [⟨some 91, none, .ex (.mov) [.s 16]⟩,
               ⟨some 92, none, .ex (.mov) [.s 12]⟩,
               ⟨some 93, none, .ex (.ibin .neq) [.s 91, .s 92]⟩,
               ⟨some 94, none, .ex (.mov) [.s 93]⟩,
               ⟨some 95, some (94, false), .ex (.mov) [.s 15]⟩,
               ⟨some 96, some (94, false), .ex (.mov) [.s 1]⟩,
               ⟨some 97, some (94, false), .ex (.mov) [.s 0]⟩,
               ⟨some 98, some (94, false), .ex (.mn) [.s 96, .s 97]⟩,
               ⟨some 99, some (94, false), .ex (.mov) [.s 12]⟩,
               ⟨some 100, some (94, false), .ex (.ibin .sub) [.s 98, .s 99]⟩,
               ⟨some 101, some (94, false), .ex (.ibin .neq) [.s 95, .s 100]⟩,
               ⟨some 102, none, .ex (.pick) [.s 94, .k (.bool true), .s 101]⟩,
               ⟨some 103, none, .ex (.mov) [.s 102]⟩,
               ⟨some 104, some (103, false), .ex (.ld 1) [.s 9]⟩,
               ⟨some 105, some (103, false), .callf 22 [.s 104]⟩,
               ⟨some 106, some (103, false), .ex (.ibin .neq) [.s 105, .k (.int .i64 0)]⟩,
               ⟨some 107, none, .ex (.pick) [.s 103, .k (.bool true), .s 106]⟩])
             (.cond (.s 107)
              (.seq
               (.region [⟨some 6, none, .ex (.mov) [.k (.bool false)]⟩])
               .ret)
              .skip))
            (.seq
             (.seq
              (.region [⟨some 108, none, .ex (.mov) [.s 2]⟩,
                ⟨some 109, none, .ex (.mov) [.k (.int .i64 0)]⟩])
              (.block 2
               (.loop
                (.seq
                 (.region [⟨some 110, none, .ex (.ibin .lss) [.s 109, .s 108]⟩])
                 (.seq
                  (.cond (.s 110)
                   .skip
                   (.exit 2))
                  (.seq
                   (.block 3
                    (.seq
                     (.region [⟨some 111, none, .ex (.mov) [.s 11]⟩,
                       ⟨some 112, none, .callv (.s 111) []⟩,
                       ⟨some 113, none, .ex (.bnot) [.s 112]⟩])
                     (.cond (.s 113)
                      (.seq
                       (.region [⟨some 6, none, .ex (.mov) [.k (.bool false)]⟩])
                       .ret)
                      .skip)))
                   (.region [⟨some 114, none, .ex (.ibin .add) [.s 109, .k (.int .i64 1)]⟩,
                     ⟨some 109, none, .ex (.mov) [.s 114]⟩])))))))
             (.seq
              (.region [⟨some 116, none, .ex (.ld 1) [.s 9]⟩,
                ⟨some 117, none, .callf 14 [.s 116]⟩,
                ⟨some 115, none, .ex (.mov) [.s 117]⟩,
                ⟨some 118, none, .ex (.ext 0) [.s 115]⟩,
                ⟨some 119, none, .ex (.ext 1) [.s 115]⟩,
                ⟨some 17, none, .ex (.mov) [.s 118]⟩,
                ⟨some 18, none, .ex (.mov) [.s 119]⟩])
              (.seq
               (.region [⟨some 121, none, .ex (.ld 1) [.s 9]⟩,
                 ⟨some 122, none, .callf 16 [.s 121]⟩,
                 ⟨some 120, none, .ex (.mov) [.s 122]⟩,
                 ⟨some 123, none, .ex (.ext 0) [.s 120]⟩,
                 ⟨some 124, none, .ex (.ext 1) [.s 120]⟩,
                 ⟨some 19, none, .ex (.mov) [.s 123]⟩,
                 ⟨some 20, none, .ex (.mov) [.s 124]⟩])
               (.seq
                (.seq
                 (.region [⟨some 125, none, .ex (.mov) [.s 18]⟩,
                   ⟨some 126, none, .ex (.ibin .neq) [.s 125, .k (.int .i64 9)]⟩,
                   ⟨some 127, none, .ex (.mov) [.s 126]⟩,
                   ⟨some 128, some (127, false), .ex (.mov) [.s 20]⟩,
                   ⟨some 129, some (127, false), .ex (.ibin .neq) [.s 128, .k (.int .i64 9)]⟩,
                   ⟨some 130, none, .ex (.pick) [.s 127, .k (.bool true), .s 129]⟩,
                   ⟨some 131, none, .ex (.mov) [.s 130]⟩,
                   ⟨some 132, some (131, false), .ex (.ld 1) [.s 9]⟩,
                   ⟨some 133, some (131, false), .callf 24 [.s 132]⟩,
                   ⟨some 134, some (131, false), .ex (.ibin .neq) [.s 133, .k (.int .i64 0)]⟩,
                   ⟨some 135, none, .ex (.pick) [.s 131, .k (.bool true), .s 134]⟩,
                   ⟨some 136, none, .ex (.mov) [.s 135]⟩,
                   ⟨some 137, some (136, false), .ex (.ld 1) [.s 9]⟩,
                   ⟨some 138, some (136, false), .callf 24 [.s 137]⟩,
                   ⟨some 139, some (136, false), .ex (.ibin .neq) [.s 138, .k (.int .i64 9)]⟩,
                   ⟨some 140, none, .ex (.pick) [.s 136, .k (.bool true), .s 139]⟩])
                 (.cond (.s 140)
                  (.seq
                   (.region [⟨some 6, none, .ex (.mov) [.k (.bool false)]⟩])
                   .ret)
                  .skip))
                (.seq
                 (.region [⟨some 142, none, .ex (.ld 1) [.s 9]⟩,
                   ⟨some 143, none, .callf 15 [.s 142]⟩,
                   ⟨some 141, none, .ex (.mov) [.s 143]⟩,
                   ⟨some 144, none, .ex (.ext 0) [.s 141]⟩,
                   ⟨some 145, none, .ex (.ext 1) [.s 141]⟩,
                   ⟨some 21, none, .ex (.mov) [.s 144]⟩,
                   ⟨some 22, none, .ex (.mov) [.s 145]⟩])
                 (.seq
                  (.seq
                   (.region [⟨some 146, none, .ex (.mov) [.s 2]⟩,
                     ⟨some 147, none, .ex (.ibin .eql) [.s 146, .k (.int .i64 0)]⟩])
                   (.cond (.s 147)
                    (.seq
                     (.region [⟨some 148, none, .ex (.mov) [.s 21]⟩,
                       ⟨some 149, none, .ex (.mov) [.s 15]⟩,
                       ⟨some 150, none, .ex (.ibin .eql) [.s 148, .s 149]⟩,
                       ⟨some 151, none, .ex (.mov) [.s 150]⟩,
                       ⟨some 152, some (151, true), .ex (.mov) [.s 22]⟩,
                       ⟨some 153, some (151, true), .ex (.mov) [.s 16]⟩,
                       ⟨some 154, some (151, true), .ex (.ibin .eql) [.s 152, .s 153]⟩,
                       ⟨some 155, none, .ex (.pick) [.s 151, .s 154, .k (.bool false)]⟩,
                       ⟨some 156, none, .ex (.mov) [.s 155]⟩,
                       ⟨some 157, some (156, true), .callf 11 []⟩,
                       ⟨some 158, none, .ex (.pick) [.s 156, .s 157, .k (.bool false)]⟩,
                       ⟨some 6, none, .ex (.mov) [.s 158]⟩])
                     .ret)
                    .skip))
                  (.seq
                   (.seq
                    (.region [⟨some 159, none, .ex (.mov) [.s 21]⟩,
                      ⟨some 160, none, .ex (.mov) [.s 15]⟩,
                      ⟨some 161, none, .ex (.ibin .add) [.s 160, .k (.int .i64 1)]⟩,
                      ⟨some 162, none, .ex (.mov) [.s 0]⟩,
                      ⟨some 163, none, .ex (.mn) [.s 161, .s 162]⟩,
                      ⟨some 164, none, .ex (.ibin .neq) [.s 159, .s 163]⟩,
                      ⟨some 165, none, .ex (.mov) [.s 164]⟩,
                      ⟨some 166, some (165, false), .ex (.mov) [.s 22]⟩,
                      ⟨some 167, some (165, false), .ex (.ibin .neq) [.s 166, .k (.int .i64 0)]⟩,
                      ⟨some 168, none, .ex (.pick) [.s 165, .k (.bool true), .s 167]⟩])
                    (.cond (.s 168)
                     (.seq
                      (.region [⟨some 6, none, .ex (.mov) [.k (.bool false)]⟩])
                      .ret)
                     .skip))
                   (.seq
                    (.region [⟨some 170, none, .ex (.ld 1) [.s 9]⟩,
                      ⟨some 171, none, .callf 14 [.s 170]⟩,
                      ⟨some 169, none, .ex (.mov) [.s 171]⟩,
                      ⟨some 172, none, .ex (.ext 0) [.s 169]⟩,
                      ⟨some 173, none, .ex (.ext 1) [.s 169]⟩,
                      ⟨some 23, none, .ex (.mov) [.s 172]⟩,
                      ⟨some 24, none, .ex (.mov) [.s 173]⟩])
                    (.seq
                     (.region [⟨some 25, none, .ex (.mov) [.k (.int .i64 0)]⟩])
                     (.seq
                      (.seq
                       (.region [⟨some 174, none, .ex (.mov) [.s 23]⟩,
                         ⟨some 175, none, .ex (.len) [.s 174]⟩,
                         ⟨some 176, none, .ex (.mov) [.k (.int .i64 0)]⟩])
                       (.block 4
                        (.loop
                         (.seq
                          (.region [⟨some 177, none, .ex (.ibin .lss) [.s 176, .s 175]⟩])
                          (.seq
                           (.cond (.s 177)
                            .skip
                            (.exit 4))
                           (.seq
                            (.block 5
                             (.seq
                              (.region [⟨some 178, none, .ex (.ia 5) [.s 174, .s 176]⟩,
                                ⟨some 179, none, .ex (.lda 5) [.s 178]⟩,
                                ⟨some 27, none, .ex (.alloc [(.int .u8 0), (.int .i64 0), .nils, .nils, .nils]) []⟩,
                                ⟨none, none, .ex (.st 5) [.s 27, .s 179]⟩])
                              (.region [⟨some 180, none, .ex (.mov) [.s 25]⟩,
                                ⟨some 181, none, .ex (.fa 1) [.s 27]⟩,
                                ⟨some 182, none, .ex (.ld 1) [.s 181]⟩,
                                ⟨some 183, none, .ex (.ibin .add) [.s 180, .s 182]⟩,
                                ⟨some 25, none, .ex (.mov) [.s 183]⟩])))
                            (.region [⟨some 184, none, .ex (.ibin .add) [.s 176, .k (.int .i64 1)]⟩,
                              ⟨some 176, none, .ex (.mov) [.s 184]⟩])))))))
                      (.seq
                       (.region [⟨some 185, none, .ex (.mov) [.s 24]⟩,
                         ⟨some 186, none, .ex (.ibin .eql) [.s 185, .k (.int .i64 0)]⟩,
                         ⟨some 187, none, .ex (.mov) [.s 186]⟩,
                         ⟨some 188, some (187, true), .ex (.mov) [.s 25]⟩,
                         ⟨some 189, some (187, true), .ex (.mov) [.s 2]⟩,
                         ⟨some 190, some (187, true), .ex (.ibin .eql) [.s 188, .s 189]⟩,
                         ⟨some 191, none, .ex (.pick) [.s 187, .s 190, .k (.bool false)]⟩,
                         ⟨some 192, none, .ex (.mov) [.s 191]⟩,
                         ⟨some 193, some (192, true), .callf 11 []⟩,
                         ⟨some 194, none, .ex (.pick) [.s 192, .s 193, .k (.bool false)]⟩,
                         ⟨some 6, none, .ex (.mov) [.s 194]⟩])
                       .ret)))))))))))))))))))))),
 [.t 6]⟩
theorem c7 : compFn Go.Proofs.Tryz.prog 7 = some fn7 := by kernel_rfl

/-- rubric/rubriclaw27.HistoryBrackets$1 -/
def fn30 : AFn := ⟨13,
 (.seq
  (.region [⟨some 1, none, .ex (.mov) [.k (.bool false)]⟩])
  (.seq
   (.region [⟨some 5, none, .callf 12 [.k (.int .i32 120)]⟩,
     ⟨some 4, none, .ex (.mov) [.s 5]⟩,
     ⟨some 6, none, .ex (.ext 0) [.s 4]⟩,
     ⟨some 7, none, .ex (.ext 1) [.s 4]⟩,
     ⟨some 2, none, .ex (.mov) [.s 6]⟩,
     ⟨some 3, none, .ex (.mov) [.s 7]⟩])
   (.seq
    (.region [⟨some 8, none, .ex (.ld 1) [.s 0]⟩,
      ⟨some 9, none, .ex (.mov) [.s 2]⟩,
      ⟨some 10, none, .ex (.mov) [.s 3]⟩,
      ⟨some 11, none, .callf 13 [.s 8, .s 9, .s 10]⟩,
      ⟨some 12, none, .ex (.ibin .eql) [.s 11, .k (.int .i64 0)]⟩,
      ⟨some 1, none, .ex (.mov) [.s 12]⟩])
    .ret))),
 [.t 1]⟩
theorem c30 : compFn Go.Proofs.Tryz.prog 30 = some fn30 := by kernel_rfl

/-- unicode/utf8.Valid -/
def fn154 : AFn := ⟨188,
 (.seq
  (.region [⟨some 2, none, .ex (.mov) [.k (.bool false)]⟩])
  (.seq
   (.region [⟨some 7, none, .ex (.mov) [.s 0]⟩,
     ⟨some 8, none, .ex (.mov) [.s 0]⟩,
     ⟨some 9, none, .ex (.len) [.s 8]⟩,
     ⟨some 10, none, .ex (.mov) [.s 0]⟩,
     ⟨some 11, none, .ex (.len) [.s 10]⟩,
     ⟨some 12, none, .ex (.slc 1 false true true) [.s 7, .s 9, .s 11]⟩,
     ⟨some 0, none, .ex (.mov) [.s 12]⟩])
   (.seq
    (.block 0
     (.loop
      (.seq
       (.seq
        (.region [⟨some 13, none, .ex (.mov) [.s 0]⟩,
          ⟨some 14, none, .ex (.len) [.s 13]⟩,
          ⟨some 15, none, .ex (.ibin .gtr) [.s 14, .k (.int .i64 0)]⟩])
        (.cond (.s 15)
         .skip
         (.exit 0)))
       (.block 1
        (.seq
         (.region [⟨some 16, none, .ex (.mov) [.s 0]⟩,
           ⟨some 17, none, .ex (.ia 1) [.s 16, .k (.int .i64 0)]⟩,
           ⟨some 18, none, .ex (.ld 1) [.s 17]⟩,
           ⟨some 3, none, .ex (.mov) [.s 18]⟩])
         (.seq
          (.seq
           (.region [⟨some 19, none, .ex (.mov) [.s 3]⟩,
             ⟨some 20, none, .ex (.ibin .lss) [.s 19, .k (.int .u8 128)]⟩])
           (.cond (.s 20)
            (.seq
             (.region [⟨some 21, none, .ex (.mov) [.s 0]⟩,
               ⟨some 22, none, .ex (.slc 1 true false false) [.s 21, .k (.int .i64 1)]⟩,
               ⟨some 0, none, .ex (.mov) [.s 22]⟩])
             (.seq
              (.seq
               (.region [⟨some 23, none, .ex (.mov) [.s 0]⟩,
                 ⟨some 24, none, .ex (.len) [.s 23]⟩,
                 ⟨some 25, none, .ex (.ibin .gtr) [.s 24, .k (.int .i64 8)]⟩,
                 ⟨some 26, none, .ex (.mov) [.s 25]⟩,
                 ⟨some 27, some (26, true), .ex (.mov) [.s 0]⟩,
                 ⟨some 28, some (26, true), .callf 155 [.s 27]⟩,
                 ⟨some 29, some (26, true), .ex (.ibin .and) [.s 28, .k (.int .u64 9259542123273814144)]⟩,
                 ⟨some 30, some (26, true), .ex (.ibin .eql) [.s 29, .k (.int .u64 0)]⟩,
                 ⟨some 31, none, .ex (.pick) [.s 26, .s 30, .k (.bool false)]⟩])
               (.cond (.s 31)
                (.seq
                 (.region [⟨some 32, none, .ex (.mov) [.s 0]⟩,
                   ⟨some 33, none, .ex (.slc 1 true false false) [.s 32, .k (.int .i64 8)]⟩,
                   ⟨some 0, none, .ex (.mov) [.s 33]⟩])
                 (.seq
                  (.draw (.op ⟨some 34, none, .ex (.mov) [.s 0]⟩ (.op ⟨some 35, none, .ex (.len) [.s 34]⟩ (.op ⟨some 36, none, .ex (.ibin .gtr) [.s 35, .k (.int .i64 16)]⟩ (.op ⟨some 37, none, .ex (.mov) [.s 36]⟩ (.op ⟨some 38, some (37, true), .ex (.mov) [.s 0]⟩ (.op ⟨some 40, some (37, true), .ex (.mov) [.s 0]⟩ (.fork (.op ⟨some 39, some (37, true), .callf 155 [.s 38]⟩ (.op ⟨some 41, some (37, true), .ex (.slc 1 true false false) [.s 40, .k (.int .i64 8)]⟩ (.op ⟨some 42, some (37, true), .callf 155 [.s 41]⟩ (.op ⟨some 43, some (37, true), .ex (.ibin .or) [.s 39, .s 42]⟩ (.op ⟨some 44, some (37, true), .ex (.ibin .and) [.s 43, .k (.int .u64 9259542123273814144)]⟩ (.op ⟨some 45, some (37, true), .ex (.ibin .eql) [.s 44, .k (.int .u64 0)]⟩ (.op ⟨some 46, none, .ex (.pick) [.s 37, .s 45, .k (.bool false)]⟩ .done))))))) (.op ⟨some 41, some (37, true), .ex (.slc 1 true false false) [.s 40, .k (.int .i64 8)]⟩ (.op ⟨some 39, some (37, true), .callf 155 [.s 38]⟩ (.op ⟨some 42, some (37, true), .callf 155 [.s 41]⟩ (.op ⟨some 43, some (37, true), .ex (.ibin .or) [.s 39, .s 42]⟩ (.op ⟨some 44, some (37, true), .ex (.ibin .and) [.s 43, .k (.int .u64 9259542123273814144)]⟩ (.op ⟨some 45, some (37, true), .ex (.ibin .eql) [.s 44, .k (.int .u64 0)]⟩ (.op ⟨some 46, none, .ex (.pick) [.s 37, .s 45, .k (.bool false)]⟩ .done)))))))))))))))
                  (.cond (.s 46)
                   (.seq
                    (.region [⟨some 47, none, .ex (.mov) [.s 0]⟩,
                      ⟨some 48, none, .ex (.slc 1 true false false) [.s 47, .k (.int .i64 16)]⟩,
                      ⟨some 0, none, .ex (.mov) [.s 48]⟩])
                    (.block 2
                     (.loop
                      (.seq
                       (.seq
                        (.draw (.op ⟨some 49, none, .ex (.mov) [.s 0]⟩ (.op ⟨some 50, none, .ex (.len) [.s 49]⟩ (.op ⟨some 51, none, .ex (.ibin .gtr) [.s 50, .k (.int .i64 32)]⟩ (.op ⟨some 52, none, .ex (.mov) [.s 51]⟩ (.op ⟨some 53, some (52, true), .ex (.mov) [.s 0]⟩ (.op ⟨some 55, some (52, true), .ex (.mov) [.s 0]⟩ (.op ⟨some 59, some (52, true), .ex (.mov) [.s 0]⟩ (.op ⟨some 62, some (52, true), .ex (.mov) [.s 0]⟩ (.fork (.op ⟨some 54, some (52, true), .callf 155 [.s 53]⟩ (.op ⟨some 56, some (52, true), .ex (.slc 1 true false false) [.s 55, .k (.int .i64 8)]⟩ (.fork (.op ⟨some 57, some (52, true), .callf 155 [.s 56]⟩ (.op ⟨some 58, some (52, true), .ex (.ibin .or) [.s 54, .s 57]⟩ (.op ⟨some 60, some (52, true), .ex (.slc 1 true false false) [.s 59, .k (.int .i64 16)]⟩ (.fork (.op ⟨some 61, some (52, true), .callf 155 [.s 60]⟩ (.op ⟨some 63, some (52, true), .ex (.slc 1 true false false) [.s 62, .k (.int .i64 24)]⟩ (.op ⟨some 64, some (52, true), .callf 155 [.s 63]⟩ (.op ⟨some 65, some (52, true), .ex (.ibin .or) [.s 61, .s 64]⟩ (.op ⟨some 66, some (52, true), .ex (.ibin .or) [.s 58, .s 65]⟩ (.op ⟨some 67, some (52, true), .ex (.ibin .and) [.s 66, .k (.int .u64 9259542123273814144)]⟩ (.op ⟨some 68, some (52, true), .ex (.ibin .eql) [.s 67, .k (.int .u64 0)]⟩ (.op ⟨some 69, none, .ex (.pick) [.s 52, .s 68, .k (.bool false)]⟩ .done)))))))) (.op ⟨some 63, some (52, true), .ex (.slc 1 true false false) [.s 62, .k (.int .i64 24)]⟩ (.op ⟨some 61, some (52, true), .callf 155 [.s 60]⟩ (.op ⟨some 64, some (52, true), .callf 155 [.s 63]⟩ (.op ⟨some 65, some (52, true), .ex (.ibin .or) [.s 61, .s 64]⟩ (.op ⟨some 66, some (52, true), .ex (.ibin .or) [.s 58, .s 65]⟩ (.op ⟨some 67, some (52, true), .ex (.ibin .and) [.s 66, .k (.int .u64 9259542123273814144)]⟩ (.op ⟨some 68, some (52, true), .ex (.ibin .eql) [.s 67, .k (.int .u64 0)]⟩ (.op ⟨some 69, none, .ex (.pick) [.s 52, .s 68, .k (.bool false)]⟩ .done)))))))))))) (.fork (.op ⟨some 60, some (52, true), .ex (.slc 1 true false false) [.s 59, .k (.int .i64 16)]⟩ (.fork (.op ⟨some 57, some (52, true), .callf 155 [.s 56]⟩ (.op ⟨some 58, some (52, true), .ex (.ibin .or) [.s 54, .s 57]⟩ (.fork (.op ⟨some 61, some (52, true), .callf 155 [.s 60]⟩ (.op ⟨some 63, some (52, true), .ex (.slc 1 true false false) [.s 62, .k (.int .i64 24)]⟩ (.op ⟨some 64, some (52, true), .callf 155 [.s 63]⟩ (.op ⟨some 65, some (52, true), .ex (.ibin .or) [.s 61, .s 64]⟩ (.op ⟨some 66, some (52, true), .ex (.ibin .or) [.s 58, .s 65]⟩ (.op ⟨some 67, some (52, true), .ex (.ibin .and) [.s 66, .k (.int .u64 9259542123273814144)]⟩ (.op ⟨some 68, some (52, true), .ex (.ibin .eql) [.s 67, .k (.int .u64 0)]⟩ (.op ⟨some 69, none, .ex (.pick) [.s 52, .s 68, .k (.bool false)]⟩ .done)))))))) (.op ⟨some 63, some (52, true), .ex (.slc 1 true false false) [.s 62, .k (.int .i64 24)]⟩ (.op ⟨some 61, some (52, true), .callf 155 [.s 60]⟩ (.op ⟨some 64, some (52, true), .callf 155 [.s 63]⟩ (.op ⟨some 65, some (52, true), .ex (.ibin .or) [.s 61, .s 64]⟩ (.op ⟨some 66, some (52, true), .ex (.ibin .or) [.s 58, .s 65]⟩ (.op ⟨some 67, some (52, true), .ex (.ibin .and) [.s 66, .k (.int .u64 9259542123273814144)]⟩ (.op ⟨some 68, some (52, true), .ex (.ibin .eql) [.s 67, .k (.int .u64 0)]⟩ (.op ⟨some 69, none, .ex (.pick) [.s 52, .s 68, .k (.bool false)]⟩ .done))))))))))) (.op ⟨some 63, some (52, true), .ex (.slc 1 true false false) [.s 62, .k (.int .i64 24)]⟩ (.op ⟨some 57, some (52, true), .callf 155 [.s 56]⟩ (.op ⟨some 58, some (52, true), .ex (.ibin .or) [.s 54, .s 57]⟩ (.op ⟨some 61, some (52, true), .callf 155 [.s 60]⟩ (.op ⟨some 64, some (52, true), .callf 155 [.s 63]⟩ (.op ⟨some 65, some (52, true), .ex (.ibin .or) [.s 61, .s 64]⟩ (.op ⟨some 66, some (52, true), .ex (.ibin .or) [.s 58, .s 65]⟩ (.op ⟨some 67, some (52, true), .ex (.ibin .and) [.s 66, .k (.int .u64 9259542123273814144)]⟩ (.op ⟨some 68, some (52, true), .ex (.ibin .eql) [.s 67, .k (.int .u64 0)]⟩ (.op ⟨some 69, none, .ex (.pick) [.s 52, .s 68, .k (.bool false)]⟩ .done)))))))))))) (.op ⟨some 63, some (52, true), .ex (.slc 1 true false false) [.s 62, .k (.int .i64 24)]⟩ (.fork (.op ⟨some 57, some (52, true), .callf 155 [.s 56]⟩ (.op ⟨some 58, some (52, true), .ex (.ibin .or) [.s 54, .s 57]⟩ (.op ⟨some 60, some (52, true), .ex (.slc 1 true false false) [.s 59, .k (.int .i64 16)]⟩ (.op ⟨some 61, some (52, true), .callf 155 [.s 60]⟩ (.op ⟨some 64, some (52, true), .callf 155 [.s 63]⟩ (.op ⟨some 65, some (52, true), .ex (.ibin .or) [.s 61, .s 64]⟩ (.op ⟨some 66, some (52, true), .ex (.ibin .or) [.s 58, .s 65]⟩ (.op ⟨some 67, some (52, true), .ex (.ibin .and) [.s 66, .k (.int .u64 9259542123273814144)]⟩ (.op ⟨some 68, some (52, true), .ex (.ibin .eql) [.s 67, .k (.int .u64 0)]⟩ (.op ⟨some 69, none, .ex (.pick) [.s 52, .s 68, .k (.bool false)]⟩ .done)))))))))) (.op ⟨some 60, some (52, true), .ex (.slc 1 true false false) [.s 59, .k (.int .i64 16)]⟩ (.op ⟨some 57, some (52, true), .callf 155 [.s 56]⟩ (.op ⟨some 58, some (52, true), .ex (.ibin .or) [.s 54, .s 57]⟩ (.op ⟨some 61, some (52, true), .callf 155 [.s 60]⟩ (.op ⟨some 64, some (52, true), .callf 155 [.s 63]⟩ (.op ⟨some 65, some (52, true), .ex (.ibin .or) [.s 61, .s 64]⟩ (.op ⟨some 66, some (52, true), .ex (.ibin .or) [.s 58, .s 65]⟩ (.op ⟨some 67, some (52, true), .ex (.ibin .and) [.s 66, .k (.int .u64 9259542123273814144)]⟩ (.op ⟨some 68, some (52, true), .ex (.ibin .eql) [.s 67, .k (.int .u64 0)]⟩ (.op ⟨some 69, none, .ex (.pick) [.s 52, .s 68, .k (.bool false)]⟩ .done)))))))))))))))) (.fork (.op ⟨some 56, some (52, true), .ex (.slc 1 true false false) [.s 55, .k (.int .i64 8)]⟩ (.fork (.op ⟨some 54, some (52, true), .callf 155 [.s 53]⟩ (.fork (.op ⟨some 57, some (52, true), .callf 155 [.s 56]⟩ (.op ⟨some 58, some (52, true), .ex (.ibin .or) [.s 54, .s 57]⟩ (.op ⟨some 60, some (52, true), .ex (.slc 1 true false false) [.s 59, .k (.int .i64 16)]⟩ (.fork (.op ⟨some 61, some (52, true), .callf 155 [.s 60]⟩ (.op ⟨some 63, some (52, true), .ex (.slc 1 true false false) [.s 62, .k (.int .i64 24)]⟩ (.op ⟨some 64, some (52, true), .callf 155 [.s 63]⟩ (.op ⟨some 65, some (52, true), .ex (.ibin .or) [.s 61, .s 64]⟩ (.op ⟨some 66, some (52, true), .ex (.ibin .or) [.s 58, .s 65]⟩ (.op ⟨some 67, some (52, true), .ex (.ibin .and) [.s 66, .k (.int .u64 9259542123273814144)]⟩ (.op ⟨some 68, some (52, true), .ex (.ibin .eql) [.s 67, .k (.int .u64 0)]⟩ (.op ⟨some 69, none, .ex (.pick) [.s 52, .s 68, .k (.bool false)]⟩ .done)))))))) (.op ⟨some 63, some (52, true), .ex (.slc 1 true false false) [.s 62, .k (.int .i64 24)]⟩ (.op ⟨some 61, some (52, true), .callf 155 [.s 60]⟩ (.op ⟨some 64, some (52, true), .callf 155 [.s 63]⟩ (.op ⟨some 65, some (52, true), .ex (.ibin .or) [.s 61, .s 64]⟩ (.op ⟨some 66, some (52, true), .ex (.ibin .or) [.s 58, .s 65]⟩ (.op ⟨some 67, some (52, true), .ex (.ibin .and) [.s 66, .k (.int .u64 9259542123273814144)]⟩ (.op ⟨some 68, some (52, true), .ex (.ibin .eql) [.s 67, .k (.int .u64 0)]⟩ (.op ⟨some 69, none, .ex (.pick) [.s 52, .s 68, .k (.bool false)]⟩ .done)))))))))))) (.fork (.op ⟨some 60, some (52, true), .ex (.slc 1 true false false) [.s 59, .k (.int .i64 16)]⟩ (.fork (.op ⟨some 57, some (52, true), .callf 155 [.s 56]⟩ (.op ⟨some 58, some (52, true), .ex (.ibin .or) [.s 54, .s 57]⟩ (.fork (.op ⟨some 61, some (52, true), .callf 155 [.s 60]⟩ (.op ⟨some 63, some (52, true), .ex (.slc 1 true false false) [.s 62, .k (.int .i64 24)]⟩ (.op ⟨some 64, some (52, true), .callf 155 [.s 63]⟩ (.op ⟨some 65, some (52, true), .ex (.ibin .or) [.s 61, .s 64]⟩ (.op ⟨some 66, some (52, true), .ex (.ibin .or) [.s 58, .s 65]⟩ (.op ⟨some 67, some (52, true), .ex (.ibin .and) [.s 66, .k (.int .u64 9259542123273814144)]⟩ (.op ⟨some 68, some (52, true), .ex (.ibin .eql) [.s 67, .k (.int .u64 0)]⟩ (.op ⟨some 69, none, .ex (.pick) [.s 52, .s 68, .k (.bool false)]⟩ .done)))))))) (.op ⟨some 63, some (52, true), .ex (.slc 1 true false false) [.s 62, .k (.int .i64 24)]⟩ (.op ⟨some 61, some (52, true), .callf 155 [.s 60]⟩ (.op ⟨some 64, some (52, true), .callf 155 [.s 63]⟩ (.op ⟨some 65, some (52, true), .ex (.ibin .or) [.s 61, .s 64]⟩ (.op ⟨some 66, some (52, true), .ex (.ibin .or) [.s 58, .s 65]⟩ (.op ⟨some 67, some (52, true), .ex (.ibin .and) [.s 66, .k (.int .u64 9259542123273814144)]⟩ (.op ⟨some 68, some (52, true), .ex (.ibin .eql) [.s 67, .k (.int .u64 0)]⟩ (.op ⟨some 69, none, .ex (.pick) [.s 52, .s 68, .k (.bool false)]⟩ .done))))))))))) (.op ⟨some 63, some (52, true), .ex (.slc 1 true false false) [.s 62, .k (.int .i64 24)]⟩ (.op ⟨some 57, some (52, true), .callf 155 [.s 56]⟩ (.op ⟨some 58, some (52, true), .ex (.ibin .or) [.s 54, .s 57]⟩ (.op ⟨some 61, some (52, true), .callf 155 [.s 60]⟩ (.op ⟨some 64, some (52, true), .callf 155 [.s 63]⟩ (.op ⟨some 65, some (52, true), .ex (.ibin .or) [.s 61, .s 64]⟩ (.op ⟨some 66, some (52, true), .ex (.ibin .or) [.s 58, .s 65]⟩ (.op ⟨some 67, some (52, true), .ex (.ibin .and) [.s 66, .k (.int .u64 9259542123273814144)]⟩ (.op ⟨some 68, some (52, true), .ex (.ibin .eql) [.s 67, .k (.int .u64 0)]⟩ (.op ⟨some 69, none, .ex (.pick) [.s 52, .s 68, .k (.bool false)]⟩ .done)))))))))))) (.op ⟨some 63, some (52, true), .ex (.slc 1 true false false) [.s 62, .k (.int .i64 24)]⟩ (.fork (.op ⟨some 57, some (52, true), .callf 155 [.s 56]⟩ (.op ⟨some 58, some (52, true), .ex (.ibin .or) [.s 54, .s 57]⟩ (.op ⟨some 60, some (52, true), .ex (.slc 1 true false false) [.s 59, .k (.int .i64 16)]⟩ (.op ⟨some 61, some (52, true), .callf 155 [.s 60]⟩ (.op ⟨some 64, some (52, true), .callf 155 [.s 63]⟩ (.op ⟨some 65, some (52, true), .ex (.ibin .or) [.s 61, .s 64]⟩ (.op ⟨some 66, some (52, true), .ex (.ibin .or) [.s 58, .s 65]⟩ (.op ⟨some 67, some (52, true), .ex (.ibin .and) [.s 66, .k (.int .u64 9259542123273814144)]⟩ (.op ⟨some 68, some (52, true), .ex (.ibin .eql) [.s 67, .k (.int .u64 0)]⟩ (.op ⟨some 69, none, .ex (.pick) [.s 52, .s 68, .k (.bool false)]⟩ .done)))))))))) (.op ⟨some 60, some (52, true), .ex (.slc 1 true false false) [.s 59, .k (.int .i64 16)]⟩ (.op ⟨some 57, some (52, true), .callf 155 [.s 56]⟩ (.op ⟨some 58, some (52, true), .ex (.ibin .or) [.s 54, .s 57]⟩ (.op ⟨some 61, some (52, true), .callf 155 [.s 60]⟩ (.op ⟨some 64, some (52, true), .callf 155 [.s 63]⟩ (.op ⟨some 65, some (52, true), .ex (.ibin .or) [.s 61, .s 64]⟩ (.op ⟨some 66, some (52, true), .ex (.ibin .or) [.s 58, .s 65]⟩ (.op ⟨some 67, some (52, true), .ex (.ibin .and) [.s 66, .k (.int .u64 9259542123273814144)]⟩ (.op ⟨some 68, some (52, true), .ex (.ibin .eql) [.s 67, .k (.int .u64 0)]⟩ (.op ⟨some 69, none, .ex (.pick) [.s 52, .s 68, .k (.bool false)]⟩ .done))))))))))))))) (.fork (.op ⟨some 60, some (52, true), .ex (.slc 1 true false false) [.s 59, .k (.int .i64 16)]⟩ (.fork (.op ⟨some 54, some (52, true), .callf 155 [.s 53]⟩ (.fork (.op ⟨some 57, some (52, true), .callf 155 [.s 56]⟩ (.op ⟨some 58, some (52, true), .ex (.ibin .or) [.s 54, .s 57]⟩ (.fork (.op ⟨some 61, some (52, true), .callf 155 [.s 60]⟩ (.op ⟨some 63, some (52, true), .ex (.slc 1 true false false) [.s 62, .k (.int .i64 24)]⟩ (.op ⟨some 64, some (52, true), .callf 155 [.s 63]⟩ (.op ⟨some 65, some (52, true), .ex (.ibin .or) [.s 61, .s 64]⟩ (.op ⟨some 66, some (52, true), .ex (.ibin .or) [.s 58, .s 65]⟩ (.op ⟨some 67, some (52, true), .ex (.ibin .and) [.s 66, .k (.int .u64 9259542123273814144)]⟩ (.op ⟨some 68, some (52, true), .ex (.ibin .eql) [.s 67, .k (.int .u64 0)]⟩ (.op ⟨some 69, none, .ex (.pick) [.s 52, .s 68, .k (.bool false)]⟩ .done)))))))) (.op ⟨some 63, some (52, true), .ex (.slc 1 true false false) [.s 62, .k (.int .i64 24)]⟩ (.op ⟨some 61, some (52, true), .callf 155 [.s 60]⟩ (.op ⟨some 64, some (52, true), .callf 155 [.s 63]⟩ (.op ⟨some 65, some (52, true), .ex (.ibin .or) [.s 61, .s 64]⟩ (.op ⟨some 66, some (52, true), .ex (.ibin .or) [.s 58, .s 65]⟩ (.op ⟨some 67, some (52, true), .ex (.ibin .and) [.s 66, .k (.int .u64 9259542123273814144)]⟩ (.op ⟨some 68, some (52, true), .ex (.ibin .eql) [.s 67, .k (.int .u64 0)]⟩ (.op ⟨some 69, none, .ex (.pick) [.s 52, .s 68, .k (.bool false)]⟩ .done))))))))))) (.op ⟨some 63, some (52, true), .ex (.slc 1 true false false) [.s 62, .k (.int .i64 24)]⟩ (.op ⟨some 57, some (52, true), .callf 155 [.s 56]⟩ (.op ⟨some 58, some (52, true), .ex (.ibin .or) [.s 54, .s 57]⟩ (.op ⟨some 61, some (52, true), .callf 155 [.s 60]⟩ (.op ⟨some 64, some (52, true), .callf 155 [.s 63]⟩ (.op ⟨some 65, some (52, true), .ex (.ibin .or) [.s 61, .s 64]⟩ (.op ⟨some 66, some (52, true), .ex (.ibin .or) [.s 58, .s 65]⟩ (.op ⟨some 67, some (52, true), .ex (.ibin .and) [.s 66, .k (.int .u64 9259542123273814144)]⟩ (.op ⟨some 68, some (52, true), .ex (.ibin .eql) [.s 67, .k (.int .u64 0)]⟩ (.op ⟨some 69, none, .ex (.pick) [.s 52, .s 68, .k (.bool false)]⟩ .done)))))))))))) (.op ⟨some 63, some (52, true), .ex (.slc 1 true false false) [.s 62, .k (.int .i64 24)]⟩ (.op ⟨some 54, some (52, true), .callf 155 [.s 53]⟩ (.op ⟨some 57, some (52, true), .callf 155 [.s 56]⟩ (.op ⟨some 58, some (52, true), .ex (.ibin .or) [.s 54, .s 57]⟩ (.op ⟨some 61, some (52, true), .callf 155 [.s 60]⟩ (.op ⟨some 64, some (52, true), .callf 155 [.s 63]⟩ (.op ⟨some 65, some (52, true), .ex (.ibin .or) [.s 61, .s 64]⟩ (.op ⟨some 66, some (52, true), .ex (.ibin .or) [.s 58, .s 65]⟩ (.op ⟨some 67, some (52, true), .ex (.ibin .and) [.s 66, .k (.int .u64 9259542123273814144)]⟩ (.op ⟨some 68, some (52, true), .ex (.ibin .eql) [.s 67, .k (.int .u64 0)]⟩ (.op ⟨some 69, none, .ex (.pick) [.s 52, .s 68, .k (.bool false)]⟩ .done))))))))))))) (.op ⟨some 63, some (52, true), .ex (.slc 1 true false false) [.s 62, .k (.int .i64 24)]⟩ (.fork (.op ⟨some 54, some (52, true), .callf 155 [.s 53]⟩ (.fork (.op ⟨some 57, some (52, true), .callf 155 [.s 56]⟩ (.op ⟨some 58, some (52, true), .ex (.ibin .or) [.s 54, .s 57]⟩ (.op ⟨some 60, some (52, true), .ex (.slc 1 true false false) [.s 59, .k (.int .i64 16)]⟩ (.op ⟨some 61, some (52, true), .callf 155 [.s 60]⟩ (.op ⟨some 64, some (52, true), .callf 155 [.s 63]⟩ (.op ⟨some 65, some (52, true), .ex (.ibin .or) [.s 61, .s 64]⟩ (.op ⟨some 66, some (52, true), .ex (.ibin .or) [.s 58, .s 65]⟩ (.op ⟨some 67, some (52, true), .ex (.ibin .and) [.s 66, .k (.int .u64 9259542123273814144)]⟩ (.op ⟨some 68, some (52, true), .ex (.ibin .eql) [.s 67, .k (.int .u64 0)]⟩ (.op ⟨some 69, none, .ex (.pick) [.s 52, .s 68, .k (.bool false)]⟩ .done)))))))))) (.op ⟨some 60, some (52, true), .ex (.slc 1 true false false) [.s 59, .k (.int .i64 16)]⟩ (.op ⟨some 57, some (52, true), .callf 155 [.s 56]⟩ (.op ⟨some 58, some (52, true), .ex (.ibin .or) [.s 54, .s 57]⟩ (.op ⟨some 61, some (52, true), .callf 155 [.s 60]⟩ (.op ⟨some 64, some (52, true), .callf 155 [.s 63]⟩ (.op ⟨some 65, some (52, true), .ex (.ibin .or) [.s 61, .s 64]⟩ (.op ⟨some 66, some (52, true), .ex (.ibin .or) [.s 58, .s 65]⟩ (.op ⟨some 67, some (52, true), .ex (.ibin .and) [.s 66, .k (.int .u64 9259542123273814144)]⟩ (.op ⟨some 68, some (52, true), .ex (.ibin .eql) [.s 67, .k (.int .u64 0)]⟩ (.op ⟨some 69, none, .ex (.pick) [.s 52, .s 68, .k (.bool false)]⟩ .done)))))))))))) (.op ⟨some 60, some (52, true), .ex (.slc 1 true false false) [.s 59, .k (.int .i64 16)]⟩ (.op ⟨some 54, some (52, true), .callf 155 [.s 53]⟩ (.op ⟨some 57, some (52, true), .callf 155 [.s 56]⟩ (.op ⟨some 58, some (52, true), .ex (.ibin .or) [.s 54, .s 57]⟩ (.op ⟨some 61, some (52, true), .callf 155 [.s 60]⟩ (.op ⟨some 64, some (52, true), .callf 155 [.s 63]⟩ (.op ⟨some 65, some (52, true), .ex (.ibin .or) [.s 61, .s 64]⟩ (.op ⟨some 66, some (52, true), .ex (.ibin .or) [.s 58, .s 65]⟩ (.op ⟨some 67, some (52, true), .ex (.ibin .and) [.s 66, .k (.int .u64 9259542123273814144)]⟩ (.op ⟨some 68, some (52, true), .ex (.ibin .eql) [.s 67, .k (.int .u64 0)]⟩ (.op ⟨some 69, none, .ex (.pick) [.s 52, .s 68, .k (.bool false)]⟩ .done)))))))))))))))) (.fork (.op ⟨some 60, some (52, true), .ex (.slc 1 true false false) [.s 59, .k (.int .i64 16)]⟩ (.fork (.op ⟨some 54, some (52, true), .callf 155 [.s 53]⟩ (.op ⟨some 56, some (52, true), .ex (.slc 1 true false false) [.s 55, .k (.int .i64 8)]⟩ (.fork (.op ⟨some 57, some (52, true), .callf 155 [.s 56]⟩ (.op ⟨some 58, some (52, true), .ex (.ibin .or) [.s 54, .s 57]⟩ (.fork (.op ⟨some 61, some (52, true), .callf 155 [.s 60]⟩ (.op ⟨some 63, some (52, true), .ex (.slc 1 true false false) [.s 62, .k (.int .i64 24)]⟩ (.op ⟨some 64, some (52, true), .callf 155 [.s 63]⟩ (.op ⟨some 65, some (52, true), .ex (.ibin .or) [.s 61, .s 64]⟩ (.op ⟨some 66, some (52, true), .ex (.ibin .or) [.s 58, .s 65]⟩ (.op ⟨some 67, some (52, true), .ex (.ibin .and) [.s 66, .k (.int .u64 9259542123273814144)]⟩ (.op ⟨some 68, some (52, true), .ex (.ibin .eql) [.s 67, .k (.int .u64 0)]⟩ (.op ⟨some 69, none, .ex (.pick) [.s 52, .s 68, .k (.bool false)]⟩ .done)))))))) (.op ⟨some 63, some (52, true), .ex (.slc 1 true false false) [.s 62, .k (.int .i64 24)]⟩ (.op ⟨some 61, some (52, true), .callf 155 [.s 60]⟩ (.op ⟨some 64, some (52, true), .callf 155 [.s 63]⟩ (.op ⟨some 65, some (52, true), .ex (.ibin .or) [.s 61, .s 64]⟩ (.op ⟨some 66, some (52, true), .ex (.ibin .or) [.s 58, .s 65]⟩ (.op ⟨some 67, some (52, true), .ex (.ibin .and) [.s 66, .k (.int .u64 9259542123273814144)]⟩ (.op ⟨some 68, some (52, true), .ex (.ibin .eql) [.s 67, .k (.int .u64 0)]⟩ (.op ⟨some 69, none, .ex (.pick) [.s 52, .s 68, .k (.bool false)]⟩ .done))))))))))) (.op ⟨some 63, some (52, true), .ex (.slc 1 true false false) [.s 62, .k (.int .i64 24)]⟩ (.op ⟨some 57, some (52, true), .callf 155 [.s 56]⟩ (.op ⟨some 58, some (52, true), .ex (.ibin .or) [.s 54, .s 57]⟩ (.op ⟨some 61, some (52, true), .callf 155 [.s 60]⟩ (.op ⟨some 64, some (52, true), .callf 155 [.s 63]⟩ (.op ⟨some 65, some (52, true), .ex (.ibin .or) [.s 61, .s 64]⟩ (.op ⟨some 66, some (52, true), .ex (.ibin .or) [.s 58, .s 65]⟩ (.op ⟨some 67, some (52, true), .ex (.ibin .and) [.s 66, .k (.int .u64 9259542123273814144)]⟩ (.op ⟨some 68, some (52, true), .ex (.ibin .eql) [.s 67, .k (.int .u64 0)]⟩ (.op ⟨some 69, none, .ex (.pick) [.s 52, .s 68, .k (.bool false)]⟩ .done))))))))))))) (.fork (.op ⟨some 56, some (52, true), .ex (.slc 1 true false false) [.s 55, .k (.int .i64 8)]⟩ (.fork (.op ⟨some 54, some (52, true), .callf 155 [.s 53]⟩ (.fork (.op ⟨some 57, some (52, true), .callf 155 [.s 56]⟩ (.op ⟨some 58, some (52, true), .ex (.ibin .or) [.s 54, .s 57]⟩ (.fork (.op ⟨some 61, some (52, true), .callf 155 [.s 60]⟩ (.op ⟨some 63, some (52, true), .ex (.slc 1 true false false) [.s 62, .k (.int .i64 24)]⟩ (.op ⟨some 64, some (52, true), .callf 155 [.s 63]⟩ (.op ⟨some 65, some (52, true), .ex (.ibin .or) [.s 61, .s 64]⟩ (.op ⟨some 66, some (52, true), .ex (.ibin .or) [.s 58, .s 65]⟩ (.op ⟨some 67, some (52, true), .ex (.ibin .and) [.s 66, .k (.int .u64 9259542123273814144)]⟩ (.op ⟨some 68, some (52, true), .ex (.ibin .eql) [.s 67, .k (.int .u64 0)]⟩ (.op ⟨some 69, none, .ex (.pick) [.s 52, .s 68, .k (.bool false)]⟩ .done)))))))) (.op ⟨some 63, some (52, true), .ex (.slc 1 true false false) [.s 62, .k (.int .i64 24)]⟩ (.op ⟨some 61, some (52, true), .callf 155 [.s 60]⟩ (.op ⟨some 64, some (52, true), .callf 155 [.s 63]⟩ (.op ⟨some 65, some (52, true), .ex (.ibin .or) [.s 61, .s 64]⟩ (.op ⟨some 66, some (52, true), .ex (.ibin .or) [.s 58, .s 65]⟩ (.op ⟨some 67, some (52, true), .ex (.ibin .and) [.s 66, .k (.int .u64 9259542123273814144)]⟩ (.op ⟨some 68, some (52, true), .ex (.ibin .eql) [.s 67, .k (.int .u64 0)]⟩ (.op ⟨some 69, none, .ex (.pick) [.s 52, .s 68, .k (.bool false)]⟩ .done))))))))))) (.op ⟨some 63, some (52, true), .ex (.slc 1 true false false) [.s 62, .k (.int .i64 24)]⟩ (.op ⟨some 57, some (52, true), .callf 155 [.s 56]⟩ (.op ⟨some 58, some (52, true), .ex (.ibin .or) [.s 54, .s 57]⟩ (.op ⟨some 61, some (52, true), .callf 155 [.s 60]⟩ (.op ⟨some 64, some (52, true), .callf 155 [.s 63]⟩ (.op ⟨some 65, some (52, true), .ex (.ibin .or) [.s 61, .s 64]⟩ (.op ⟨some 66, some (52, true), .ex (.ibin .or) [.s 58, .s 65]⟩ (.op ⟨some 67, some (52, true), .ex (.ibin .and) [.s 66, .k (.int .u64 9259542123273814144)]⟩ (.op ⟨some 68, some (52, true), .ex (.ibin .eql) [.s 67, .k (.int .u64 0)]⟩ (.op ⟨some 69, none, .ex (.pick) [.s 52, .s 68, .k (.bool false)]⟩ .done)))))))))))) (.op ⟨some 63, some (52, true), .ex (.slc 1 true false false) [.s 62, .k (.int .i64 24)]⟩ (.op ⟨some 54, some (52, true), .callf 155 [.s 53]⟩ (.op ⟨some 57, some (52, true), .callf 155 [.s 56]⟩ (.op ⟨some 58, some (52, true), .ex (.ibin .or) [.s 54, .s 57]⟩ (.op ⟨some 61, some (52, true), .callf 155 [.s 60]⟩ (.op ⟨some 64, some (52, true), .callf 155 [.s 63]⟩ (.op ⟨some 65, some (52, true), .ex (.ibin .or) [.s 61, .s 64]⟩ (.op ⟨some 66, some (52, true), .ex (.ibin .or) [.s 58, .s 65]⟩ (.op ⟨some 67, some (52, true), .ex (.ibin .and) [.s 66, .k (.int .u64 9259542123273814144)]⟩ (.op ⟨some 68, some (52, true), .ex (.ibin .eql) [.s 67, .k (.int .u64 0)]⟩ (.op ⟨some 69, none, .ex (.pick) [.s 52, .s 68, .k (.bool false)]⟩ .done))))))))))))) (.op ⟨some 63, some (52, true), .ex (.slc 1 true false false) [.s 62, .k (.int .i64 24)]⟩ (.fork (.op ⟨some 54, some (52, true), .callf 155 [.s 53]⟩ (.op ⟨some 56, some (52, true), .ex (.slc 1 true false false) [.s 55, .k (.int .i64 8)]⟩ (.op ⟨some 57, some (52, true), .callf 155 [.s 56]⟩ (.op ⟨some 58, some (52, true), .ex (.ibin .or) [.s 54, .s 57]⟩ (.op ⟨some 61, some (52, true), .callf 155 [.s 60]⟩ (.op ⟨some 64, some (52, true), .callf 155 [.s 63]⟩ (.op ⟨some 65, some (52, true), .ex (.ibin .or) [.s 61, .s 64]⟩ (.op ⟨some 66, some (52, true), .ex (.ibin .or) [.s 58, .s 65]⟩ (.op ⟨some 67, some (52, true), .ex (.ibin .and) [.s 66, .k (.int .u64 9259542123273814144)]⟩ (.op ⟨some 68, some (52, true), .ex (.ibin .eql) [.s 67, .k (.int .u64 0)]⟩ (.op ⟨some 69, none, .ex (.pick) [.s 52, .s 68, .k (.bool false)]⟩ .done))))))))))) (.op ⟨some 56, some (52, true), .ex (.slc 1 true false false) [.s 55, .k (.int .i64 8)]⟩ (.op ⟨some 54, some (52, true), .callf 155 [.s 53]⟩ (.op ⟨some 57, some (52, true), .callf 155 [.s 56]⟩ (.op ⟨some 58, some (52, true), .ex (.ibin .or) [.s 54, .s 57]⟩ (.op ⟨some 61, some (52, true), .callf 155 [.s 60]⟩ (.op ⟨some 64, some (52, true), .callf 155 [.s 63]⟩ (.op ⟨some 65, some (52, true), .ex (.ibin .or) [.s 61, .s 64]⟩ (.op ⟨some 66, some (52, true), .ex (.ibin .or) [.s 58, .s 65]⟩ (.op ⟨some 67, some (52, true), .ex (.ibin .and) [.s 66, .k (.int .u64 9259542123273814144)]⟩ (.op ⟨some 68, some (52, true), .ex (.ibin .eql) [.s 67, .k (.int .u64 0)]⟩ (.op ⟨some 69, none, .ex (.pick) [.s 52, .s 68, .k (.bool false)]⟩ .done)))))))))))))))) (.op ⟨some 63, some (52, true), .ex (.slc 1 true false false) [.s 62, .k (.int .i64 24)]⟩ (.fork (.op ⟨some 54, some (52, true), .callf 155 [.s 53]⟩ (.op ⟨some 56, some (52, true), .ex (.slc 1 true false false) [.s 55, .k (.int .i64 8)]⟩ (.fork (.op ⟨some 57, some (52, true), .callf 155 [.s 56]⟩ (.op ⟨some 58, some (52, true), .ex (.ibin .or) [.s 54, .s 57]⟩ (.op ⟨some 60, some (52, true), .ex (.slc 1 true false false) [.s 59, .k (.int .i64 16)]⟩ (.op ⟨some 61, some (52, true), .callf 155 [.s 60]⟩ (.op ⟨some 64, some (52, true), .callf 155 [.s 63]⟩ (.op ⟨some 65, some (52, true), .ex (.ibin .or) [.s 61, .s 64]⟩ (.op ⟨some 66, some (52, true), .ex (.ibin .or) [.s 58, .s 65]⟩ (.op ⟨some 67, some (52, true), .ex (.ibin .and) [.s 66, .k (.int .u64 9259542123273814144)]⟩ (.op ⟨some 68, some (52, true), .ex (.ibin .eql) [.s 67, .k (.int .u64 0)]⟩ (.op ⟨some 69, none, .ex (.pick) [.s 52, .s 68, .k (.bool false)]⟩ .done)))))))))) (.op ⟨some 60, some (52, true), .ex (.slc 1 true false false) [.s 59, .k (.int .i64 16)]⟩ (.op ⟨some 57, some (52, true), .callf 155 [.s 56]⟩ (.op ⟨some 58, some (52, true), .ex (.ibin .or) [.s 54, .s 57]⟩ (.op ⟨some 61, some (52, true), .callf 155 [.s 60]⟩ (.op ⟨some 64, some (52, true), .callf 155 [.s 63]⟩ (.op ⟨some 65, some (52, true), .ex (.ibin .or) [.s 61, .s 64]⟩ (.op ⟨some 66, some (52, true), .ex (.ibin .or) [.s 58, .s 65]⟩ (.op ⟨some 67, some (52, true), .ex (.ibin .and) [.s 66, .k (.int .u64 9259542123273814144)]⟩ (.op ⟨some 68, some (52, true), .ex (.ibin .eql) [.s 67, .k (.int .u64 0)]⟩ (.op ⟨some 69, none, .ex (.pick) [.s 52, .s 68, .k (.bool false)]⟩ .done))))))))))))) (.fork (.op ⟨some 56, some (52, true), .ex (.slc 1 true false false) [.s 55, .k (.int .i64 8)]⟩ (.fork (.op ⟨some 54, some (52, true), .callf 155 [.s 53]⟩ (.fork (.op ⟨some 57, some (52, true), .callf 155 [.s 56]⟩ (.op ⟨some 58, some (52, true), .ex (.ibin .or) [.s 54, .s 57]⟩ (.op ⟨some 60, some (52, true), .ex (.slc 1 true false false) [.s 59, .k (.int .i64 16)]⟩ (.op ⟨some 61, some (52, true), .callf 155 [.s 60]⟩ (.op ⟨some 64, some (52, true), .callf 155 [.s 63]⟩ (.op ⟨some 65, some (52, true), .ex (.ibin .or) [.s 61, .s 64]⟩ (.op ⟨some 66, some (52, true), .ex (.ibin .or) [.s 58, .s 65]⟩ (.op ⟨some 67, some (52, true), .ex (.ibin .and) [.s 66, .k (.int .u64 9259542123273814144)]⟩ (.op ⟨some 68, some (52, true), .ex (.ibin .eql) [.s 67, .k (.int .u64 0)]⟩ (.op ⟨some 69, none, .ex (.pick) [.s 52, .s 68, .k (.bool false)]⟩ .done)))))))))) (.op ⟨some 60, some (52, true), .ex (.slc 1 true false false) [.s 59, .k (.int .i64 16)]⟩ (.op ⟨some 57, some (52, true), .callf 155 [.s 56]⟩ (.op ⟨some 58, some (52, true), .ex (.ibin .or) [.s 54, .s 57]⟩ (.op ⟨some 61, some (52, true), .callf 155 [.s 60]⟩ (.op ⟨some 64, some (52, true), .callf 155 [.s 63]⟩ (.op ⟨some 65, some (52, true), .ex (.ibin .or) [.s 61, .s 64]⟩ (.op ⟨some 66, some (52, true), .ex (.ibin .or) [.s 58, .s 65]⟩ (.op ⟨some 67, some (52, true), .ex (.ibin .and) [.s 66, .k (.int .u64 9259542123273814144)]⟩ (.op ⟨some 68, some (52, true), .ex (.ibin .eql) [.s 67, .k (.int .u64 0)]⟩ (.op ⟨some 69, none, .ex (.pick) [.s 52, .s 68, .k (.bool false)]⟩ .done)))))))))))) (.op ⟨some 60, some (52, true), .ex (.slc 1 true false false) [.s 59, .k (.int .i64 16)]⟩ (.op ⟨some 54, some (52, true), .callf 155 [.s 53]⟩ (.op ⟨some 57, some (52, true), .callf 155 [.s 56]⟩ (.op ⟨some 58, some (52, true), .ex (.ibin .or) [.s 54, .s 57]⟩ (.op ⟨some 61, some (52, true), .callf 155 [.s 60]⟩ (.op ⟨some 64, some (52, true), .callf 155 [.s 63]⟩ (.op ⟨some 65, some (52, true), .ex (.ibin .or) [.s 61, .s 64]⟩ (.op ⟨some 66, some (52, true), .ex (.ibin .or) [.s 58, .s 65]⟩ (.op ⟨some 67, some (52, true), .ex (.ibin .and) [.s 66, .k (.int .u64 9259542123273814144)]⟩ (.op ⟨some 68, some (52, true), .ex (.ibin .eql) [.s 67, .k (.int .u64 0)]⟩ (.op ⟨some 69, none, .ex (.pick) [.s 52, .s 68, .k (.bool false)]⟩ .done))))))))))))) (.op ⟨some 60, some (52, true), .ex (.slc 1 true false false) [.s 59, .k (.int .i64 16)]⟩ (.fork (.op ⟨some 54, some (52, true), .callf 155 [.s 53]⟩ (.op ⟨some 56, some (52, true), .ex (.slc 1 true false false) [.s 55, .k (.int .i64 8)]⟩ (.op ⟨some 57, some (52, true), .callf 155 [.s 56]⟩ (.op ⟨some 58, some (52, true), .ex (.ibin .or) [.s 54, .s 57]⟩ (.op ⟨some 61, some (52, true), .callf 155 [.s 60]⟩ (.op ⟨some 64, some (52, true), .callf 155 [.s 63]⟩ (.op ⟨some 65, some (52, true), .ex (.ibin .or) [.s 61, .s 64]⟩ (.op ⟨some 66, some (52, true), .ex (.ibin .or) [.s 58, .s 65]⟩ (.op ⟨some 67, some (52, true), .ex (.ibin .and) [.s 66, .k (.int .u64 9259542123273814144)]⟩ (.op ⟨some 68, some (52, true), .ex (.ibin .eql) [.s 67, .k (.int .u64 0)]⟩ (.op ⟨some 69, none, .ex (.pick) [.s 52, .s 68, .k (.bool false)]⟩ .done))))))))))) (.op ⟨some 56, some (52, true), .ex (.slc 1 true false false) [.s 55, .k (.int .i64 8)]⟩ (.op ⟨some 54, some (52, true), .callf 155 [.s 53]⟩ (.op ⟨some 57, some (52, true), .callf 155 [.s 56]⟩ (.op ⟨some 58, some (52, true), .ex (.ibin .or) [.s 54, .s 57]⟩ (.op ⟨some 61, some (52, true), .callf 155 [.s 60]⟩ (.op ⟨some 64, some (52, true), .callf 155 [.s 63]⟩ (.op ⟨some 65, some (52, true), .ex (.ibin .or) [.s 61, .s 64]⟩ (.op ⟨some 66, some (52, true), .ex (.ibin .or) [.s 58, .s 65]⟩ (.op ⟨some 67, some (52, true), .ex (.ibin .and) [.s 66, .k (.int .u64 9259542123273814144)]⟩ (.op ⟨some 68, some (52, true), .ex (.ibin .eql) [.s 67, .k (.int .u64 0)]⟩ (.op ⟨some 69, none, .ex (.pick) [.s 52, .s 68, .k (.bool false)]⟩ .done))))))))))))))))))))))))))))
                        (.cond (.s 69)
                         .skip
                         (.exit 2)))
                       (.block 3
                        (.region [⟨some 70, none, .ex (.mov) [.s 0]⟩,
                          ⟨some 71, none, .ex (.slc 1 true false false) [.s 70, .k (.int .i64 32)]⟩,
                          ⟨some 0, none, .ex (.mov) [.s 71]⟩]))))))
                   .skip)))
                .skip))
              (.exit 1)))
            .skip))
          (.seq
           (.region [⟨some 72, none, .ex (.mov) [.s 3]⟩,
             ⟨some 73, none, .ex (.iar 256 1) [.g 1, .s 72]⟩,
             ⟨some 74, none, .ex (.ld 1) [.s 73]⟩,
             ⟨some 4, none, .ex (.mov) [.s 74]⟩])
           (.seq
            (.region [⟨some 75, none, .ex (.mov) [.s 4]⟩,
              ⟨some 76, none, .ex (.ibin .and) [.s 75, .k (.int .u8 7)]⟩,
              ⟨some 77, none, .ex (.toInt .i64) [.s 76]⟩,
              ⟨some 5, none, .ex (.mov) [.s 77]⟩])
            (.seq
             (.region [⟨some 78, none, .ex (.mov) [.s 4]⟩,
               ⟨some 79, none, .ex (.ibin .shr) [.s 78, .k (.int .u64 4)]⟩,
               ⟨some 80, none, .ex (.iar 16 2) [.g 2, .s 79]⟩,
               ⟨some 81, none, .ex (.lda 2) [.s 80]⟩,
               ⟨some 6, none, .ex (.alloc [(.int .u8 0), (.int .u8 0)]) []⟩,
               ⟨none, none, .ex (.st 2) [.s 6, .s 81]⟩])
             (.seq
              (.region [⟨some 82, none, .ex (.mov) [.s 5]⟩])
              (.block 4
               (.seq
                (.region [⟨some 84, none, .ex (.ibin .eql) [.s 82, .k (.int .i64 2)]⟩,
                  ⟨some 83, none, .ex (.mov) [.s 84]⟩])
                (.cond (.s 83)
                 (.seq
                  (.seq
                   (.draw (.op ⟨some 85, none, .ex (.mov) [.s 0]⟩ (.op ⟨some 86, none, .ex (.len) [.s 85]⟩ (.op ⟨some 87, none, .ex (.ibin .lss) [.s 86, .k (.int .i64 2)]⟩ (.op ⟨some 88, none, .ex (.mov) [.s 87]⟩ (.op ⟨some 89, some (88, false), .ex (.mov) [.s 0]⟩ (.op ⟨some 90, some (88, false), .ex (.ia 1) [.s 89, .k (.int .i64 1)]⟩ (.op ⟨some 91, some (88, false), .ex (.ld 1) [.s 90]⟩ (.op ⟨some 92, some (88, false), .ex (.fa 0) [.s 6]⟩ (.op ⟨some 93, some (88, false), .ex (.ld 1) [.s 92]⟩ (.op ⟨some 94, some (88, false), .ex (.ibin .lss) [.s 91, .s 93]⟩ (.op ⟨some 95, none, .ex (.pick) [.s 88, .k (.bool true), .s 94]⟩ (.op ⟨some 96, none, .ex (.mov) [.s 95]⟩ (.op ⟨some 97, some (96, false), .ex (.fa 1) [.s 6]⟩ (.op ⟨some 98, some (96, false), .ex (.ld 1) [.s 97]⟩ (.op ⟨some 99, some (96, false), .ex (.mov) [.s 0]⟩ (.op ⟨some 100, some (96, false), .ex (.ia 1) [.s 99, .k (.int .i64 1)]⟩ (.op ⟨some 101, some (96, false), .ex (.ld 1) [.s 100]⟩ (.op ⟨some 102, some (96, false), .ex (.ibin .lss) [.s 98, .s 101]⟩ (.op ⟨some 103, none, .ex (.pick) [.s 96, .k (.bool true), .s 102]⟩ .done))))))))))))))))))))
                   (.cond (.s 103)
                    (.seq
                     (.region [⟨some 2, none, .ex (.mov) [.k (.bool false)]⟩])
                     .ret)
                    .skip))
                  (.region [⟨some 104, none, .ex (.mov) [.s 0]⟩,
                    ⟨some 105, none, .ex (.slc 1 true false false) [.s 104, .k (.int .i64 2)]⟩,
                    ⟨some 0, none, .ex (.mov) [.s 105]⟩]))
                 (.seq
                  (.region [⟨some 107, none, .ex (.ibin .eql) [.s 82, .k (.int .i64 3)]⟩,
                    ⟨some 106, none, .ex (.mov) [.s 107]⟩])
                  (.cond (.s 106)
                   (.seq
                    (.seq
                     (.draw (.op ⟨some 108, none, .ex (.mov) [.s 0]⟩ (.op ⟨some 109, none, .ex (.len) [.s 108]⟩ (.op ⟨some 110, none, .ex (.ibin .lss) [.s 109, .k (.int .i64 3)]⟩ (.op ⟨some 111, none, .ex (.mov) [.s 110]⟩ (.op ⟨some 112, some (111, false), .ex (.mov) [.s 0]⟩ (.op ⟨some 113, some (111, false), .ex (.ia 1) [.s 112, .k (.int .i64 1)]⟩ (.op ⟨some 114, some (111, false), .ex (.ld 1) [.s 113]⟩ (.op ⟨some 115, some (111, false), .ex (.fa 0) [.s 6]⟩ (.op ⟨some 116, some (111, false), .ex (.ld 1) [.s 115]⟩ (.op ⟨some 117, some (111, false), .ex (.ibin .lss) [.s 114, .s 116]⟩ (.op ⟨some 118, none, .ex (.pick) [.s 111, .k (.bool true), .s 117]⟩ (.op ⟨some 119, none, .ex (.mov) [.s 118]⟩ (.op ⟨some 120, some (119, false), .ex (.fa 1) [.s 6]⟩ (.op ⟨some 121, some (119, false), .ex (.ld 1) [.s 120]⟩ (.op ⟨some 122, some (119, false), .ex (.mov) [.s 0]⟩ (.op ⟨some 123, some (119, false), .ex (.ia 1) [.s 122, .k (.int .i64 1)]⟩ (.op ⟨some 124, some (119, false), .ex (.ld 1) [.s 123]⟩ (.op ⟨some 125, some (119, false), .ex (.ibin .lss) [.s 121, .s 124]⟩ (.op ⟨some 126, none, .ex (.pick) [.s 119, .k (.bool true), .s 125]⟩ (.op ⟨some 127, none, .ex (.mov) [.s 126]⟩ (.op ⟨some 128, some (127, false), .ex (.mov) [.s 0]⟩ (.op ⟨some 129, some (127, false), .ex (.ia 1) [.s 128, .k (.int .i64 2)]⟩ (.op ⟨some 130, some (127, false), .ex (.ld 1) [.s 129]⟩ (.op ⟨some 131, some (127, false), .ex (.ibin .lss) [.s 130, .k (.int .u8 128)]⟩ (.op ⟨some 132, none, .ex (.pick) [.s 127, .k (.bool true), .s 131]⟩ (.op ⟨some 133, none, .ex (.mov) [.s 132]⟩ (.op ⟨some 134, some (133, false), .ex (.mov) [.s 0]⟩ (.op ⟨some 135, some (133, false), .ex (.ia 1) [.s 134, .k (.int .i64 2)]⟩ (.op ⟨some 136, some (133, false), .ex (.ld 1) [.s 135]⟩ (.op ⟨some 137, some (133, false), .ex (.ibin .lss) [.k (.int .u8 191), .s 136]⟩ (.op ⟨some 138, none, .ex (.pick) [.s 133, .k (.bool true), .s 137]⟩ .done))))))))))))))))))))))))))))))))
                     (.cond (.s 138)
                      (.seq
                       (.region [⟨some 2, none, .ex (.mov) [.k (.bool false)]⟩])
                       .ret)
                      .skip))
                    (.region [⟨some 139, none, .ex (.mov) [.s 0]⟩,
                      ⟨some 140, none, .ex (.slc 1 true false false) [.s 139, .k (.int .i64 3)]⟩,
                      ⟨some 0, none, .ex (.mov) [.s 140]⟩]))
                   (.seq
                    (.region [⟨some 142, none, .ex (.ibin .eql) [.s 82, .k (.int .i64 4)]⟩,
                      ⟨some 141, none, .ex (.mov) [.s 142]⟩])
                    (.cond (.s 141)
                     (.seq
                      (.seq
                       (.draw (.op ⟨some 143, none, .ex (.mov) [.s 0]⟩ (.op ⟨some 144, none, .ex (.len) [.s 143]⟩ (.op ⟨some 145, none, .ex (.ibin .lss) [.s 144, .k (.int .i64 4)]⟩ (.op ⟨some 146, none, .ex (.mov) [.s 145]⟩ (.op ⟨some 147, some (146, false), .ex (.mov) [.s 0]⟩ (.op ⟨some 148, some (146, false), .ex (.ia 1) [.s 147, .k (.int .i64 1)]⟩ (.op ⟨some 149, some (146, false), .ex (.ld 1) [.s 148]⟩ (.op ⟨some 150, some (146, false), .ex (.fa 0) [.s 6]⟩ (.op ⟨some 151, some (146, false), .ex (.ld 1) [.s 150]⟩ (.op ⟨some 152, some (146, false), .ex (.ibin .lss) [.s 149, .s 151]⟩ (.op ⟨some 153, none, .ex (.pick) [.s 146, .k (.bool true), .s 152]⟩ (.op ⟨some 154, none, .ex (.mov) [.s 153]⟩ (.op ⟨some 155, some (154, false), .ex (.fa 1) [.s 6]⟩ (.op ⟨some 156, some (154, false), .ex (.ld 1) [.s 155]⟩ (.op ⟨some 157, some (154, false), .ex (.mov) [.s 0]⟩ (.op ⟨some 158, some (154, false), .ex (.ia 1) [.s 157, .k (.int .i64 1)]⟩ (.op ⟨some 159, some (154, false), .ex (.ld 1) [.s 158]⟩ (.op ⟨some 160, some (154, false), .ex (.ibin .lss) [.s 156, .s 159]⟩ (.op ⟨some 161, none, .ex (.pick) [.s 154, .k (.bool true), .s 160]⟩ (.op ⟨some 162, none, .ex (.mov) [.s 161]⟩ (.op ⟨some 163, some (162, false), .ex (.mov) [.s 0]⟩ (.op ⟨some 164, some (162, false), .ex (.ia 1) [.s 163, .k (.int .i64 2)]⟩ (.op ⟨some 165, some (162, false), .ex (.ld 1) [.s 164]⟩ (.op ⟨some 166, some (162, false), .ex (.ibin .lss) [.s 165, .k (.int .u8 128)]⟩ (.op ⟨some 167, none, .ex (.pick) [.s 162, .k (.bool true), .s 166]⟩ (.op ⟨some 168, none, .ex (.mov) [.s 167]⟩ (.op ⟨some 169, some (168, false), .ex (.mov) [.s 0]⟩ (.op ⟨some 170, some (168, false), .ex (.ia 1) [.s 169, .k (.int .i64 2)]⟩ (.op ⟨some 171, some (168, false), .ex (.ld 1) [.s 170]⟩ (.op ⟨some 172, some (168, false), .ex (.ibin .lss) [.k (.int .u8 191), .s 171]⟩ (.op ⟨some 173, none, .ex (.pick) [.s 168, .k (.bool true), .s 172]⟩ (.op ⟨some 174, none, .ex (.mov) [.s 173]⟩ (.op ⟨some 175, some (174, false), .ex (.mov) [.s 0]⟩ (.op ⟨some 176, some (174, false), .ex (.ia 1) [.s 175, .k (.int .i64 3)]⟩ (.op ⟨some 177, some (174, false), .ex (.ld 1) [.s 176]⟩ (.op ⟨some 178, some (174, false), .ex (.ibin .lss) [.s 177, .k (.int .u8 128)]⟩ (.op ⟨some 179, none, .ex (.pick) [.s 174, .k (.bool true), .s 178]⟩ (.op ⟨some 180, none, .ex (.mov) [.s 179]⟩ (.op ⟨some 181, some (180, false), .ex (.mov) [.s 0]⟩ (.op ⟨some 182, some (180, false), .ex (.ia 1) [.s 181, .k (.int .i64 3)]⟩ (.op ⟨some 183, some (180, false), .ex (.ld 1) [.s 182]⟩ (.op ⟨some 184, some (180, false), .ex (.ibin .lss) [.k (.int .u8 191), .s 183]⟩ (.op ⟨some 185, none, .ex (.pick) [.s 180, .k (.bool true), .s 184]⟩ .done))))))))))))))))))))))))))))))))))))))))))))
                       (.cond (.s 185)
                        (.seq
                         (.region [⟨some 2, none, .ex (.mov) [.k (.bool false)]⟩])
                         .ret)
                        .skip))
                      (.region [⟨some 186, none, .ex (.mov) [.s 0]⟩,
                        ⟨some 187, none, .ex (.slc 1 true false false) [.s 186, .k (.int .i64 4)]⟩,
                        ⟨some 0, none, .ex (.mov) [.s 187]⟩]))
                     (.seq
                      (.region [⟨some 2, none, .ex (.mov) [.k (.bool false)]⟩])
                      .ret))))))))))))))))))
    (.seq
     (.region [⟨some 2, none, .ex (.mov) [.k (.bool true)]⟩])
     .ret)))),
 [.t 2]⟩
theorem c154 : compFn Go.Proofs.Tryz.prog 154 = some fn154 := by kernel_rfl

/-- unicode/utf8.word[[]byte] -/
def fn155 : AFn := ⟨71,
 (.seq
  (.region [⟨some 2, none, .ex (.mov) [.k (.int .u64 0)]⟩])
  (.seq
   (.cond (.k (.bool false))
    (.seq
     (.draw (.op ⟨some 3, none, .ex (.mov) [.s 0]⟩ (.op ⟨some 4, none, .ex (.ia 1) [.s 3, .k (.int .i64 0)]⟩ (.op ⟨some 5, none, .ex (.ld 1) [.s 4]⟩ (.op ⟨some 6, none, .ex (.toInt .u64) [.s 5]⟩ (.op ⟨some 7, none, .ex (.mov) [.s 0]⟩ (.op ⟨some 8, none, .ex (.ia 1) [.s 7, .k (.int .i64 1)]⟩ (.op ⟨some 9, none, .ex (.ld 1) [.s 8]⟩ (.op ⟨some 10, none, .ex (.toInt .u64) [.s 9]⟩ (.op ⟨some 11, none, .ex (.ibin .shl) [.s 10, .k (.int .u64 8)]⟩ (.op ⟨some 12, none, .ex (.ibin .or) [.s 6, .s 11]⟩ (.op ⟨some 13, none, .ex (.mov) [.s 0]⟩ (.op ⟨some 14, none, .ex (.ia 1) [.s 13, .k (.int .i64 2)]⟩ (.op ⟨some 15, none, .ex (.ld 1) [.s 14]⟩ (.op ⟨some 16, none, .ex (.toInt .u64) [.s 15]⟩ (.op ⟨some 17, none, .ex (.ibin .shl) [.s 16, .k (.int .u64 16)]⟩ (.op ⟨some 18, none, .ex (.ibin .or) [.s 12, .s 17]⟩ (.op ⟨some 19, none, .ex (.mov) [.s 0]⟩ (.op ⟨some 20, none, .ex (.ia 1) [.s 19, .k (.int .i64 3)]⟩ (.op ⟨some 21, none, .ex (.ld 1) [.s 20]⟩ (.op ⟨some 22, none, .ex (.toInt .u64) [.s 21]⟩ (.op ⟨some 23, none, .ex (.ibin .shl) [.s 22, .k (.int .u64 24)]⟩ (.op ⟨some 24, none, .ex (.ibin .or) [.s 18, .s 23]⟩ (.op ⟨some 2, none, .ex (.mov) [.s 24]⟩ .done))))))))))))))))))))))))
     .ret)
    .skip)
   (.seq
    (.draw (.op ⟨some 25, none, .ex (.mov) [.s 0]⟩ (.op ⟨some 26, none, .ex (.ia 1) [.s 25, .k (.int .i64 0)]⟩ (.op ⟨some 27, none, .ex (.ld 1) [.s 26]⟩ (.op ⟨some 28, none, .ex (.toInt .u64) [.s 27]⟩ (.op ⟨some 29, none, .ex (.mov) [.s 0]⟩ (.op ⟨some 30, none, .ex (.ia 1) [.s 29, .k (.int .i64 1)]⟩ (.op ⟨some 31, none, .ex (.ld 1) [.s 30]⟩ (.op ⟨some 32, none, .ex (.toInt .u64) [.s 31]⟩ (.op ⟨some 33, none, .ex (.ibin .shl) [.s 32, .k (.int .u64 8)]⟩ (.op ⟨some 34, none, .ex (.ibin .or) [.s 28, .s 33]⟩ (.op ⟨some 35, none, .ex (.mov) [.s 0]⟩ (.op ⟨some 36, none, .ex (.ia 1) [.s 35, .k (.int .i64 2)]⟩ (.op ⟨some 37, none, .ex (.ld 1) [.s 36]⟩ (.op ⟨some 38, none, .ex (.toInt .u64) [.s 37]⟩ (.op ⟨some 39, none, .ex (.ibin .shl) [.s 38, .k (.int .u64 16)]⟩ (.op ⟨some 40, none, .ex (.ibin .or) [.s 34, .s 39]⟩ (.op ⟨some 41, none, .ex (.mov) [.s 0]⟩ (.op ⟨some 42, none, .ex (.ia 1) [.s 41, .k (.int .i64 3)]⟩ (.op ⟨some 43, none, .ex (.ld 1) [.s 42]⟩ (.op ⟨some 44, none, .ex (.toInt .u64) [.s 43]⟩ (.op ⟨some 45, none, .ex (.ibin .shl) [.s 44, .k (.int .u64 24)]⟩ (.op ⟨some 46, none, .ex (.ibin .or) [.s 40, .s 45]⟩ (.op ⟨some 47, none, .ex (.mov) [.s 0]⟩ (.op ⟨some 48, none, .ex (.ia 1) [.s 47, .k (.int .i64 4)]⟩ (.op ⟨some 49, none, .ex (.ld 1) [.s 48]⟩ (.op ⟨some 50, none, .ex (.toInt .u64) [.s 49]⟩ (.op ⟨some 51, none, .ex (.ibin .shl) [.s 50, .k (.int .u64 32)]⟩ (.op ⟨some 52, none, .ex (.ibin .or) [.s 46, .s 51]⟩ (.op ⟨some 53, none, .ex (.mov) [.s 0]⟩ (.op ⟨some 54, none, .ex (.ia 1) [.s 53, .k (.int .i64 5)]⟩ (.op ⟨some 55, none, .ex (.ld 1) [.s 54]⟩ (.op ⟨some 56, none, .ex (.toInt .u64) [.s 55]⟩ (.op ⟨some 57, none, .ex (.ibin .shl) [.s 56, .k (.int .u64 40)]⟩ (.op ⟨some 58, none, .ex (.ibin .or) [.s 52, .s 57]⟩ (.op ⟨some 59, none, .ex (.mov) [.s 0]⟩ (.op ⟨some 60, none, .ex (.ia 1) [.s 59, .k (.int .i64 6)]⟩ (.op ⟨some 61, none, .ex (.ld 1) [.s 60]⟩ (.op ⟨some 62, none, .ex (.toInt .u64) [.s 61]⟩ (.op ⟨some 63, none, .ex (.ibin .shl) [.s 62, .k (.int .u64 48)]⟩ (.op ⟨some 64, none, .ex (.ibin .or) [.s 58, .s 63]⟩ (.op ⟨some 65, none, .ex (.mov) [.s 0]⟩ (.op ⟨some 66, none, .ex (.ia 1) [.s 65, .k (.int .i64 7)]⟩ (.op ⟨some 67, none, .ex (.ld 1) [.s 66]⟩ (.op ⟨some 68, none, .ex (.toInt .u64) [.s 67]⟩ (.op ⟨some 69, none, .ex (.ibin .shl) [.s 68, .k (.int .u64 56)]⟩ (.op ⟨some 70, none, .ex (.ibin .or) [.s 64, .s 69]⟩ (.op ⟨some 2, none, .ex (.mov) [.s 70]⟩ .done))))))))))))))))))))))))))))))))))))))))))))))))
    .ret))),
 [.t 2]⟩
theorem c155 : compFn Go.Proofs.Tryz.prog 155 = some fn155 := by kernel_rfl

end Go.Proofs.YtkmaikggdbielaaGreatDoor.Fw

/- utf8.word: eight bytes. No condition. -/
namespace Go.Proofs.YtkmaikggdbielaaGreatDoor.Fw
open Go
set_option linter.unusedSimpArgs false
set_option linter.unusedVariables false

theorem x_toInt (k j : IntKind) (n : Int) (H : Heap) : exec (.toInt k) [.int j n] H = some (.int k (k.wrap n), H) := rfl
def shl64 (a b : Int) : Int := IntKind.u64.wrap (a * 2 ^ (min b.toNat 64))
def or64 (a b : Int) : Int := IntKind.u64.wrap (BitVec.ofInt 64 a ||| BitVec.ofInt 64 b).toNat
def and64 (a b : Int) : Int := IntKind.u64.wrap (BitVec.ofInt 64 a &&& BitVec.ofInt 64 b).toNat
theorem x_shl (a b : Int) (hb : 0 ≤ b) (H : Heap) : exec (.ibin .shl) [.int .u64 a, .int .u64 b] H = some (.int .u64 (shl64 a b), H) := by
  simp only [exec, ibin, intSh]
  rw [if_neg (by omega)]
  rfl
theorem x_or (a b : Int) (H : Heap) : exec (.ibin .or) [.int .u64 a, .int .u64 b] H = some (.int .u64 (or64 a b), H) := rfl
theorem x_and (a b : Int) (H : Heap) : exec (.ibin .and) [.int .u64 a, .int .u64 b] H = some (.int .u64 (and64 a b), H) := rfl
def byteAt (bs : List Int) (i : Nat) : Int := IntKind.u64.wrap (bs.getD i 0)
def wordF (bs : List Int) : Int := or64 (or64 (or64 (or64 (or64 (or64 (or64 (byteAt bs 0) (shl64 (byteAt bs 1) 8)) (shl64 (byteAt bs 2) 16)) (shl64 (byteAt bs 3) 24)) (shl64 (byteAt bs 4) 32)) (shl64 (byteAt bs 5) 40)) (shl64 (byteAt bs 6) 48)) (shl64 (byteAt bs 7) 56)
theorem byte_ia {p : V} {H : Heap} {bs : List Int} (hp : SL H p 1 (bs.map fun b => [V.int .u8 b])) {i : Nat} (hi : i < bs.length) :
    ∃ id o, exec (.ia 1) [p, .int .i64 i] H = some (.ptr id o, H) ∧ exec (.ld 1) [.ptr id o] H = some (.int .u8 (bs.getD i 0), H) := by
  have hg : (bs.map fun b => [V.int .u8 b])[i]? = some [V.int .u8 (bs.getD i 0)] := by simp [List.getD_eq_getElem?_getD, hi]
  obtain ⟨id, o, h1, h2⟩ := hp.ia (H' := H) hg .i64
  have h3 := h2.ld (j := 0) rfl 1
  rw [Nat.add_zero] at h3
  exact ⟨id, o, h1, h3⟩
set_option maxRecDepth 20000 in
set_option maxHeartbeats 1000000 in
theorem word_calls {p : V} {H : Heap} {bs : List Int} (hp : SL H p 1 (bs.map fun b => [V.int .u8 b])) (hl : 8 ≤ bs.length) : SCalls PP 155 [p] H fun r H' => H' = H ∧ r = .int .u64 (wordF bs) := by
  refine SCalls.go c155 (by simp [fn155]) fun hw => ?_
  obtain ⟨i0, o0, a0', d0⟩ := byte_ia hp (i := 0) (by omega)
  have a0 : exec (.ia 1) [p, .int .i64 0] H = some (.ptr i0 o0, H) := a0'
  obtain ⟨i1, o1, a1', d1⟩ := byte_ia hp (i := 1) (by omega)
  have a1 : exec (.ia 1) [p, .int .i64 1] H = some (.ptr i1 o1, H) := a1'
  obtain ⟨i2, o2, a2', d2⟩ := byte_ia hp (i := 2) (by omega)
  have a2 : exec (.ia 1) [p, .int .i64 2] H = some (.ptr i2 o2, H) := a2'
  obtain ⟨i3, o3, a3', d3⟩ := byte_ia hp (i := 3) (by omega)
  have a3 : exec (.ia 1) [p, .int .i64 3] H = some (.ptr i3 o3, H) := a3'
  obtain ⟨i4, o4, a4', d4⟩ := byte_ia hp (i := 4) (by omega)
  have a4 : exec (.ia 1) [p, .int .i64 4] H = some (.ptr i4 o4, H) := a4'
  obtain ⟨i5, o5, a5', d5⟩ := byte_ia hp (i := 5) (by omega)
  have a5 : exec (.ia 1) [p, .int .i64 5] H = some (.ptr i5 o5, H) := a5'
  obtain ⟨i6, o6, a6', d6⟩ := byte_ia hp (i := 6) (by omega)
  have a6 : exec (.ia 1) [p, .int .i64 6] H = some (.ptr i6 o6, H) := a6'
  obtain ⟨i7, o7, a7', d7⟩ := byte_ia hp (i := 7) (by omega)
  have a7 : exec (.ia 1) [p, .int .i64 7] H = some (.ptr i7 o7, H) := a7'
  have s8 : ∀ a G, exec (.ibin .shl) [.int .u64 a, .int .u64 8] G = some (.int .u64 (shl64 a 8), G) := fun a G => x_shl a 8 (by decide) G
  have s16 : ∀ a G, exec (.ibin .shl) [.int .u64 a, .int .u64 16] G = some (.int .u64 (shl64 a 16), G) := fun a G => x_shl a 16 (by decide) G
  have s24 : ∀ a G, exec (.ibin .shl) [.int .u64 a, .int .u64 24] G = some (.int .u64 (shl64 a 24), G) := fun a G => x_shl a 24 (by decide) G
  have s32 : ∀ a G, exec (.ibin .shl) [.int .u64 a, .int .u64 32] G = some (.int .u64 (shl64 a 32), G) := fun a G => x_shl a 32 (by decide) G
  have s40 : ∀ a G, exec (.ibin .shl) [.int .u64 a, .int .u64 40] G = some (.int .u64 (shl64 a 40), G) := fun a G => x_shl a 40 (by decide) G
  have s48 : ∀ a G, exec (.ibin .shl) [.int .u64 a, .int .u64 48] G = some (.int .u64 (shl64 a 48), G) := fun a G => x_shl a 48 (by decide) G
  have s56 : ∀ a G, exec (.ibin .shl) [.int .u64 a, .int .u64 56] G = some (.int .u64 (shl64 a 56), G) := fun a G => x_shl a 56 (by decide) G
  simp only [fn155, enterFr, List.length, List.range, List.range.loop, List.zip, List.zipWith, stp, if_true, if_false, Int.reduceEq, Int.reduceLT, Int.reduceLE, Int.reduceGT, Int.reduceGE, reduceCtorEq, Nat.reduceEqDiff, List.getElem?_cons_zero, List.getElem?_cons_succ, Option.map_some, a0, d0, a1, d1, a2, d2, a3, d3, a4, d4, a5, d5, a6, d6, a7, d7, s8, s16, s24, s32, s40, s48, s56, x_toInt, x_or]
  exact ⟨by trivial, rfl⟩
end Go.Proofs.YtkmaikggdbielaaGreatDoor.Fw

/- utf8.Valid: what it answers. No condition. -/
namespace Go.Proofs.YtkmaikggdbielaaGreatDoor.Fw
open Go
set_option linter.unusedSimpArgs false
set_option linter.unusedVariables false

abbrev hi64 : Int := 9259542123273814144
def skip32 : Nat → List Int → List Int
  | 0, bs => bs
  | n + 1, bs => if 32 < bs.length ∧ and64 (or64 (or64 (wordF bs) (wordF (bs.drop 8))) (or64 (wordF (bs.drop 16)) (wordF (bs.drop 24)))) hi64 = 0 then skip32 n (bs.drop 32) else bs
theorem skip32_stop {bs : List Int} (h : ¬ (32 < bs.length ∧ and64 (or64 (or64 (wordF bs) (wordF (bs.drop 8))) (or64 (wordF (bs.drop 16)) (wordF (bs.drop 24)))) hi64 = 0)) : ∀ n, skip32 n bs = bs
  | 0 => rfl
  | n + 1 => by rw [skip32, if_neg h]
/-- Behind one ASCII byte. -/
def skipA (bs : List Int) : List Int :=
  if 8 < bs.length ∧ and64 (wordF bs) hi64 = 0 then
    if 16 < (bs.drop 8).length ∧ and64 (or64 (wordF (bs.drop 8)) (wordF ((bs.drop 8).drop 8))) hi64 = 0 then skip32 ((bs.drop 8).drop 16).length ((bs.drop 8).drop 16) else bs.drop 8
  else bs
theorem skip32_len : ∀ (n : Nat) (bs : List Int), (skip32 n bs).length ≤ bs.length
  | 0, bs => Nat.le_refl _
  | n + 1, bs => by
    rw [skip32]
    split
    · exact Nat.le_trans (skip32_len n _) (by simp)
    · exact Nat.le_refl _
theorem skipA_len (bs : List Int) : (skipA bs).length ≤ bs.length := by
  rw [skipA]
  split
  · split
    · exact Nat.le_trans (skip32_len _ _) (by simp)
    · simp
  · exact Nat.le_refl _

theorem x_and8 (a b : Int) (H : Heap) : exec (.ibin .and) [.int .u8 a, .int .u8 b] H = some (.int .u8 (IntKind.u8.wrap (BitVec.ofInt 8 a &&& BitVec.ofInt 8 b).toNat), H) := rfl
def sizeT (b : Int) : Int := IntKind.i64.wrap (IntKind.u8.wrap (BitVec.ofInt 8 (firstT.getD b.toNat 0) &&& BitVec.ofInt 8 7).toNat)
def accI (b : Int) : Int := (firstT.getD b.toNat 0).fdiv 16
theorem x_shr8 (a : Int) (H : Heap) : exec (.ibin .shr) [.int .u8 a, .int .u64 4] H = some (.int .u8 (a.fdiv 16), H) := rfl
theorem accI_fin : ∀ n : Fin 256, 0 ≤ accI (n.val : Int) ∧ accI (n.val : Int) < 16 := by decide +kernel
theorem accI_lt {b : Int} (h0 : 0 ≤ b) (h1 : b < 256) : 0 ≤ accI b ∧ accI b < 16 := by
  have := accI_fin ⟨b.toNat, by omega⟩
  have e : ((b.toNat : Nat) : Int) = b := by omega
  simpa only [e] using this
def loT (b : Int) : Int := accT.getD ((accI b).toNat * 2) 0
def hiT (b : Int) : Int := accT.getD ((accI b).toNat * 2 + 1) 0

/-- One round. -/
def vStep (b0 : Int) (bs : List Int) : Option (List Int) :=
  if b0 < 128 then some (skipA (bs.drop 1))
  else if sizeT b0 = 2 then
    if bs.length < 2 ∨ bs.getD 1 0 < loT b0 ∨ hiT b0 < bs.getD 1 0 then none else some (bs.drop 2)
  else if sizeT b0 = 3 then
    if bs.length < 3 ∨ bs.getD 1 0 < loT b0 ∨ hiT b0 < bs.getD 1 0 ∨ bs.getD 2 0 < 128 ∨ 191 < bs.getD 2 0 then none else some (bs.drop 3)
  else if sizeT b0 = 4 then
    if bs.length < 4 ∨ bs.getD 1 0 < loT b0 ∨ hiT b0 < bs.getD 1 0 ∨ bs.getD 2 0 < 128 ∨ 191 < bs.getD 2 0 ∨ bs.getD 3 0 < 128 ∨ 191 < bs.getD 3 0 then none else some (bs.drop 4)
  else none
def vF : Nat → List Int → Bool
  | 0, _ => true
  | _, [] => true
  | n + 1, b0 :: bs => match vStep b0 (b0 :: bs) with
    | some r => vF n r
    | none => false
theorem vF_nil (n : Nat) : vF n [] = true := by cases n <;> rfl

theorem At.sub {H : Heap} {id o : Nat} {e e' : List V} (h : At H id o e) (k : Nat) (hl : k + e'.length ≤ e.length) (he : ∀ j v, e'[j]? = some v → e[k + j]? = some v) : At H id (o + k) e' := by
  obtain ⟨h1, ro, esz, cells, h2, h3, h4⟩ := h
  exact ⟨h1, ro, esz, cells, h2, by omega, fun j v hj => by rw [Nat.add_assoc]; exact h4 _ v (he j v hj)⟩

abbrev byteR (bs : List Int) : List (List V) := bs.map fun b => [V.int .u8 b]
theorem sl_drop {H : Heap} {id off k : Nat} {c c' : Option Nat} {bs : List Int} (h : SL H (.slice id off bs.length c) 1 (byteR bs)) : SL H (.slice id (off + k * 1) (bs.length - k) c') 1 (byteR (bs.drop k)) := by
  obtain ⟨h0, h | ⟨id', off', cap', e1, e2, e3⟩⟩ := h
  · cases h.1
  · simp only [V.slice.injEq] at e1
    obtain ⟨rfl, rfl, _, rfl⟩ := e1
    refine ⟨fun e he => ?_, .inr ⟨_, _, _, by rw [List.length_map, List.length_drop], e2, fun i e he => ?_⟩⟩
    · obtain ⟨b, _, rfl⟩ := List.mem_map.1 he; exact ⟨rfl, rfl⟩
    · simp only [byteR, List.map_drop, List.getElem?_drop] at he
      have := e3 _ e he
      rwa [show off + (k + i) * 1 = off + k * 1 + i * 1 by omega] at this
theorem x_slcc {H : Heap} {id off n k : Nat} (hk : k ≤ n) : exec (.slc 1 true false false) [.slice id off n (some n), .int .i64 k] H = some (.slice id (off + k * 1) (n - k) (some (n - k)), H) := by
  have hb : bounds3 true false false n ((some n).getD n) [V.int .i64 k] = some (k, n, n) := by simp [bounds3, natV]
  simp only [exec, hb]
  rw [if_pos ⟨hk, Nat.le_refl _, Nat.le_refl _, by simp [slcOk]⟩]
theorem word_ok {p : V} {H : Heap} {bs : List Int} (hp : SL H p 1 (byteR bs)) (hl : 8 ≤ bs.length) (K : V → Heap → Prop) (hK : K (.int .u64 (wordF bs)) H) : SCalls PP 155 [p] H K :=
  SCalls.mono (word_calls hp hl) fun r H' ⟨h1, h2⟩ => by rw [h1, h2]; exact hK
theorem x_pickf (c : Bool) (a : V) (H : Heap) : exec .pick [.bool c, a, .bool false] H = some (if c then a else .bool false, H) := rfl

/-- What a byte slice's end is. -/
def Byt (H : Heap) (id off : Nat) (bs : List Int) : Prop := SL H (.slice id off bs.length (some bs.length)) 1 (byteR bs)
theorem Byt.drop {H : Heap} {id off : Nat} {bs : List Int} (h : Byt H id off bs) (k : Nat) : Byt H id (off + k * 1) (bs.drop k) := by
  unfold Byt
  rw [List.length_drop]
  exact sl_drop h
theorem Byt.slc {H H' : Heap} {id off : Nat} {bs : List Int} (h : Byt H id off bs) {k : Nat} (hk : k ≤ bs.length) : exec (.slc 1 true false false) [.slice id off bs.length (some bs.length), .int .i64 k] H' = some (.slice id (off + k * 1) (bs.drop k).length (some (bs.drop k).length), H') := by
  rw [List.length_drop]; exact x_slcc hk
theorem Byt.ia {H : Heap} {id off : Nat} {bs : List Int} (h : Byt H id off bs) {i : Nat} (hi : i < bs.length) :
    exec (.ia 1) [.slice id off bs.length (some bs.length), .int .i64 i] H = some (.ptr id (off + i), H) ∧ exec (.ld 1) [.ptr id (off + i)] H = some (.int .u8 (bs.getD i 0), H) := by
  obtain ⟨id', o', h1, h2⟩ := byte_ia h hi
  have h3 : exec (.ia 1) [.slice id off bs.length (some bs.length), .int .i64 i] H = some (.ptr id (off + i), H) := by
    simp only [exec]
    rw [if_pos ⟨by omega, by omega⟩]
    simp
  rw [h3] at h1
  cases h1
  exact ⟨h3, h2⟩
end Go.Proofs.YtkmaikggdbielaaGreatDoor.Fw

/- utf8.Valid: the walk. No condition. -/
namespace Go.Proofs.YtkmaikggdbielaaGreatDoor.Fw
open Go
set_option linter.unusedSimpArgs false
set_option linter.unusedVariables false

theorem Byt.ext {H H' : Heap} {id off : Nat} {bs : List Int} (h : Byt H id off bs) (k : Ext H H') : Byt H' id off bs := SL.ext h k

theorem first_ia {H : Heap} (hT : Tabs H) {b : Int} (h0 : 0 ≤ b) (h1 : b < 256) : exec (.iar 256 1) [.ptr 1 0, .int .u8 b] H = some (.ptr 1 (0 + b.toNat * 1), H) ∧ exec (.ld 1) [.ptr 1 (0 + b.toNat * 1)] H = some (.int .u8 (firstT.getD b.toNat 0), H) := by
  constructor
  · simp only [exec]; rw [if_pos ⟨h0, by omega⟩]
  · have hl : b.toNat < firstT.length := by rw [show firstT.length = 256 by decide +kernel]; omega
    have := hT.first.ld (j := b.toNat) (v := .int .u8 (firstT.getD b.toNat 0)) (by simp [List.getD_eq_getElem?_getD, hl]) 1
    rwa [show 0 + b.toNat * 1 = 0 + b.toNat by omega]
theorem acc_ia {H : Heap} (hT : Tabs H) {b : Int} (h0 : 0 ≤ b) (h1 : b < 256) : exec (.iar 16 2) [.ptr 2 0, .int .u8 (accI b)] H = some (.ptr 2 (0 + (accI b).toNat * 2), H) ∧ exec (.lda 2) [.ptr 2 (0 + (accI b).toNat * 2)] H = some (.agg [.int .u8 (loT b), .int .u8 (hiT b)], H) := by
  obtain ⟨a0, a1⟩ := accI_lt h0 h1
  constructor
  · simp only [exec]; rw [if_pos ⟨a0, by omega⟩]
  · have hl : accT.length = 32 := by decide
    have hs : At H 2 (0 + (accI b).toNat * 2) [.int .u8 (loT b), .int .u8 (hiT b)] := by
      refine hT.acc.sub _ (by simp [hl]; omega) fun j v hj => ?_
      match j, hj with
      | 0, hj => simp at hj; subst hj; simp [loT, List.getD_eq_getElem?_getD, hl, show (accI b).toNat * 2 < 32 by omega]
      | 1, hj => simp at hj; subst hj; simp [hiT, List.getD_eq_getElem?_getD, hl, show (accI b).toNat * 2 + 1 < 32 by omega]
      | j + 2, hj => simp at hj
    exact hs.lda (n := 2) rfl

def v108loop : ACode := (.loop
                      (.seq
                       (.seq
                        (.draw (.op ⟨some 49, none, .ex (.mov) [.s 0]⟩ (.op ⟨some 50, none, .ex (.len) [.s 49]⟩ (.op ⟨some 51, none, .ex (.ibin .gtr) [.s 50, .k (.int .i64 32)]⟩ (.op ⟨some 52, none, .ex (.mov) [.s 51]⟩ (.op ⟨some 53, some (52, true), .ex (.mov) [.s 0]⟩ (.op ⟨some 55, some (52, true), .ex (.mov) [.s 0]⟩ (.op ⟨some 59, some (52, true), .ex (.mov) [.s 0]⟩ (.op ⟨some 62, some (52, true), .ex (.mov) [.s 0]⟩ (.fork (.op ⟨some 54, some (52, true), .callf 155 [.s 53]⟩ (.op ⟨some 56, some (52, true), .ex (.slc 1 true false false) [.s 55, .k (.int .i64 8)]⟩ (.fork (.op ⟨some 57, some (52, true), .callf 155 [.s 56]⟩ (.op ⟨some 58, some (52, true), .ex (.ibin .or) [.s 54, .s 57]⟩ (.op ⟨some 60, some (52, true), .ex (.slc 1 true false false) [.s 59, .k (.int .i64 16)]⟩ (.fork (.op ⟨some 61, some (52, true), .callf 155 [.s 60]⟩ (.op ⟨some 63, some (52, true), .ex (.slc 1 true false false) [.s 62, .k (.int .i64 24)]⟩ (.op ⟨some 64, some (52, true), .callf 155 [.s 63]⟩ (.op ⟨some 65, some (52, true), .ex (.ibin .or) [.s 61, .s 64]⟩ (.op ⟨some 66, some (52, true), .ex (.ibin .or) [.s 58, .s 65]⟩ (.op ⟨some 67, some (52, true), .ex (.ibin .and) [.s 66, .k (.int .u64 9259542123273814144)]⟩ (.op ⟨some 68, some (52, true), .ex (.ibin .eql) [.s 67, .k (.int .u64 0)]⟩ (.op ⟨some 69, none, .ex (.pick) [.s 52, .s 68, .k (.bool false)]⟩ .done)))))))) (.op ⟨some 63, some (52, true), .ex (.slc 1 true false false) [.s 62, .k (.int .i64 24)]⟩ (.op ⟨some 61, some (52, true), .callf 155 [.s 60]⟩ (.op ⟨some 64, some (52, true), .callf 155 [.s 63]⟩ (.op ⟨some 65, some (52, true), .ex (.ibin .or) [.s 61, .s 64]⟩ (.op ⟨some 66, some (52, true), .ex (.ibin .or) [.s 58, .s 65]⟩ (.op ⟨some 67, some (52, true), .ex (.ibin .and) [.s 66, .k (.int .u64 9259542123273814144)]⟩ (.op ⟨some 68, some (52, true), .ex (.ibin .eql) [.s 67, .k (.int .u64 0)]⟩ (.op ⟨some 69, none, .ex (.pick) [.s 52, .s 68, .k (.bool false)]⟩ .done)))))))))))) (.fork (.op ⟨some 60, some (52, true), .ex (.slc 1 true false false) [.s 59, .k (.int .i64 16)]⟩ (.fork (.op ⟨some 57, some (52, true), .callf 155 [.s 56]⟩ (.op ⟨some 58, some (52, true), .ex (.ibin .or) [.s 54, .s 57]⟩ (.fork (.op ⟨some 61, some (52, true), .callf 155 [.s 60]⟩ (.op ⟨some 63, some (52, true), .ex (.slc 1 true false false) [.s 62, .k (.int .i64 24)]⟩ (.op ⟨some 64, some (52, true), .callf 155 [.s 63]⟩ (.op ⟨some 65, some (52, true), .ex (.ibin .or) [.s 61, .s 64]⟩ (.op ⟨some 66, some (52, true), .ex (.ibin .or) [.s 58, .s 65]⟩ (.op ⟨some 67, some (52, true), .ex (.ibin .and) [.s 66, .k (.int .u64 9259542123273814144)]⟩ (.op ⟨some 68, some (52, true), .ex (.ibin .eql) [.s 67, .k (.int .u64 0)]⟩ (.op ⟨some 69, none, .ex (.pick) [.s 52, .s 68, .k (.bool false)]⟩ .done)))))))) (.op ⟨some 63, some (52, true), .ex (.slc 1 true false false) [.s 62, .k (.int .i64 24)]⟩ (.op ⟨some 61, some (52, true), .callf 155 [.s 60]⟩ (.op ⟨some 64, some (52, true), .callf 155 [.s 63]⟩ (.op ⟨some 65, some (52, true), .ex (.ibin .or) [.s 61, .s 64]⟩ (.op ⟨some 66, some (52, true), .ex (.ibin .or) [.s 58, .s 65]⟩ (.op ⟨some 67, some (52, true), .ex (.ibin .and) [.s 66, .k (.int .u64 9259542123273814144)]⟩ (.op ⟨some 68, some (52, true), .ex (.ibin .eql) [.s 67, .k (.int .u64 0)]⟩ (.op ⟨some 69, none, .ex (.pick) [.s 52, .s 68, .k (.bool false)]⟩ .done))))))))))) (.op ⟨some 63, some (52, true), .ex (.slc 1 true false false) [.s 62, .k (.int .i64 24)]⟩ (.op ⟨some 57, some (52, true), .callf 155 [.s 56]⟩ (.op ⟨some 58, some (52, true), .ex (.ibin .or) [.s 54, .s 57]⟩ (.op ⟨some 61, some (52, true), .callf 155 [.s 60]⟩ (.op ⟨some 64, some (52, true), .callf 155 [.s 63]⟩ (.op ⟨some 65, some (52, true), .ex (.ibin .or) [.s 61, .s 64]⟩ (.op ⟨some 66, some (52, true), .ex (.ibin .or) [.s 58, .s 65]⟩ (.op ⟨some 67, some (52, true), .ex (.ibin .and) [.s 66, .k (.int .u64 9259542123273814144)]⟩ (.op ⟨some 68, some (52, true), .ex (.ibin .eql) [.s 67, .k (.int .u64 0)]⟩ (.op ⟨some 69, none, .ex (.pick) [.s 52, .s 68, .k (.bool false)]⟩ .done)))))))))))) (.op ⟨some 63, some (52, true), .ex (.slc 1 true false false) [.s 62, .k (.int .i64 24)]⟩ (.fork (.op ⟨some 57, some (52, true), .callf 155 [.s 56]⟩ (.op ⟨some 58, some (52, true), .ex (.ibin .or) [.s 54, .s 57]⟩ (.op ⟨some 60, some (52, true), .ex (.slc 1 true false false) [.s 59, .k (.int .i64 16)]⟩ (.op ⟨some 61, some (52, true), .callf 155 [.s 60]⟩ (.op ⟨some 64, some (52, true), .callf 155 [.s 63]⟩ (.op ⟨some 65, some (52, true), .ex (.ibin .or) [.s 61, .s 64]⟩ (.op ⟨some 66, some (52, true), .ex (.ibin .or) [.s 58, .s 65]⟩ (.op ⟨some 67, some (52, true), .ex (.ibin .and) [.s 66, .k (.int .u64 9259542123273814144)]⟩ (.op ⟨some 68, some (52, true), .ex (.ibin .eql) [.s 67, .k (.int .u64 0)]⟩ (.op ⟨some 69, none, .ex (.pick) [.s 52, .s 68, .k (.bool false)]⟩ .done)))))))))) (.op ⟨some 60, some (52, true), .ex (.slc 1 true false false) [.s 59, .k (.int .i64 16)]⟩ (.op ⟨some 57, some (52, true), .callf 155 [.s 56]⟩ (.op ⟨some 58, some (52, true), .ex (.ibin .or) [.s 54, .s 57]⟩ (.op ⟨some 61, some (52, true), .callf 155 [.s 60]⟩ (.op ⟨some 64, some (52, true), .callf 155 [.s 63]⟩ (.op ⟨some 65, some (52, true), .ex (.ibin .or) [.s 61, .s 64]⟩ (.op ⟨some 66, some (52, true), .ex (.ibin .or) [.s 58, .s 65]⟩ (.op ⟨some 67, some (52, true), .ex (.ibin .and) [.s 66, .k (.int .u64 9259542123273814144)]⟩ (.op ⟨some 68, some (52, true), .ex (.ibin .eql) [.s 67, .k (.int .u64 0)]⟩ (.op ⟨some 69, none, .ex (.pick) [.s 52, .s 68, .k (.bool false)]⟩ .done)))))))))))))))) (.fork (.op ⟨some 56, some (52, true), .ex (.slc 1 true false false) [.s 55, .k (.int .i64 8)]⟩ (.fork (.op ⟨some 54, some (52, true), .callf 155 [.s 53]⟩ (.fork (.op ⟨some 57, some (52, true), .callf 155 [.s 56]⟩ (.op ⟨some 58, some (52, true), .ex (.ibin .or) [.s 54, .s 57]⟩ (.op ⟨some 60, some (52, true), .ex (.slc 1 true false false) [.s 59, .k (.int .i64 16)]⟩ (.fork (.op ⟨some 61, some (52, true), .callf 155 [.s 60]⟩ (.op ⟨some 63, some (52, true), .ex (.slc 1 true false false) [.s 62, .k (.int .i64 24)]⟩ (.op ⟨some 64, some (52, true), .callf 155 [.s 63]⟩ (.op ⟨some 65, some (52, true), .ex (.ibin .or) [.s 61, .s 64]⟩ (.op ⟨some 66, some (52, true), .ex (.ibin .or) [.s 58, .s 65]⟩ (.op ⟨some 67, some (52, true), .ex (.ibin .and) [.s 66, .k (.int .u64 9259542123273814144)]⟩ (.op ⟨some 68, some (52, true), .ex (.ibin .eql) [.s 67, .k (.int .u64 0)]⟩ (.op ⟨some 69, none, .ex (.pick) [.s 52, .s 68, .k (.bool false)]⟩ .done)))))))) (.op ⟨some 63, some (52, true), .ex (.slc 1 true false false) [.s 62, .k (.int .i64 24)]⟩ (.op ⟨some 61, some (52, true), .callf 155 [.s 60]⟩ (.op ⟨some 64, some (52, true), .callf 155 [.s 63]⟩ (.op ⟨some 65, some (52, true), .ex (.ibin .or) [.s 61, .s 64]⟩ (.op ⟨some 66, some (52, true), .ex (.ibin .or) [.s 58, .s 65]⟩ (.op ⟨some 67, some (52, true), .ex (.ibin .and) [.s 66, .k (.int .u64 9259542123273814144)]⟩ (.op ⟨some 68, some (52, true), .ex (.ibin .eql) [.s 67, .k (.int .u64 0)]⟩ (.op ⟨some 69, none, .ex (.pick) [.s 52, .s 68, .k (.bool false)]⟩ .done)))))))))))) (.fork (.op ⟨some 60, some (52, true), .ex (.slc 1 true false false) [.s 59, .k (.int .i64 16)]⟩ (.fork (.op ⟨some 57, some (52, true), .callf 155 [.s 56]⟩ (.op ⟨some 58, some (52, true), .ex (.ibin .or) [.s 54, .s 57]⟩ (.fork (.op ⟨some 61, some (52, true), .callf 155 [.s 60]⟩ (.op ⟨some 63, some (52, true), .ex (.slc 1 true false false) [.s 62, .k (.int .i64 24)]⟩ (.op ⟨some 64, some (52, true), .callf 155 [.s 63]⟩ (.op ⟨some 65, some (52, true), .ex (.ibin .or) [.s 61, .s 64]⟩ (.op ⟨some 66, some (52, true), .ex (.ibin .or) [.s 58, .s 65]⟩ (.op ⟨some 67, some (52, true), .ex (.ibin .and) [.s 66, .k (.int .u64 9259542123273814144)]⟩ (.op ⟨some 68, some (52, true), .ex (.ibin .eql) [.s 67, .k (.int .u64 0)]⟩ (.op ⟨some 69, none, .ex (.pick) [.s 52, .s 68, .k (.bool false)]⟩ .done)))))))) (.op ⟨some 63, some (52, true), .ex (.slc 1 true false false) [.s 62, .k (.int .i64 24)]⟩ (.op ⟨some 61, some (52, true), .callf 155 [.s 60]⟩ (.op ⟨some 64, some (52, true), .callf 155 [.s 63]⟩ (.op ⟨some 65, some (52, true), .ex (.ibin .or) [.s 61, .s 64]⟩ (.op ⟨some 66, some (52, true), .ex (.ibin .or) [.s 58, .s 65]⟩ (.op ⟨some 67, some (52, true), .ex (.ibin .and) [.s 66, .k (.int .u64 9259542123273814144)]⟩ (.op ⟨some 68, some (52, true), .ex (.ibin .eql) [.s 67, .k (.int .u64 0)]⟩ (.op ⟨some 69, none, .ex (.pick) [.s 52, .s 68, .k (.bool false)]⟩ .done))))))))))) (.op ⟨some 63, some (52, true), .ex (.slc 1 true false false) [.s 62, .k (.int .i64 24)]⟩ (.op ⟨some 57, some (52, true), .callf 155 [.s 56]⟩ (.op ⟨some 58, some (52, true), .ex (.ibin .or) [.s 54, .s 57]⟩ (.op ⟨some 61, some (52, true), .callf 155 [.s 60]⟩ (.op ⟨some 64, some (52, true), .callf 155 [.s 63]⟩ (.op ⟨some 65, some (52, true), .ex (.ibin .or) [.s 61, .s 64]⟩ (.op ⟨some 66, some (52, true), .ex (.ibin .or) [.s 58, .s 65]⟩ (.op ⟨some 67, some (52, true), .ex (.ibin .and) [.s 66, .k (.int .u64 9259542123273814144)]⟩ (.op ⟨some 68, some (52, true), .ex (.ibin .eql) [.s 67, .k (.int .u64 0)]⟩ (.op ⟨some 69, none, .ex (.pick) [.s 52, .s 68, .k (.bool false)]⟩ .done)))))))))))) (.op ⟨some 63, some (52, true), .ex (.slc 1 true false false) [.s 62, .k (.int .i64 24)]⟩ (.fork (.op ⟨some 57, some (52, true), .callf 155 [.s 56]⟩ (.op ⟨some 58, some (52, true), .ex (.ibin .or) [.s 54, .s 57]⟩ (.op ⟨some 60, some (52, true), .ex (.slc 1 true false false) [.s 59, .k (.int .i64 16)]⟩ (.op ⟨some 61, some (52, true), .callf 155 [.s 60]⟩ (.op ⟨some 64, some (52, true), .callf 155 [.s 63]⟩ (.op ⟨some 65, some (52, true), .ex (.ibin .or) [.s 61, .s 64]⟩ (.op ⟨some 66, some (52, true), .ex (.ibin .or) [.s 58, .s 65]⟩ (.op ⟨some 67, some (52, true), .ex (.ibin .and) [.s 66, .k (.int .u64 9259542123273814144)]⟩ (.op ⟨some 68, some (52, true), .ex (.ibin .eql) [.s 67, .k (.int .u64 0)]⟩ (.op ⟨some 69, none, .ex (.pick) [.s 52, .s 68, .k (.bool false)]⟩ .done)))))))))) (.op ⟨some 60, some (52, true), .ex (.slc 1 true false false) [.s 59, .k (.int .i64 16)]⟩ (.op ⟨some 57, some (52, true), .callf 155 [.s 56]⟩ (.op ⟨some 58, some (52, true), .ex (.ibin .or) [.s 54, .s 57]⟩ (.op ⟨some 61, some (52, true), .callf 155 [.s 60]⟩ (.op ⟨some 64, some (52, true), .callf 155 [.s 63]⟩ (.op ⟨some 65, some (52, true), .ex (.ibin .or) [.s 61, .s 64]⟩ (.op ⟨some 66, some (52, true), .ex (.ibin .or) [.s 58, .s 65]⟩ (.op ⟨some 67, some (52, true), .ex (.ibin .and) [.s 66, .k (.int .u64 9259542123273814144)]⟩ (.op ⟨some 68, some (52, true), .ex (.ibin .eql) [.s 67, .k (.int .u64 0)]⟩ (.op ⟨some 69, none, .ex (.pick) [.s 52, .s 68, .k (.bool false)]⟩ .done))))))))))))))) (.fork (.op ⟨some 60, some (52, true), .ex (.slc 1 true false false) [.s 59, .k (.int .i64 16)]⟩ (.fork (.op ⟨some 54, some (52, true), .callf 155 [.s 53]⟩ (.fork (.op ⟨some 57, some (52, true), .callf 155 [.s 56]⟩ (.op ⟨some 58, some (52, true), .ex (.ibin .or) [.s 54, .s 57]⟩ (.fork (.op ⟨some 61, some (52, true), .callf 155 [.s 60]⟩ (.op ⟨some 63, some (52, true), .ex (.slc 1 true false false) [.s 62, .k (.int .i64 24)]⟩ (.op ⟨some 64, some (52, true), .callf 155 [.s 63]⟩ (.op ⟨some 65, some (52, true), .ex (.ibin .or) [.s 61, .s 64]⟩ (.op ⟨some 66, some (52, true), .ex (.ibin .or) [.s 58, .s 65]⟩ (.op ⟨some 67, some (52, true), .ex (.ibin .and) [.s 66, .k (.int .u64 9259542123273814144)]⟩ (.op ⟨some 68, some (52, true), .ex (.ibin .eql) [.s 67, .k (.int .u64 0)]⟩ (.op ⟨some 69, none, .ex (.pick) [.s 52, .s 68, .k (.bool false)]⟩ .done)))))))) (.op ⟨some 63, some (52, true), .ex (.slc 1 true false false) [.s 62, .k (.int .i64 24)]⟩ (.op ⟨some 61, some (52, true), .callf 155 [.s 60]⟩ (.op ⟨some 64, some (52, true), .callf 155 [.s 63]⟩ (.op ⟨some 65, some (52, true), .ex (.ibin .or) [.s 61, .s 64]⟩ (.op ⟨some 66, some (52, true), .ex (.ibin .or) [.s 58, .s 65]⟩ (.op ⟨some 67, some (52, true), .ex (.ibin .and) [.s 66, .k (.int .u64 9259542123273814144)]⟩ (.op ⟨some 68, some (52, true), .ex (.ibin .eql) [.s 67, .k (.int .u64 0)]⟩ (.op ⟨some 69, none, .ex (.pick) [.s 52, .s 68, .k (.bool false)]⟩ .done))))))))))) (.op ⟨some 63, some (52, true), .ex (.slc 1 true false false) [.s 62, .k (.int .i64 24)]⟩ (.op ⟨some 57, some (52, true), .callf 155 [.s 56]⟩ (.op ⟨some 58, some (52, true), .ex (.ibin .or) [.s 54, .s 57]⟩ (.op ⟨some 61, some (52, true), .callf 155 [.s 60]⟩ (.op ⟨some 64, some (52, true), .callf 155 [.s 63]⟩ (.op ⟨some 65, some (52, true), .ex (.ibin .or) [.s 61, .s 64]⟩ (.op ⟨some 66, some (52, true), .ex (.ibin .or) [.s 58, .s 65]⟩ (.op ⟨some 67, some (52, true), .ex (.ibin .and) [.s 66, .k (.int .u64 9259542123273814144)]⟩ (.op ⟨some 68, some (52, true), .ex (.ibin .eql) [.s 67, .k (.int .u64 0)]⟩ (.op ⟨some 69, none, .ex (.pick) [.s 52, .s 68, .k (.bool false)]⟩ .done)))))))))))) (.op ⟨some 63, some (52, true), .ex (.slc 1 true false false) [.s 62, .k (.int .i64 24)]⟩ (.op ⟨some 54, some (52, true), .callf 155 [.s 53]⟩ (.op ⟨some 57, some (52, true), .callf 155 [.s 56]⟩ (.op ⟨some 58, some (52, true), .ex (.ibin .or) [.s 54, .s 57]⟩ (.op ⟨some 61, some (52, true), .callf 155 [.s 60]⟩ (.op ⟨some 64, some (52, true), .callf 155 [.s 63]⟩ (.op ⟨some 65, some (52, true), .ex (.ibin .or) [.s 61, .s 64]⟩ (.op ⟨some 66, some (52, true), .ex (.ibin .or) [.s 58, .s 65]⟩ (.op ⟨some 67, some (52, true), .ex (.ibin .and) [.s 66, .k (.int .u64 9259542123273814144)]⟩ (.op ⟨some 68, some (52, true), .ex (.ibin .eql) [.s 67, .k (.int .u64 0)]⟩ (.op ⟨some 69, none, .ex (.pick) [.s 52, .s 68, .k (.bool false)]⟩ .done))))))))))))) (.op ⟨some 63, some (52, true), .ex (.slc 1 true false false) [.s 62, .k (.int .i64 24)]⟩ (.fork (.op ⟨some 54, some (52, true), .callf 155 [.s 53]⟩ (.fork (.op ⟨some 57, some (52, true), .callf 155 [.s 56]⟩ (.op ⟨some 58, some (52, true), .ex (.ibin .or) [.s 54, .s 57]⟩ (.op ⟨some 60, some (52, true), .ex (.slc 1 true false false) [.s 59, .k (.int .i64 16)]⟩ (.op ⟨some 61, some (52, true), .callf 155 [.s 60]⟩ (.op ⟨some 64, some (52, true), .callf 155 [.s 63]⟩ (.op ⟨some 65, some (52, true), .ex (.ibin .or) [.s 61, .s 64]⟩ (.op ⟨some 66, some (52, true), .ex (.ibin .or) [.s 58, .s 65]⟩ (.op ⟨some 67, some (52, true), .ex (.ibin .and) [.s 66, .k (.int .u64 9259542123273814144)]⟩ (.op ⟨some 68, some (52, true), .ex (.ibin .eql) [.s 67, .k (.int .u64 0)]⟩ (.op ⟨some 69, none, .ex (.pick) [.s 52, .s 68, .k (.bool false)]⟩ .done)))))))))) (.op ⟨some 60, some (52, true), .ex (.slc 1 true false false) [.s 59, .k (.int .i64 16)]⟩ (.op ⟨some 57, some (52, true), .callf 155 [.s 56]⟩ (.op ⟨some 58, some (52, true), .ex (.ibin .or) [.s 54, .s 57]⟩ (.op ⟨some 61, some (52, true), .callf 155 [.s 60]⟩ (.op ⟨some 64, some (52, true), .callf 155 [.s 63]⟩ (.op ⟨some 65, some (52, true), .ex (.ibin .or) [.s 61, .s 64]⟩ (.op ⟨some 66, some (52, true), .ex (.ibin .or) [.s 58, .s 65]⟩ (.op ⟨some 67, some (52, true), .ex (.ibin .and) [.s 66, .k (.int .u64 9259542123273814144)]⟩ (.op ⟨some 68, some (52, true), .ex (.ibin .eql) [.s 67, .k (.int .u64 0)]⟩ (.op ⟨some 69, none, .ex (.pick) [.s 52, .s 68, .k (.bool false)]⟩ .done)))))))))))) (.op ⟨some 60, some (52, true), .ex (.slc 1 true false false) [.s 59, .k (.int .i64 16)]⟩ (.op ⟨some 54, some (52, true), .callf 155 [.s 53]⟩ (.op ⟨some 57, some (52, true), .callf 155 [.s 56]⟩ (.op ⟨some 58, some (52, true), .ex (.ibin .or) [.s 54, .s 57]⟩ (.op ⟨some 61, some (52, true), .callf 155 [.s 60]⟩ (.op ⟨some 64, some (52, true), .callf 155 [.s 63]⟩ (.op ⟨some 65, some (52, true), .ex (.ibin .or) [.s 61, .s 64]⟩ (.op ⟨some 66, some (52, true), .ex (.ibin .or) [.s 58, .s 65]⟩ (.op ⟨some 67, some (52, true), .ex (.ibin .and) [.s 66, .k (.int .u64 9259542123273814144)]⟩ (.op ⟨some 68, some (52, true), .ex (.ibin .eql) [.s 67, .k (.int .u64 0)]⟩ (.op ⟨some 69, none, .ex (.pick) [.s 52, .s 68, .k (.bool false)]⟩ .done)))))))))))))))) (.fork (.op ⟨some 60, some (52, true), .ex (.slc 1 true false false) [.s 59, .k (.int .i64 16)]⟩ (.fork (.op ⟨some 54, some (52, true), .callf 155 [.s 53]⟩ (.op ⟨some 56, some (52, true), .ex (.slc 1 true false false) [.s 55, .k (.int .i64 8)]⟩ (.fork (.op ⟨some 57, some (52, true), .callf 155 [.s 56]⟩ (.op ⟨some 58, some (52, true), .ex (.ibin .or) [.s 54, .s 57]⟩ (.fork (.op ⟨some 61, some (52, true), .callf 155 [.s 60]⟩ (.op ⟨some 63, some (52, true), .ex (.slc 1 true false false) [.s 62, .k (.int .i64 24)]⟩ (.op ⟨some 64, some (52, true), .callf 155 [.s 63]⟩ (.op ⟨some 65, some (52, true), .ex (.ibin .or) [.s 61, .s 64]⟩ (.op ⟨some 66, some (52, true), .ex (.ibin .or) [.s 58, .s 65]⟩ (.op ⟨some 67, some (52, true), .ex (.ibin .and) [.s 66, .k (.int .u64 9259542123273814144)]⟩ (.op ⟨some 68, some (52, true), .ex (.ibin .eql) [.s 67, .k (.int .u64 0)]⟩ (.op ⟨some 69, none, .ex (.pick) [.s 52, .s 68, .k (.bool false)]⟩ .done)))))))) (.op ⟨some 63, some (52, true), .ex (.slc 1 true false false) [.s 62, .k (.int .i64 24)]⟩ (.op ⟨some 61, some (52, true), .callf 155 [.s 60]⟩ (.op ⟨some 64, some (52, true), .callf 155 [.s 63]⟩ (.op ⟨some 65, some (52, true), .ex (.ibin .or) [.s 61, .s 64]⟩ (.op ⟨some 66, some (52, true), .ex (.ibin .or) [.s 58, .s 65]⟩ (.op ⟨some 67, some (52, true), .ex (.ibin .and) [.s 66, .k (.int .u64 9259542123273814144)]⟩ (.op ⟨some 68, some (52, true), .ex (.ibin .eql) [.s 67, .k (.int .u64 0)]⟩ (.op ⟨some 69, none, .ex (.pick) [.s 52, .s 68, .k (.bool false)]⟩ .done))))))))))) (.op ⟨some 63, some (52, true), .ex (.slc 1 true false false) [.s 62, .k (.int .i64 24)]⟩ (.op ⟨some 57, some (52, true), .callf 155 [.s 56]⟩ (.op ⟨some 58, some (52, true), .ex (.ibin .or) [.s 54, .s 57]⟩ (.op ⟨some 61, some (52, true), .callf 155 [.s 60]⟩ (.op ⟨some 64, some (52, true), .callf 155 [.s 63]⟩ (.op ⟨some 65, some (52, true), .ex (.ibin .or) [.s 61, .s 64]⟩ (.op ⟨some 66, some (52, true), .ex (.ibin .or) [.s 58, .s 65]⟩ (.op ⟨some 67, some (52, true), .ex (.ibin .and) [.s 66, .k (.int .u64 9259542123273814144)]⟩ (.op ⟨some 68, some (52, true), .ex (.ibin .eql) [.s 67, .k (.int .u64 0)]⟩ (.op ⟨some 69, none, .ex (.pick) [.s 52, .s 68, .k (.bool false)]⟩ .done))))))))))))) (.fork (.op ⟨some 56, some (52, true), .ex (.slc 1 true false false) [.s 55, .k (.int .i64 8)]⟩ (.fork (.op ⟨some 54, some (52, true), .callf 155 [.s 53]⟩ (.fork (.op ⟨some 57, some (52, true), .callf 155 [.s 56]⟩ (.op ⟨some 58, some (52, true), .ex (.ibin .or) [.s 54, .s 57]⟩ (.fork (.op ⟨some 61, some (52, true), .callf 155 [.s 60]⟩ (.op ⟨some 63, some (52, true), .ex (.slc 1 true false false) [.s 62, .k (.int .i64 24)]⟩ (.op ⟨some 64, some (52, true), .callf 155 [.s 63]⟩ (.op ⟨some 65, some (52, true), .ex (.ibin .or) [.s 61, .s 64]⟩ (.op ⟨some 66, some (52, true), .ex (.ibin .or) [.s 58, .s 65]⟩ (.op ⟨some 67, some (52, true), .ex (.ibin .and) [.s 66, .k (.int .u64 9259542123273814144)]⟩ (.op ⟨some 68, some (52, true), .ex (.ibin .eql) [.s 67, .k (.int .u64 0)]⟩ (.op ⟨some 69, none, .ex (.pick) [.s 52, .s 68, .k (.bool false)]⟩ .done)))))))) (.op ⟨some 63, some (52, true), .ex (.slc 1 true false false) [.s 62, .k (.int .i64 24)]⟩ (.op ⟨some 61, some (52, true), .callf 155 [.s 60]⟩ (.op ⟨some 64, some (52, true), .callf 155 [.s 63]⟩ (.op ⟨some 65, some (52, true), .ex (.ibin .or) [.s 61, .s 64]⟩ (.op ⟨some 66, some (52, true), .ex (.ibin .or) [.s 58, .s 65]⟩ (.op ⟨some 67, some (52, true), .ex (.ibin .and) [.s 66, .k (.int .u64 9259542123273814144)]⟩ (.op ⟨some 68, some (52, true), .ex (.ibin .eql) [.s 67, .k (.int .u64 0)]⟩ (.op ⟨some 69, none, .ex (.pick) [.s 52, .s 68, .k (.bool false)]⟩ .done))))))))))) (.op ⟨some 63, some (52, true), .ex (.slc 1 true false false) [.s 62, .k (.int .i64 24)]⟩ (.op ⟨some 57, some (52, true), .callf 155 [.s 56]⟩ (.op ⟨some 58, some (52, true), .ex (.ibin .or) [.s 54, .s 57]⟩ (.op ⟨some 61, some (52, true), .callf 155 [.s 60]⟩ (.op ⟨some 64, some (52, true), .callf 155 [.s 63]⟩ (.op ⟨some 65, some (52, true), .ex (.ibin .or) [.s 61, .s 64]⟩ (.op ⟨some 66, some (52, true), .ex (.ibin .or) [.s 58, .s 65]⟩ (.op ⟨some 67, some (52, true), .ex (.ibin .and) [.s 66, .k (.int .u64 9259542123273814144)]⟩ (.op ⟨some 68, some (52, true), .ex (.ibin .eql) [.s 67, .k (.int .u64 0)]⟩ (.op ⟨some 69, none, .ex (.pick) [.s 52, .s 68, .k (.bool false)]⟩ .done)))))))))))) (.op ⟨some 63, some (52, true), .ex (.slc 1 true false false) [.s 62, .k (.int .i64 24)]⟩ (.op ⟨some 54, some (52, true), .callf 155 [.s 53]⟩ (.op ⟨some 57, some (52, true), .callf 155 [.s 56]⟩ (.op ⟨some 58, some (52, true), .ex (.ibin .or) [.s 54, .s 57]⟩ (.op ⟨some 61, some (52, true), .callf 155 [.s 60]⟩ (.op ⟨some 64, some (52, true), .callf 155 [.s 63]⟩ (.op ⟨some 65, some (52, true), .ex (.ibin .or) [.s 61, .s 64]⟩ (.op ⟨some 66, some (52, true), .ex (.ibin .or) [.s 58, .s 65]⟩ (.op ⟨some 67, some (52, true), .ex (.ibin .and) [.s 66, .k (.int .u64 9259542123273814144)]⟩ (.op ⟨some 68, some (52, true), .ex (.ibin .eql) [.s 67, .k (.int .u64 0)]⟩ (.op ⟨some 69, none, .ex (.pick) [.s 52, .s 68, .k (.bool false)]⟩ .done))))))))))))) (.op ⟨some 63, some (52, true), .ex (.slc 1 true false false) [.s 62, .k (.int .i64 24)]⟩ (.fork (.op ⟨some 54, some (52, true), .callf 155 [.s 53]⟩ (.op ⟨some 56, some (52, true), .ex (.slc 1 true false false) [.s 55, .k (.int .i64 8)]⟩ (.op ⟨some 57, some (52, true), .callf 155 [.s 56]⟩ (.op ⟨some 58, some (52, true), .ex (.ibin .or) [.s 54, .s 57]⟩ (.op ⟨some 61, some (52, true), .callf 155 [.s 60]⟩ (.op ⟨some 64, some (52, true), .callf 155 [.s 63]⟩ (.op ⟨some 65, some (52, true), .ex (.ibin .or) [.s 61, .s 64]⟩ (.op ⟨some 66, some (52, true), .ex (.ibin .or) [.s 58, .s 65]⟩ (.op ⟨some 67, some (52, true), .ex (.ibin .and) [.s 66, .k (.int .u64 9259542123273814144)]⟩ (.op ⟨some 68, some (52, true), .ex (.ibin .eql) [.s 67, .k (.int .u64 0)]⟩ (.op ⟨some 69, none, .ex (.pick) [.s 52, .s 68, .k (.bool false)]⟩ .done))))))))))) (.op ⟨some 56, some (52, true), .ex (.slc 1 true false false) [.s 55, .k (.int .i64 8)]⟩ (.op ⟨some 54, some (52, true), .callf 155 [.s 53]⟩ (.op ⟨some 57, some (52, true), .callf 155 [.s 56]⟩ (.op ⟨some 58, some (52, true), .ex (.ibin .or) [.s 54, .s 57]⟩ (.op ⟨some 61, some (52, true), .callf 155 [.s 60]⟩ (.op ⟨some 64, some (52, true), .callf 155 [.s 63]⟩ (.op ⟨some 65, some (52, true), .ex (.ibin .or) [.s 61, .s 64]⟩ (.op ⟨some 66, some (52, true), .ex (.ibin .or) [.s 58, .s 65]⟩ (.op ⟨some 67, some (52, true), .ex (.ibin .and) [.s 66, .k (.int .u64 9259542123273814144)]⟩ (.op ⟨some 68, some (52, true), .ex (.ibin .eql) [.s 67, .k (.int .u64 0)]⟩ (.op ⟨some 69, none, .ex (.pick) [.s 52, .s 68, .k (.bool false)]⟩ .done)))))))))))))))) (.op ⟨some 63, some (52, true), .ex (.slc 1 true false false) [.s 62, .k (.int .i64 24)]⟩ (.fork (.op ⟨some 54, some (52, true), .callf 155 [.s 53]⟩ (.op ⟨some 56, some (52, true), .ex (.slc 1 true false false) [.s 55, .k (.int .i64 8)]⟩ (.fork (.op ⟨some 57, some (52, true), .callf 155 [.s 56]⟩ (.op ⟨some 58, some (52, true), .ex (.ibin .or) [.s 54, .s 57]⟩ (.op ⟨some 60, some (52, true), .ex (.slc 1 true false false) [.s 59, .k (.int .i64 16)]⟩ (.op ⟨some 61, some (52, true), .callf 155 [.s 60]⟩ (.op ⟨some 64, some (52, true), .callf 155 [.s 63]⟩ (.op ⟨some 65, some (52, true), .ex (.ibin .or) [.s 61, .s 64]⟩ (.op ⟨some 66, some (52, true), .ex (.ibin .or) [.s 58, .s 65]⟩ (.op ⟨some 67, some (52, true), .ex (.ibin .and) [.s 66, .k (.int .u64 9259542123273814144)]⟩ (.op ⟨some 68, some (52, true), .ex (.ibin .eql) [.s 67, .k (.int .u64 0)]⟩ (.op ⟨some 69, none, .ex (.pick) [.s 52, .s 68, .k (.bool false)]⟩ .done)))))))))) (.op ⟨some 60, some (52, true), .ex (.slc 1 true false false) [.s 59, .k (.int .i64 16)]⟩ (.op ⟨some 57, some (52, true), .callf 155 [.s 56]⟩ (.op ⟨some 58, some (52, true), .ex (.ibin .or) [.s 54, .s 57]⟩ (.op ⟨some 61, some (52, true), .callf 155 [.s 60]⟩ (.op ⟨some 64, some (52, true), .callf 155 [.s 63]⟩ (.op ⟨some 65, some (52, true), .ex (.ibin .or) [.s 61, .s 64]⟩ (.op ⟨some 66, some (52, true), .ex (.ibin .or) [.s 58, .s 65]⟩ (.op ⟨some 67, some (52, true), .ex (.ibin .and) [.s 66, .k (.int .u64 9259542123273814144)]⟩ (.op ⟨some 68, some (52, true), .ex (.ibin .eql) [.s 67, .k (.int .u64 0)]⟩ (.op ⟨some 69, none, .ex (.pick) [.s 52, .s 68, .k (.bool false)]⟩ .done))))))))))))) (.fork (.op ⟨some 56, some (52, true), .ex (.slc 1 true false false) [.s 55, .k (.int .i64 8)]⟩ (.fork (.op ⟨some 54, some (52, true), .callf 155 [.s 53]⟩ (.fork (.op ⟨some 57, some (52, true), .callf 155 [.s 56]⟩ (.op ⟨some 58, some (52, true), .ex (.ibin .or) [.s 54, .s 57]⟩ (.op ⟨some 60, some (52, true), .ex (.slc 1 true false false) [.s 59, .k (.int .i64 16)]⟩ (.op ⟨some 61, some (52, true), .callf 155 [.s 60]⟩ (.op ⟨some 64, some (52, true), .callf 155 [.s 63]⟩ (.op ⟨some 65, some (52, true), .ex (.ibin .or) [.s 61, .s 64]⟩ (.op ⟨some 66, some (52, true), .ex (.ibin .or) [.s 58, .s 65]⟩ (.op ⟨some 67, some (52, true), .ex (.ibin .and) [.s 66, .k (.int .u64 9259542123273814144)]⟩ (.op ⟨some 68, some (52, true), .ex (.ibin .eql) [.s 67, .k (.int .u64 0)]⟩ (.op ⟨some 69, none, .ex (.pick) [.s 52, .s 68, .k (.bool false)]⟩ .done)))))))))) (.op ⟨some 60, some (52, true), .ex (.slc 1 true false false) [.s 59, .k (.int .i64 16)]⟩ (.op ⟨some 57, some (52, true), .callf 155 [.s 56]⟩ (.op ⟨some 58, some (52, true), .ex (.ibin .or) [.s 54, .s 57]⟩ (.op ⟨some 61, some (52, true), .callf 155 [.s 60]⟩ (.op ⟨some 64, some (52, true), .callf 155 [.s 63]⟩ (.op ⟨some 65, some (52, true), .ex (.ibin .or) [.s 61, .s 64]⟩ (.op ⟨some 66, some (52, true), .ex (.ibin .or) [.s 58, .s 65]⟩ (.op ⟨some 67, some (52, true), .ex (.ibin .and) [.s 66, .k (.int .u64 9259542123273814144)]⟩ (.op ⟨some 68, some (52, true), .ex (.ibin .eql) [.s 67, .k (.int .u64 0)]⟩ (.op ⟨some 69, none, .ex (.pick) [.s 52, .s 68, .k (.bool false)]⟩ .done)))))))))))) (.op ⟨some 60, some (52, true), .ex (.slc 1 true false false) [.s 59, .k (.int .i64 16)]⟩ (.op ⟨some 54, some (52, true), .callf 155 [.s 53]⟩ (.op ⟨some 57, some (52, true), .callf 155 [.s 56]⟩ (.op ⟨some 58, some (52, true), .ex (.ibin .or) [.s 54, .s 57]⟩ (.op ⟨some 61, some (52, true), .callf 155 [.s 60]⟩ (.op ⟨some 64, some (52, true), .callf 155 [.s 63]⟩ (.op ⟨some 65, some (52, true), .ex (.ibin .or) [.s 61, .s 64]⟩ (.op ⟨some 66, some (52, true), .ex (.ibin .or) [.s 58, .s 65]⟩ (.op ⟨some 67, some (52, true), .ex (.ibin .and) [.s 66, .k (.int .u64 9259542123273814144)]⟩ (.op ⟨some 68, some (52, true), .ex (.ibin .eql) [.s 67, .k (.int .u64 0)]⟩ (.op ⟨some 69, none, .ex (.pick) [.s 52, .s 68, .k (.bool false)]⟩ .done))))))))))))) (.op ⟨some 60, some (52, true), .ex (.slc 1 true false false) [.s 59, .k (.int .i64 16)]⟩ (.fork (.op ⟨some 54, some (52, true), .callf 155 [.s 53]⟩ (.op ⟨some 56, some (52, true), .ex (.slc 1 true false false) [.s 55, .k (.int .i64 8)]⟩ (.op ⟨some 57, some (52, true), .callf 155 [.s 56]⟩ (.op ⟨some 58, some (52, true), .ex (.ibin .or) [.s 54, .s 57]⟩ (.op ⟨some 61, some (52, true), .callf 155 [.s 60]⟩ (.op ⟨some 64, some (52, true), .callf 155 [.s 63]⟩ (.op ⟨some 65, some (52, true), .ex (.ibin .or) [.s 61, .s 64]⟩ (.op ⟨some 66, some (52, true), .ex (.ibin .or) [.s 58, .s 65]⟩ (.op ⟨some 67, some (52, true), .ex (.ibin .and) [.s 66, .k (.int .u64 9259542123273814144)]⟩ (.op ⟨some 68, some (52, true), .ex (.ibin .eql) [.s 67, .k (.int .u64 0)]⟩ (.op ⟨some 69, none, .ex (.pick) [.s 52, .s 68, .k (.bool false)]⟩ .done))))))))))) (.op ⟨some 56, some (52, true), .ex (.slc 1 true false false) [.s 55, .k (.int .i64 8)]⟩ (.op ⟨some 54, some (52, true), .callf 155 [.s 53]⟩ (.op ⟨some 57, some (52, true), .callf 155 [.s 56]⟩ (.op ⟨some 58, some (52, true), .ex (.ibin .or) [.s 54, .s 57]⟩ (.op ⟨some 61, some (52, true), .callf 155 [.s 60]⟩ (.op ⟨some 64, some (52, true), .callf 155 [.s 63]⟩ (.op ⟨some 65, some (52, true), .ex (.ibin .or) [.s 61, .s 64]⟩ (.op ⟨some 66, some (52, true), .ex (.ibin .or) [.s 58, .s 65]⟩ (.op ⟨some 67, some (52, true), .ex (.ibin .and) [.s 66, .k (.int .u64 9259542123273814144)]⟩ (.op ⟨some 68, some (52, true), .ex (.ibin .eql) [.s 67, .k (.int .u64 0)]⟩ (.op ⟨some 69, none, .ex (.pick) [.s 52, .s 68, .k (.bool false)]⟩ .done))))))))))))))))))))))))))))
                        (.cond (.s 69)
                         .skip
                         (.exit 2)))
                       (.block 3
                        (.region [⟨some 70, none, .ex (.mov) [.s 0]⟩,
                          ⟨some 71, none, .ex (.slc 1 true false false) [.s 70, .k (.int .i64 32)]⟩,
                          ⟨some 0, none, .ex (.mov) [.s 71]⟩]))))

def P32 (F : Heap) (c : List Int) (id off : Nat) (e : Exit) (f : Fr) (G : Heap) : Prop :=
  G = F ∧ ((e = .normal ∧ and64 (or64 (or64 (wordF c) (wordF (c.drop 8))) (or64 (wordF (c.drop 16)) (wordF (c.drop 24)))) hi64 = 0 ∧ f.get 0 = some (.slice id (off + 32 * 1) (c.drop 32).length (some (c.drop 32).length)))
    ∨ (e = .exit 2 ∧ ¬ and64 (or64 (or64 (wordF c) (wordF (c.drop 8))) (or64 (wordF (c.drop 16)) (wordF (c.drop 24)))) hi64 = 0 ∧ f.get 0 = some (.slice id off c.length (some c.length))))

set_option maxRecDepth 100000 in
set_option maxHeartbeats 4000000 in
theorem inner32 {G : Heap} {id off : Nat} {c3 : List Int} (hB3 : Byt G id off c3) (hl : c3.length ≤ 1048576) (hsm3 : ∀ b ∈ c3, 0 ≤ b ∧ b < 256) {Q : Exit → Fr → Heap → Prop}
    (fin : ∀ (off : Nat) (c : List Int) (fr2 : Fr), skip32 c3.length c3 = c → Byt G id off c → c.length ≤ c3.length → (∀ b ∈ c, 0 ≤ b ∧ b < 256) → FrSub [(0, .slice id off c.length (some c.length))] fr2 → Q (.exit 2) fr2 G)
    {fr : Fr} (h0 : fr.get 0 = some (.slice id off c3.length (some c3.length))) : wpC (SCalls PP) v108loop fr G Q := by
  have hlen : ∀ (id off n : Nat) c G, exec .len [.slice id off n c] G = some (.int .i64 n, G) := fun _ _ _ _ _ => rfl
  unfold v108loop
  refine wp_loopI (fun m fr F => F = G ∧ ∃ (off : Nat) (c : List Int) (k : Nat), m = c.length ∧ Byt G id off c ∧ c.length ≤ k ∧ c.length ≤ c3.length ∧ skip32 k c = skip32 c3.length c3 ∧ (∀ b ∈ c, 0 ≤ b ∧ b < 256) ∧ FrSub [(0, .slice id off c.length (some c.length))] fr) c3.length ⟨rfl, _, c3, _, rfl, hB3, Nat.le_refl _, Nat.le_refl _, rfl, hsm3, .cons h0 .nil⟩ ?_
  rintro m fr F ⟨rfl, off, c, k, rfl, hC, hk, hkl, hs, hsc, hsub⟩
  refine ⟨_, hsub, ?_⟩
  by_cases h32 : (c.length : Int) > 32
  rotate_left
  · have e : skip32 c3.length c3 = c := by rw [← hs, skip32_stop (by omega)]
    simp only [stp, if_true, if_false, Int.reduceEq, Int.reduceLT, Int.reduceLE, Int.reduceGT, Int.reduceGE, reduceCtorEq, Nat.reduceEqDiff, List.getElem?_cons_zero, List.getElem?_cons_succ, Option.map_some, hlen, h32, Bool.false_eq_true]
    repeat' with_reducible refine And.intro ?_ ?_
    all_goals exact fin _ c _ e hC hkl hsc (.cons rfl .nil)
  obtain ⟨k, rfl⟩ : ∃ j, k = j + 1 := ⟨k - 1, by omega⟩
  have v0 := word_ok hC (by omega : 8 ≤ c.length)
  have t8 : exec (.slc 1 true false false) [.slice id off c.length (some c.length), .int .i64 8] F = some (.slice id (off + 8 * 1) (c.drop 8).length (some (c.drop 8).length), F) := hC.slc (k := 8) (by omega)
  have v1 := word_ok (hC.drop 8) (by simp; omega : 8 ≤ (c.drop 8).length)
  have t16 : exec (.slc 1 true false false) [.slice id off c.length (some c.length), .int .i64 16] F = some (.slice id (off + 16 * 1) (c.drop 16).length (some (c.drop 16).length), F) := hC.slc (k := 16) (by omega)
  have v2 := word_ok (hC.drop 16) (by simp; omega : 8 ≤ (c.drop 16).length)
  have t24 : exec (.slc 1 true false false) [.slice id off c.length (some c.length), .int .i64 24] F = some (.slice id (off + 24 * 1) (c.drop 24).length (some (c.drop 24).length), F) := hC.slc (k := 24) (by omega)
  have v3 := word_ok (hC.drop 24) (by simp; omega : 8 ≤ (c.drop 24).length)
  have t32 : exec (.slc 1 true false false) [.slice id off c.length (some c.length), .int .i64 32] F = some (.slice id (off + 32 * 1) (c.drop 32).length (some (c.drop 32).length), F) := hC.slc (k := 32) (by omega)
  refine wpC_mono SCalls.scMono _ _ _ (P32 F c id off) _ ?_ ?_
  · by_cases ha32 : and64 (or64 (or64 (wordF c) (wordF (c.drop 8))) (or64 (wordF (c.drop 16)) (wordF (c.drop 24)))) hi64 = 0
    · have done : ∀ f, f.get 0 = some (.slice id (off + 32 * 1) (c.drop 32).length (some (c.drop 32).length)) → P32 F c id off .normal f F := fun f hf => ⟨rfl, .inl ⟨rfl, ha32, hf⟩⟩
      simp only [stp, if_true, if_false, Int.reduceEq, Int.reduceLT, Int.reduceLE, Int.reduceGT, Int.reduceGE, reduceCtorEq, Nat.reduceEqDiff, List.getElem?_cons_zero, List.getElem?_cons_succ, Option.map_some, hlen, h32, Bool.false_eq_true]
      repeat' first | with_reducible refine v0 _ ?_ | with_reducible refine v1 _ ?_ | with_reducible refine v2 _ ?_ | with_reducible refine v3 _ ?_ | simp only [stp, if_true, if_false, Int.reduceEq, Int.reduceLT, Int.reduceLE, Int.reduceGT, Int.reduceGE, reduceCtorEq, Nat.reduceEqDiff, List.getElem?_cons_zero, List.getElem?_cons_succ, Option.map_some, t8, t16, t24, t32, x_or, x_and, ha32, Bool.false_eq_true] | with_reducible refine And.intro ?_ ?_
      all_goals exact done _ rfl
    · have done : ∀ f, f.get 0 = some (.slice id off c.length (some c.length)) → P32 F c id off (.exit 2) f F := fun f hf => ⟨rfl, .inr ⟨rfl, ha32, hf⟩⟩
      simp only [stp, if_true, if_false, Int.reduceEq, Int.reduceLT, Int.reduceLE, Int.reduceGT, Int.reduceGE, reduceCtorEq, Nat.reduceEqDiff, List.getElem?_cons_zero, List.getElem?_cons_succ, Option.map_some, hlen, h32, Bool.false_eq_true]
      repeat' first | with_reducible refine v0 _ ?_ | with_reducible refine v1 _ ?_ | with_reducible refine v2 _ ?_ | with_reducible refine v3 _ ?_ | simp only [stp, if_true, if_false, Int.reduceEq, Int.reduceLT, Int.reduceLE, Int.reduceGT, Int.reduceGE, reduceCtorEq, Nat.reduceEqDiff, List.getElem?_cons_zero, List.getElem?_cons_succ, Option.map_some, t8, t16, t24, x_or, x_and, ha32, Bool.false_eq_true] | with_reducible refine And.intro ?_ ?_
      all_goals exact done _ rfl
  · rintro e f G' ⟨rfl, ⟨rfl, ha, hg⟩ | ⟨rfl, ha, hg⟩⟩
    · rw [skip32, if_pos ⟨by omega, ha⟩] at hs
      exact ⟨(c.drop 32).length, by simp; omega, rfl, _, _, k, rfl, hC.drop 32, by simp; omega, by simp; omega, hs, fun b hb => hsc b (List.mem_of_mem_drop hb), .cons hg .nil⟩
    · have e : skip32 c3.length c3 = c := by rw [← hs, skip32_stop (fun h => ha h.2)]
      exact fin _ c _ e hC hkl hsc (.cons hg .nil)

set_option maxRecDepth 100000 in
set_option maxHeartbeats 4000000 in
theorem valid_calls {H : Heap} (hT : Tabs H) {id off : Nat} {bs : List Int} (hp : SL H (.slice id off bs.length none) 1 (byteR bs)) (hl : bs.length ≤ big) (hr : ∀ b ∈ bs, 0 ≤ b ∧ b < 256) :
    SCalls PP 154 [.slice id off bs.length none] H fun r H' => H' = H ∧ r = .bool (vF bs.length bs) := by
  refine SCalls.keep (R := fun r => r = .bool (vF bs.length bs)) (SCalls.go c154 (by simp [fn154]) fun hw => ?_)
  unfold big at hl
  have hlen : ∀ (id off n : Nat) c G, exec .len [.slice id off n c] G = some (.int .i64 n, G) := fun _ _ _ _ _ => rfl
  have hfull : exec (.slc 1 false true true) [.slice id off bs.length none, .int .i64 bs.length, .int .i64 bs.length] H = some (.slice id off bs.length (some bs.length), H) := by
    simp [exec, bounds3, natV, slcOk]
  simp only [fn154, enterFr, List.length, List.range, List.range.loop, List.zip, List.zipWith, stp, if_true, if_false, Int.reduceEq, Int.reduceLT, Int.reduceLE, Int.reduceGT, Int.reduceGE, reduceCtorEq, Nat.reduceEqDiff, List.getElem?_cons_zero, List.getElem?_cons_succ, Option.map_some, hlen, hfull]
  refine wp_loopI (fun m fr G => ∃ (off : Nat) (cur : List Int) (n : Nat), m = cur.length ∧ Ext H G ∧ WF G ∧ Byt G id off cur ∧ cur.length ≤ n ∧ vF n cur = vF bs.length bs ∧ (∀ b ∈ cur, 0 ≤ b ∧ b < 256) ∧ cur.length ≤ 1048576 ∧
    FrSub [(0, .slice id off cur.length (some cur.length))] fr) bs.length ⟨off, bs, bs.length, rfl, Ext.refl H, hw, by have := sl_drop (k := 0) (c' := some bs.length) hp; simpa [Byt] using this, Nat.le_refl _, rfl, hr, hl, .cons rfl .nil⟩ ?_
  rintro m fr G ⟨off, cur, n, rfl, hx, hw', hB, hn, hv, hrg, hcl, hsub⟩
  refine ⟨_, hsub, ?_⟩
  rcases hc : cur with _ | ⟨b0, t⟩
  · subst hc
    simp only [stp, if_true, if_false, Int.reduceEq, Int.reduceLT, Int.reduceLE, Int.reduceGT, Int.reduceGE, reduceCtorEq, Nat.reduceEqDiff, List.getElem?_cons_zero, List.getElem?_cons_succ, Option.map_some, hlen, List.length_nil, Int.natCast_zero, gt_iff_lt, Int.lt_irrefl]
    rw [vF_nil] at hv
    exact ⟨hx, by rw [← hv], rfl⟩
  rw [← hc]
  have hpos : (cur.length : Int) > 0 := by rw [hc, List.length_cons]; omega
  obtain ⟨n, rfl⟩ : ∃ k, n = k + 1 := ⟨n - 1, by omega⟩
  rw [hc, vF, ← hc] at hv
  have hb0 : cur.getD 0 0 = b0 := by rw [hc]; rfl
  obtain ⟨i0, d0⟩ := hB.ia (i := 0) (by omega)
  rw [hb0] at d0
  have i0' : exec (.ia 1) [.slice id off cur.length (some cur.length), .int .i64 0] G = some (.ptr id (off + 0), G) := i0
  obtain ⟨g0, g1⟩ := hrg b0 (by rw [hc]; simp)
  have drp : ∀ k, ∀ b ∈ cur.drop k, 0 ≤ b ∧ b < 256 := fun k b hb => hrg b (List.mem_of_mem_drop hb)
  by_cases ha : b0 < 128
  · -- ASCII
    have hv' : vF n (skipA (cur.drop 1)) = vF bs.length bs := by rw [← hv]; simp only [vStep, if_pos ha]
    have s1 : exec (.slc 1 true false false) [.slice id off cur.length (some cur.length), .int .i64 1] G = some (.slice id (off + 1 * 1) (cur.drop 1).length (some (cur.drop 1).length), G) := hB.slc (k := 1) (by omega)
    have hB1 := hB.drop 1
    have hl1 : (cur.drop 1).length = cur.length - 1 := by simp
    generalize hc1 : cur.drop 1 = c1 at *
    have hsm : ∀ b ∈ c1, 0 ≤ b ∧ b < 256 := by rw [← hc1]; exact drp 1
    have fin : ∀ (off' : Nat) (c2 : List Int) (fr2 : Fr), skipA c1 = c2 → Byt G id off' c2 → c2.length ≤ c1.length → (∀ b ∈ c2, 0 ≤ b ∧ b < 256) → FrSub [(0, .slice id off' c2.length (some c2.length))] fr2 →
        ∃ k', k' < cur.length ∧ ∃ (off : Nat) (cur : List Int) (n : Nat), k' = cur.length ∧ Ext H G ∧ WF G ∧ Byt G id off cur ∧ cur.length ≤ n ∧ vF n cur = vF bs.length bs ∧ (∀ b ∈ cur, 0 ≤ b ∧ b < 256) ∧ cur.length ≤ 1048576 ∧ FrSub [(0, .slice id off cur.length (some cur.length))] fr2 := by
      intro off' c2 fr2 e1 e2 e3 e4 e5
      exact ⟨c2.length, by omega, off', c2, n, rfl, hx, hw', e2, by omega, by rw [← e1]; exact hv', e4, by omega, e5⟩
    by_cases h8 : (c1.length : Int) > 8
    rotate_left
    · have e : skipA c1 = c1 := by rw [skipA, if_neg (by omega)]
      simp only [stp, if_true, if_false, Int.reduceEq, Int.reduceLT, Int.reduceLE, Int.reduceGT, Int.reduceGE, reduceCtorEq, Nat.reduceEqDiff, List.getElem?_cons_zero, List.getElem?_cons_succ, Option.map_some, hlen, hpos, i0', d0, ha, s1, h8, Bool.false_eq_true]
      exact fin _ c1 _ e hB1 (Nat.le_refl _) hsm (.cons rfl .nil)
    have w1 := word_ok hB1 (by omega : 8 ≤ c1.length)
    by_cases ha8 : and64 (wordF c1) hi64 = 0
    rotate_left
    · have e : skipA c1 = c1 := by rw [skipA, if_neg (fun h => ha8 h.2)]
      simp only [stp, if_true, if_false, Int.reduceEq, Int.reduceLT, Int.reduceLE, Int.reduceGT, Int.reduceGE, reduceCtorEq, Nat.reduceEqDiff, List.getElem?_cons_zero, List.getElem?_cons_succ, Option.map_some, hlen, hpos, i0', d0, ha, s1, h8, Bool.false_eq_true]
      refine w1 _ ?_
      simp only [stp, if_true, if_false, Int.reduceEq, Int.reduceLT, Int.reduceLE, Int.reduceGT, Int.reduceGE, reduceCtorEq, Nat.reduceEqDiff, List.getElem?_cons_zero, List.getElem?_cons_succ, Option.map_some, x_and, ha8, Bool.false_eq_true]
      exact fin _ c1 _ e hB1 (Nat.le_refl _) hsm (.cons rfl .nil)
    have s8 : exec (.slc 1 true false false) [.slice id (off + 1 * 1) c1.length (some c1.length), .int .i64 8] G = some (.slice id (off + 1 * 1 + 8 * 1) (c1.drop 8).length (some (c1.drop 8).length), G) := hB1.slc (k := 8) (by omega)
    have hB2 := hB1.drop 8
    have e0 : skipA c1 = if 16 < (c1.drop 8).length ∧ and64 (or64 (wordF (c1.drop 8)) (wordF ((c1.drop 8).drop 8))) hi64 = 0 then skip32 ((c1.drop 8).drop 16).length ((c1.drop 8).drop 16) else c1.drop 8 := by rw [skipA, if_pos ⟨by omega, ha8⟩]
    have hl2 : (c1.drop 8).length = c1.length - 8 := by simp
    have hsm2 : ∀ b ∈ c1.drop 8, 0 ≤ b ∧ b < 256 := fun b hb => hsm b (List.mem_of_mem_drop hb)
    generalize hc2 : c1.drop 8 = c2 at *
    by_cases h16 : (c2.length : Int) > 16
    rotate_left
    · have e : skipA c1 = c2 := by rw [e0, if_neg (by omega)]
      simp only [stp, if_true, if_false, Int.reduceEq, Int.reduceLT, Int.reduceLE, Int.reduceGT, Int.reduceGE, reduceCtorEq, Nat.reduceEqDiff, List.getElem?_cons_zero, List.getElem?_cons_succ, Option.map_some, hlen, hpos, i0', d0, ha, s1, h8, Bool.false_eq_true]
      refine w1 _ ?_
      simp only [stp, if_true, if_false, Int.reduceEq, Int.reduceLT, Int.reduceLE, Int.reduceGT, Int.reduceGE, reduceCtorEq, Nat.reduceEqDiff, List.getElem?_cons_zero, List.getElem?_cons_succ, Option.map_some, x_and, ha8, Bool.false_eq_true, s8, hlen, h16]
      constructor <;> exact fin _ c2 _ e hB2 (by omega) hsm2 (.cons rfl .nil)
    have w2 := word_ok hB2 (by omega : 8 ≤ c2.length)
    have s9 : exec (.slc 1 true false false) [.slice id (off + 1 * 1 + 8 * 1) c2.length (some c2.length), .int .i64 8] G = some (.slice id (off + 1 * 1 + 8 * 1 + 8 * 1) (c2.drop 8).length (some (c2.drop 8).length), G) := hB2.slc (k := 8) (by omega)
    have w3 := word_ok (hB2.drop 8) (by simp; omega : 8 ≤ (c2.drop 8).length)
    by_cases ha16 : and64 (or64 (wordF c2) (wordF (c2.drop 8))) hi64 = 0
    rotate_left
    · have e : skipA c1 = c2 := by rw [e0, if_neg (fun h => ha16 h.2)]
      simp only [stp, if_true, if_false, Int.reduceEq, Int.reduceLT, Int.reduceLE, Int.reduceGT, Int.reduceGE, reduceCtorEq, Nat.reduceEqDiff, List.getElem?_cons_zero, List.getElem?_cons_succ, Option.map_some, hlen, hpos, i0', d0, ha, s1, h8, Bool.false_eq_true]
      refine w1 _ ?_
      simp only [stp, if_true, if_false, Int.reduceEq, Int.reduceLT, Int.reduceLE, Int.reduceGT, Int.reduceGE, reduceCtorEq, Nat.reduceEqDiff, List.getElem?_cons_zero, List.getElem?_cons_succ, Option.map_some, x_and, ha8, Bool.false_eq_true, s8, hlen, h16]
      repeat' first | with_reducible refine w2 _ ?_ | with_reducible refine w3 _ ?_ | simp only [stp, if_true, if_false, Int.reduceEq, Int.reduceLT, Int.reduceLE, Int.reduceGT, Int.reduceGE, reduceCtorEq, Nat.reduceEqDiff, List.getElem?_cons_zero, List.getElem?_cons_succ, Option.map_some, s9, x_or, x_and, ha16, Bool.false_eq_true] | with_reducible refine And.intro ?_ ?_
      all_goals exact fin _ c2 _ e hB2 (by omega) hsm2 (.cons rfl .nil)
    have s16 : exec (.slc 1 true false false) [.slice id (off + 1 * 1 + 8 * 1) c2.length (some c2.length), .int .i64 16] G = some (.slice id (off + 1 * 1 + 8 * 1 + 16 * 1) (c2.drop 16).length (some (c2.drop 16).length), G) := hB2.slc (k := 16) (by omega)
    have e1 : skipA c1 = skip32 (c2.drop 16).length (c2.drop 16) := by rw [e0, if_pos ⟨by omega, ha16⟩]
    have hB3 := hB2.drop 16
    have hl3 : (c2.drop 16).length = c2.length - 16 := by simp
    have hsm3 : ∀ b ∈ c2.drop 16, 0 ≤ b ∧ b < 256 := fun b hb => hsm2 b (List.mem_of_mem_drop hb)
    generalize hc3 : c2.drop 16 = c3 at *
    simp only [stp, if_true, if_false, Int.reduceEq, Int.reduceLT, Int.reduceLE, Int.reduceGT, Int.reduceGE, reduceCtorEq, Nat.reduceEqDiff, List.getElem?_cons_zero, List.getElem?_cons_succ, Option.map_some, hlen, hpos, i0', d0, ha, s1, h8, Bool.false_eq_true]
    refine w1 _ ?_
    simp only [stp, if_true, if_false, Int.reduceEq, Int.reduceLT, Int.reduceLE, Int.reduceGT, Int.reduceGE, reduceCtorEq, Nat.reduceEqDiff, List.getElem?_cons_zero, List.getElem?_cons_succ, Option.map_some, x_and, ha8, Bool.false_eq_true, s8, hlen, h16]
    repeat' first | with_reducible refine w2 _ ?_ | with_reducible refine w3 _ ?_ | simp only [stp, if_true, if_false, Int.reduceEq, Int.reduceLT, Int.reduceLE, Int.reduceGT, Int.reduceGE, reduceCtorEq, Nat.reduceEqDiff, List.getElem?_cons_zero, List.getElem?_cons_succ, Option.map_some, s9, x_or, x_and, ha16, s16, Bool.false_eq_true] | with_reducible refine And.intro ?_ ?_
    all_goals
      refine inner32 hB3 (by omega) hsm3 (fun off c fr2 q1 q2 q3 q4 q5 => ?_) rfl
      simp only [stp, if_true, if_false, Int.reduceEq, Int.reduceLT, Int.reduceLE, Int.reduceGT, Int.reduceGE, reduceCtorEq, Nat.reduceEqDiff, List.getElem?_cons_zero, List.getElem?_cons_succ, Option.map_some]
      exact fin off c fr2 (by rw [e1, q1]) q2 (by omega) q4 q5
  · -- the tables
    have hTG := hT.ext hx
    have gn1 : ∀ f, (X.g 1).ev f G = some (.ptr 1 0) := fun f => by simp only [X.ev]; rw [if_pos (by have := hTG.gn; omega)]
    have gn2 : ∀ f, (X.g 2).ev f G = some (.ptr 2 0) := fun f => by simp only [X.ev]; rw [if_pos (by have := hTG.gn; omega)]
    obtain ⟨f1, f2⟩ := first_ia hTG g0 g1
    obtain ⟨a1, a2⟩ := acc_ia hTG g0 g1
    obtain ⟨G2, hx2, hw2, ha2, hal, hst⟩ := x_copy (Ext.refl G) hw' (z := [.int .u8 0, .int .u8 0]) (e := [.int .u8 (loT b0), .int .u8 (hiT b0)]) (n := 2) rfl rfl rfl rfl
    have l0 := ha2.ld (j := 0) (v := .int .u8 (loT b0)) rfl 1
    have l1 := ha2.ld (j := 1) (v := .int .u8 (hiT b0)) rfl 1
    have hxx := hx.trans hx2
    have hB2 := hB.ext hx2
    have bad : vStep b0 cur = none → vF bs.length bs = false := fun e => by rw [← hv, e]
    have good : ∀ k, 1 ≤ k → k ≤ cur.length → vStep b0 cur = some (cur.drop k) → ∀ fr2, FrSub [(0, .slice id (off + k * 1) (cur.drop k).length (some (cur.drop k).length))] fr2 →
        ∃ k', k' < cur.length ∧ ∃ (off : Nat) (cur : List Int) (n : Nat), k' = cur.length ∧ Ext H G2 ∧ WF G2 ∧ Byt G2 id off cur ∧ cur.length ≤ n ∧ vF n cur = vF bs.length bs ∧ (∀ b ∈ cur, 0 ≤ b ∧ b < 256) ∧ cur.length ≤ 1048576 ∧ FrSub [(0, .slice id off cur.length (some cur.length))] fr2 := by
      intro k h1 h2 h3 fr2 h4
      rw [h3] at hv
      exact ⟨(cur.drop k).length, by simp; omega, _, cur.drop k, n, rfl, hxx, hw2, hB2.drop k, by simp; omega, hv, drp k, by simp; omega, h4⟩
    have bytes : ∀ i : Nat, i < cur.length → exec (.ia 1) [.slice id off cur.length (some cur.length), .int .i64 i] G2 = some (.ptr id (off + i), G2) ∧ exec (.ld 1) [.ptr id (off + i)] G2 = some (.int .u8 (cur.getD i 0), G2) := fun i hi => hB2.ia hi
    have rest : exec (.toInt .i64) [.int .u8 (IntKind.u8.wrap (BitVec.ofInt 8 (firstT.getD b0.toNat 0) &&& BitVec.ofInt 8 7).toNat)] G = some (.int .i64 (sizeT b0), G) := rfl
    have hsh : exec (.ibin .shr) [.int .u8 (firstT.getD b0.toNat 0), .int .u64 4] G = some (.int .u8 (accI b0), G) := rfl
    simp only [stp, if_true, if_false, Int.reduceEq, Int.reduceLT, Int.reduceLE, Int.reduceGT, Int.reduceGE, reduceCtorEq, Nat.reduceEqDiff, List.getElem?_cons_zero, List.getElem?_cons_succ, Option.map_some, hlen, hpos, i0', d0, ha, gn1, gn2, f1, f2, x_and8, rest, hsh, a1, a2, hal, hst, Bool.false_eq_true]
    by_cases s2 : sizeT b0 = 2
    · have vs : vStep b0 cur = if cur.length < 2 ∨ cur.getD 1 0 < loT b0 ∨ hiT b0 < cur.getD 1 0 then none else some (cur.drop 2) := by rw [vStep, if_neg ha, if_pos s2]
      by_cases hn : (cur.length : Int) < 2
      · simp only [stp, if_true, if_false, Int.reduceEq, Int.reduceLT, Int.reduceLE, Int.reduceGT, Int.reduceGE, reduceCtorEq, Nat.reduceEqDiff, List.getElem?_cons_zero, List.getElem?_cons_succ, Option.map_some, hlen, s2, hn]
        exact ⟨hxx, by rw [bad (by rw [vs, if_pos (by omega)])], rfl⟩
      obtain ⟨p1, q1⟩ := bytes 1 (by omega)
      have p1' : exec (.ia 1) [.slice id off cur.length (some cur.length), .int .i64 1] G2 = some (.ptr id (off + 1), G2) := p1
      by_cases c1 : cur.getD 1 0 < loT b0
      · simp only [stp, if_true, if_false, Int.reduceEq, Int.reduceLT, Int.reduceLE, Int.reduceGT, Int.reduceGE, reduceCtorEq, Nat.reduceEqDiff, List.getElem?_cons_zero, List.getElem?_cons_succ, Option.map_some, hlen, s2, hn, p1', q1, l0, l1, c1]
        exact ⟨hxx, by rw [bad (by rw [vs, if_pos (by omega)])], rfl⟩
      by_cases c2 : hiT b0 < cur.getD 1 0
      · simp only [stp, if_true, if_false, Int.reduceEq, Int.reduceLT, Int.reduceLE, Int.reduceGT, Int.reduceGE, reduceCtorEq, Nat.reduceEqDiff, List.getElem?_cons_zero, List.getElem?_cons_succ, Option.map_some, hlen, s2, hn, p1', q1, l0, l1, c1, c2]
        exact ⟨hxx, by rw [bad (by rw [vs, if_pos (by omega)])], rfl⟩
      have sl : exec (.slc 1 true false false) [.slice id off cur.length (some cur.length), .int .i64 2] G2 = some (.slice id (off + 2 * 1) (cur.drop 2).length (some (cur.drop 2).length), G2) := hB2.slc (k := 2) (by omega)
      simp only [stp, if_true, if_false, Int.reduceEq, Int.reduceLT, Int.reduceLE, Int.reduceGT, Int.reduceGE, reduceCtorEq, Nat.reduceEqDiff, List.getElem?_cons_zero, List.getElem?_cons_succ, Option.map_some, hlen, s2, hn, p1', q1, l0, l1, c1, c2, sl, Bool.false_eq_true]
      exact good 2 (by omega) (by omega) (by rw [vs, if_neg (by omega)]) _ (.cons rfl .nil)
    by_cases s3 : sizeT b0 = 3
    · have vs : vStep b0 cur = if cur.length < 3 ∨ cur.getD 1 0 < loT b0 ∨ hiT b0 < cur.getD 1 0 ∨ cur.getD 2 0 < 128 ∨ 191 < cur.getD 2 0 then none else some (cur.drop 3) := by rw [vStep, if_neg ha, if_neg s2, if_pos s3]
      by_cases hn : (cur.length : Int) < 3
      · simp only [stp, if_true, if_false, Int.reduceEq, Int.reduceLT, Int.reduceLE, Int.reduceGT, Int.reduceGE, reduceCtorEq, Nat.reduceEqDiff, List.getElem?_cons_zero, List.getElem?_cons_succ, Option.map_some, hlen, s2, s3, hn]
        exact ⟨hxx, by rw [bad (by rw [vs, if_pos (by omega)])], rfl⟩
      obtain ⟨p1, q1⟩ := bytes 1 (by omega)
      have p1' : exec (.ia 1) [.slice id off cur.length (some cur.length), .int .i64 1] G2 = some (.ptr id (off + 1), G2) := p1
      obtain ⟨p2, q2⟩ := bytes 2 (by omega)
      have p2' : exec (.ia 1) [.slice id off cur.length (some cur.length), .int .i64 2] G2 = some (.ptr id (off + 2), G2) := p2
      by_cases c1 : cur.getD 1 0 < loT b0
      · simp only [stp, if_true, if_false, Int.reduceEq, Int.reduceLT, Int.reduceLE, Int.reduceGT, Int.reduceGE, reduceCtorEq, Nat.reduceEqDiff, List.getElem?_cons_zero, List.getElem?_cons_succ, Option.map_some, hlen, s2, s3, hn, p1', q1, l0, l1, c1]
        exact ⟨hxx, by rw [bad (by rw [vs, if_pos (by omega)])], rfl⟩
      by_cases c2 : hiT b0 < cur.getD 1 0
      · simp only [stp, if_true, if_false, Int.reduceEq, Int.reduceLT, Int.reduceLE, Int.reduceGT, Int.reduceGE, reduceCtorEq, Nat.reduceEqDiff, List.getElem?_cons_zero, List.getElem?_cons_succ, Option.map_some, hlen, s2, s3, hn, p1', q1, l0, l1, c1, c2]
        exact ⟨hxx, by rw [bad (by rw [vs, if_pos (by omega)])], rfl⟩
      by_cases c3 : cur.getD 2 0 < 128
      · simp only [stp, if_true, if_false, Int.reduceEq, Int.reduceLT, Int.reduceLE, Int.reduceGT, Int.reduceGE, reduceCtorEq, Nat.reduceEqDiff, List.getElem?_cons_zero, List.getElem?_cons_succ, Option.map_some, hlen, s2, s3, hn, p1', q1, l0, l1, c1, c2, p2', q2, c3]
        exact ⟨hxx, by rw [bad (by rw [vs, if_pos (by omega)])], rfl⟩
      by_cases c4 : 191 < cur.getD 2 0
      · simp only [stp, if_true, if_false, Int.reduceEq, Int.reduceLT, Int.reduceLE, Int.reduceGT, Int.reduceGE, reduceCtorEq, Nat.reduceEqDiff, List.getElem?_cons_zero, List.getElem?_cons_succ, Option.map_some, hlen, s2, s3, hn, p1', q1, l0, l1, c1, c2, p2', q2, c3, c4]
        exact ⟨hxx, by rw [bad (by rw [vs, if_pos (by omega)])], rfl⟩
      have sl : exec (.slc 1 true false false) [.slice id off cur.length (some cur.length), .int .i64 3] G2 = some (.slice id (off + 3 * 1) (cur.drop 3).length (some (cur.drop 3).length), G2) := hB2.slc (k := 3) (by omega)
      simp only [stp, if_true, if_false, Int.reduceEq, Int.reduceLT, Int.reduceLE, Int.reduceGT, Int.reduceGE, reduceCtorEq, Nat.reduceEqDiff, List.getElem?_cons_zero, List.getElem?_cons_succ, Option.map_some, hlen, s2, s3, hn, p1', q1, l0, l1, c1, c2, p2', q2, c3, c4, sl, Bool.false_eq_true]
      exact good 3 (by omega) (by omega) (by rw [vs, if_neg (by omega)]) _ (.cons rfl .nil)
    by_cases s4 : sizeT b0 = 4
    · have vs : vStep b0 cur = if cur.length < 4 ∨ cur.getD 1 0 < loT b0 ∨ hiT b0 < cur.getD 1 0 ∨ cur.getD 2 0 < 128 ∨ 191 < cur.getD 2 0 ∨ cur.getD 3 0 < 128 ∨ 191 < cur.getD 3 0 then none else some (cur.drop 4) := by rw [vStep, if_neg ha, if_neg s2, if_neg s3, if_pos s4]
      by_cases hn : (cur.length : Int) < 4
      · simp only [stp, if_true, if_false, Int.reduceEq, Int.reduceLT, Int.reduceLE, Int.reduceGT, Int.reduceGE, reduceCtorEq, Nat.reduceEqDiff, List.getElem?_cons_zero, List.getElem?_cons_succ, Option.map_some, hlen, s2, s3, s4, hn]
        exact ⟨hxx, by rw [bad (by rw [vs, if_pos (by omega)])], rfl⟩
      obtain ⟨p1, q1⟩ := bytes 1 (by omega)
      have p1' : exec (.ia 1) [.slice id off cur.length (some cur.length), .int .i64 1] G2 = some (.ptr id (off + 1), G2) := p1
      obtain ⟨p2, q2⟩ := bytes 2 (by omega)
      have p2' : exec (.ia 1) [.slice id off cur.length (some cur.length), .int .i64 2] G2 = some (.ptr id (off + 2), G2) := p2
      obtain ⟨p3, q3⟩ := bytes 3 (by omega)
      have p3' : exec (.ia 1) [.slice id off cur.length (some cur.length), .int .i64 3] G2 = some (.ptr id (off + 3), G2) := p3
      by_cases c1 : cur.getD 1 0 < loT b0
      · simp only [stp, if_true, if_false, Int.reduceEq, Int.reduceLT, Int.reduceLE, Int.reduceGT, Int.reduceGE, reduceCtorEq, Nat.reduceEqDiff, List.getElem?_cons_zero, List.getElem?_cons_succ, Option.map_some, hlen, s2, s3, s4, hn, p1', q1, l0, l1, c1]
        exact ⟨hxx, by rw [bad (by rw [vs, if_pos (by omega)])], rfl⟩
      by_cases c2 : hiT b0 < cur.getD 1 0
      · simp only [stp, if_true, if_false, Int.reduceEq, Int.reduceLT, Int.reduceLE, Int.reduceGT, Int.reduceGE, reduceCtorEq, Nat.reduceEqDiff, List.getElem?_cons_zero, List.getElem?_cons_succ, Option.map_some, hlen, s2, s3, s4, hn, p1', q1, l0, l1, c1, c2]
        exact ⟨hxx, by rw [bad (by rw [vs, if_pos (by omega)])], rfl⟩
      by_cases c3 : cur.getD 2 0 < 128
      · simp only [stp, if_true, if_false, Int.reduceEq, Int.reduceLT, Int.reduceLE, Int.reduceGT, Int.reduceGE, reduceCtorEq, Nat.reduceEqDiff, List.getElem?_cons_zero, List.getElem?_cons_succ, Option.map_some, hlen, s2, s3, s4, hn, p1', q1, l0, l1, c1, c2, p2', q2, c3]
        exact ⟨hxx, by rw [bad (by rw [vs, if_pos (by omega)])], rfl⟩
      by_cases c4 : 191 < cur.getD 2 0
      · simp only [stp, if_true, if_false, Int.reduceEq, Int.reduceLT, Int.reduceLE, Int.reduceGT, Int.reduceGE, reduceCtorEq, Nat.reduceEqDiff, List.getElem?_cons_zero, List.getElem?_cons_succ, Option.map_some, hlen, s2, s3, s4, hn, p1', q1, l0, l1, c1, c2, p2', q2, c3, c4]
        exact ⟨hxx, by rw [bad (by rw [vs, if_pos (by omega)])], rfl⟩
      by_cases c5 : cur.getD 3 0 < 128
      · simp only [stp, if_true, if_false, Int.reduceEq, Int.reduceLT, Int.reduceLE, Int.reduceGT, Int.reduceGE, reduceCtorEq, Nat.reduceEqDiff, List.getElem?_cons_zero, List.getElem?_cons_succ, Option.map_some, hlen, s2, s3, s4, hn, p1', q1, l0, l1, c1, c2, p2', q2, c3, c4, p3', q3, c5]
        exact ⟨hxx, by rw [bad (by rw [vs, if_pos (by omega)])], rfl⟩
      by_cases c6 : 191 < cur.getD 3 0
      · simp only [stp, if_true, if_false, Int.reduceEq, Int.reduceLT, Int.reduceLE, Int.reduceGT, Int.reduceGE, reduceCtorEq, Nat.reduceEqDiff, List.getElem?_cons_zero, List.getElem?_cons_succ, Option.map_some, hlen, s2, s3, s4, hn, p1', q1, l0, l1, c1, c2, p2', q2, c3, c4, p3', q3, c5, c6]
        exact ⟨hxx, by rw [bad (by rw [vs, if_pos (by omega)])], rfl⟩
      have sl : exec (.slc 1 true false false) [.slice id off cur.length (some cur.length), .int .i64 4] G2 = some (.slice id (off + 4 * 1) (cur.drop 4).length (some (cur.drop 4).length), G2) := hB2.slc (k := 4) (by omega)
      simp only [stp, if_true, if_false, Int.reduceEq, Int.reduceLT, Int.reduceLE, Int.reduceGT, Int.reduceGE, reduceCtorEq, Nat.reduceEqDiff, List.getElem?_cons_zero, List.getElem?_cons_succ, Option.map_some, hlen, s2, s3, s4, hn, p1', q1, l0, l1, c1, c2, p2', q2, c3, c4, p3', q3, c5, c6, sl, Bool.false_eq_true]
      exact good 4 (by omega) (by omega) (by rw [vs, if_neg (by omega)]) _ (.cons rfl .nil)
    have vs : vStep b0 cur = none := by rw [vStep, if_neg ha, if_neg s2, if_neg s3, if_neg s4]
    simp only [stp, if_true, if_false, Int.reduceEq, Int.reduceLT, Int.reduceLE, Int.reduceGT, Int.reduceGE, reduceCtorEq, Nat.reduceEqDiff, List.getElem?_cons_zero, List.getElem?_cons_succ, Option.map_some, s2, s3, s4]
    exact ⟨hxx, by rw [bad vs], rfl⟩
end Go.Proofs.YtkmaikggdbielaaGreatDoor.Fw

/- utf8.Valid's contract as it is asked for. No condition. -/
namespace Go.Proofs.YtkmaikggdbielaaGreatDoor.Fw
open Go
set_option linter.unusedSimpArgs false
set_option linter.unusedVariables false

def intsB (s : ByteArray) : List Int := s.data.toList.map fun b => (b.toNat : Int)
theorem intsB_len (s : ByteArray) : (intsB s).length = s.size := by rw [intsB, List.length_map]; rfl
theorem intsB_cells (s : ByteArray) : (intsB s).map (V.int .u8) = bytesV s := by simp [intsB, bytesV, Function.comp_def]
def validS (s : ByteArray) : Bool := vF (intsB s).length (intsB s)
theorem sl_bytes {H : Heap} {id : Nat} {s : ByteArray} (hid : id < H.next) (hg : H.get id = some (.row false 1 (bytesV s))) : SL H (.slice id 0 (intsB s).length none) 1 (byteR (intsB s)) := by
  refine ⟨fun e he => by obtain ⟨b, _, rfl⟩ := List.mem_map.1 he; exact ⟨rfl, rfl⟩, .inr ⟨id, 0, none, by rw [List.length_map], hid, fun i e he => ?_⟩⟩
  have hi : i < (intsB s).length := by have := (List.getElem?_eq_some_iff.1 he).1; simpa using this
  have hl : (bytesV s).length = (intsB s).length := by rw [← intsB_cells, List.length_map]
  refine ⟨hid, false, 1, bytesV s, hg, ?_, fun j v hj => ?_⟩
  · simp [hi] at he; subst he; simp; omega
  · simp [hi] at he; subst he
    match j, hj with
    | 0, hj =>
      simp at hj; subst hj
      rw [← intsB_cells]; simp [hi]
    | j + 1, hj => simp at hj
theorem validIs : ValidIs validS := by
  intro s H id hT hs hid hg
  have := valid_calls hT (off := 0) (sl_bytes hid hg) (by rw [intsB_len]; unfold big; omega) fun b hb => by
    obtain ⟨c, _, rfl⟩ := List.mem_map.1 hb
    have := c.toNat_lt
    omega
  rw [intsB_len] at this
  rw [validS, intsB_len]
  exact this
end Go.Proofs.YtkmaikggdbielaaGreatDoor.Fw

