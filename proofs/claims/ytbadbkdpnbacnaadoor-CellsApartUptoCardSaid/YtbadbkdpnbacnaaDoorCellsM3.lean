/- Part 3 of the proof. Two rows of cells are the same exactly if their deltas are, and then their texts are the same too (CellsApart). The one condition: the arguments hold together at most 2^20 data, as the statement's own bound says. -/
import Derived.Test.YtbadbkdpnbacnaaDoorCellsM2

/- What functions of the program answer: DeleteFunc on attributes. No condition. -/
namespace Go.Proofs.YtbadbkdpnbacnaaDoor.Fw
open Go
set_option linter.unusedSimpArgs false
set_option linter.unusedVariables false

theorem x_bbin (n a b : Bool) (H : Heap) : exec (.bbin n) [.bool a, .bool b] H = some (.bool ((a == b) != n), H) := rfl
/-- Whether a part leaves an attribute out. -/
def outA (ks : List KeyA) (block : Bool) (a : AttrA) : Bool := !(findK ks a.key).isSome || (((findK ks a.key).getD zeroK).block != block)
theorem part1_calls {s : V} {H : Heap} {ks : List KeyA} {p1 p2 : Nat} {b : Bool} (hs : Sch H s ks) (h1 : At H p1 0 [s]) (h2 : At H p2 0 [.bool b]) (a : AttrA) :
    SCalls PP 61 [.agg a.cells, .ptr p1 0, .ptr p2 0] H fun r H' => H' = H ∧ r = .bool (outA ks b a) := by
  refine SCalls.keep (R := fun r => r = .bool (outA ks b a)) (SCalls.go c61 (by simp [fn61]) fun hw => ?_)
  obtain ⟨H2, hx2, hw2, ha2, hbx⟩ := x_boxed (Ext.refl H) hw (e := a.cells) rfl
  have l0 := ha2.ld (j := 0) (v := .int .i64 a.key) rfl 1
  have ls := (h1.ext hx2).ld (j := 0) (v := s) rfl 1
  rw [Nat.add_zero] at ls
  simp only [fn61, enterFr, List.length, List.range, List.range.loop, List.zip, List.zipWith, stp, if_true, if_false, Int.reduceEq, Int.reduceLT, Int.reduceLE, Int.reduceGT, Int.reduceGE, reduceCtorEq, Nat.reduceEqDiff, List.getElem?_cons_zero, List.getElem?_cons_succ, Option.map_some, hbx, l0, ls]
  refine SCalls.mono (find_calls (hs.ext hx2) a.key) ?_
  rintro r H3 ⟨rfl, rfl⟩
  obtain ⟨H4, hx4, hw4, ha4, hal, hst⟩ := x_copy (Ext.refl H3) hw2 (z := zk) (e := foundC ks a.key) (n := 6) rfl rfl rfl rfl
  have k1 := ha4.ld (j := 1) (v := .bool ((findK ks a.key).getD zeroK).block) rfl 1
  have lb := (h2.ext (hx2.trans hx4)).ld (j := 0) (v := .bool b) rfl 1
  rw [Nat.add_zero] at lb
  cases hf : (findK ks a.key).isSome with
  | false =>
    simp only [stp, if_true, if_false, Int.reduceEq, Int.reduceLT, Int.reduceLE, Int.reduceGT, Int.reduceGE, reduceCtorEq, Nat.reduceEqDiff, List.getElem?_cons_zero, List.getElem?_cons_succ, Option.map_some, hal, hst, hf]
    exact ⟨hx2.trans hx4, by simp [outA, hf], rfl⟩
  | true =>
    simp only [stp, if_true, if_false, Int.reduceEq, Int.reduceLT, Int.reduceLE, Int.reduceGT, Int.reduceGE, reduceCtorEq, Nat.reduceEqDiff, List.getElem?_cons_zero, List.getElem?_cons_succ, Option.map_some, hal, hst, hf, k1, lb, x_bbin]
    refine ⟨hx2.trans hx4, ?_, rfl⟩
    simp only [outA, hf, Bool.not_true, Bool.false_or, Bool.false_eq_true, if_false]
    cases ((findK ks a.key).getD zeroK).block <;> cases b <;> rfl

def idxF (d : AttrA → Bool) : Nat → List AttrA → Int
  | _, [] => -1
  | k, a :: l => if d a then k else idxF d (k + 1) l
theorem indexFuncA_calls {x c1 c2 : V} {H : Heap} {l : List AttrA} {d : AttrA → Bool} (hx : SL H x 5 (l.map AttrA.cells)) (hl : l.length ≤ big)
    (hd : ∀ a ∈ l, SCalls PP 61 [.agg a.cells, c1, c2] H fun r H' => H' = H ∧ r = .bool (d a)) :
    SCalls PP 87 [x, .fn (.func 61) [] [c1, c2]] H fun r H' => H' = H ∧ r = .int .i64 (idxF d 0 l) := by
  refine SCalls.keep (R := fun r => r = .int .i64 (idxF d 0 l)) (SCalls.go c87 (by simp [fn87]) fun hw => ?_)
  unfold big at hl
  simp only [fn87, enterFr, List.length, List.range, List.range.loop, List.zip, List.zipWith, stp, if_true, if_false, Int.reduceEq, Int.reduceLT, Int.reduceLE, Int.reduceGT, Int.reduceGE, reduceCtorEq, Nat.reduceEqDiff, List.getElem?_cons_zero, List.getElem?_cons_succ, Option.map_some, hx.len]
  refine wp_range SCalls.scMono (by simp only [List.length_map]; omega) (fun _ : Unit => [(0, x), (1, .fn (.func 61) [] [c1, c2])]) (fun k _ H' => idxF d k (l.drop k) = idxF d 0 l ∧ H' = H) () ⟨rfl, rfl⟩
    (.cons rfl (.cons rfl (.cons rfl (.cons rfl .nil)))) (by decide) (fun s => ⟨rfl, rfl, rfl⟩) ?_ ?_
  · rintro k _ H' hk ⟨hacc, rfl⟩
    rw [List.length_map] at hk
    obtain ⟨id, p, hia, hat⟩ := hx.ia (H' := H') (i := k) (e := l[k].cells) (by simp [hk]) .i64
    rw [List.drop_eq_getElem_cons hk] at hacc
    simp only [idxF] at hacc
    simp only [stp, if_true, if_false, Int.reduceEq, Int.reduceLT, Int.reduceLE, Int.reduceGT, Int.reduceGE, reduceCtorEq, Nat.reduceEqDiff, List.getElem?_cons_zero, List.getElem?_cons_succ, Option.map_some, hia, hat.lda (n := 5) rfl, List.nil_append, List.cons_append]
    refine SCalls.mono (hd l[k] (List.getElem_mem hk)) ?_
    rintro v H2 ⟨rfl, rfl⟩
    cases hr : d l[k] with
    | false =>
      rw [hr, if_neg (by simp)] at hacc
      simp only [stp, if_true, if_false, Int.reduceEq, Int.reduceLT, Int.reduceLE, Int.reduceGT, Int.reduceGE, reduceCtorEq, Nat.reduceEqDiff, List.getElem?_cons_zero, List.getElem?_cons_succ, Option.map_some, hr]
      exact ⟨(), ⟨hacc, by trivial⟩, .cons rfl (.cons rfl (.cons rfl (.cons rfl .nil)))⟩
    | true =>
      rw [hr, if_pos rfl] at hacc
      simp only [stp, if_true, if_false, Int.reduceEq, Int.reduceLT, Int.reduceLE, Int.reduceGT, Int.reduceGE, reduceCtorEq, Nat.reduceEqDiff, List.getElem?_cons_zero, List.getElem?_cons_succ, Option.map_some, hr]
      exact ⟨Ext.refl _, congrArg (V.int .i64) hacc, rfl⟩
  · rintro _ H' ⟨hacc, rfl⟩
    simp only [stp, if_true, if_false, Int.reduceEq, Int.reduceLT, Int.reduceLE, Int.reduceGT, Int.reduceGE, reduceCtorEq, Nat.reduceEqDiff, List.getElem?_cons_zero, List.getElem?_cons_succ, Option.map_some]
    rw [List.length_map, List.drop_length] at hacc
    exact ⟨Ext.refl _, congrArg (V.int .i64) hacc, rfl⟩

def keepN (d : AttrA → Bool) : List AttrA → Nat
  | [] => 0
  | a :: l => (if d a then 0 else 1) + keepN d l
theorem idx_keep (d : AttrA → Bool) : ∀ (l : List AttrA) (k : Nat), (idxF d k l = -1 ∧ keepN d l = l.length) ∨ ∃ i, idxF d k l = ((k + i : Nat) : Int) ∧ i < l.length ∧ keepN d l = i + keepN d (l.drop (i + 1))
  | [], k => .inl ⟨rfl, rfl⟩
  | a :: l, k => by
    cases ha : d a with
    | true => exact .inr ⟨0, by simp [idxF, ha], by simp, by simp [keepN, ha]⟩
    | false =>
      rcases idx_keep d l (k + 1) with ⟨h1, h2⟩ | ⟨i, h1, h2, h3⟩
      · exact .inl ⟨by simp [idxF, ha, h1], by simp [keepN, ha, h2]; omega⟩
      · exact .inr ⟨i + 1, by simp [idxF, ha, h1]; omega, by simp; omega, by simp [keepN, ha, h3]; omega⟩

theorem set_flat {sz : Nat} : ∀ {es : List (List V)} (_ : ∀ e ∈ es, e.length = sz) {i : Nat} {e : List V}, i < es.length → e.length = sz → splice es.flatten (i * sz) e = (es.set i e).flatten
  | [], h, i, e, hi, he => by simp at hi
  | x :: es, h, 0, e, hi, he => by
    have hx := h x (by simp)
    simp only [splice, Nat.zero_mul, List.take_zero, List.nil_append, Nat.zero_add, List.flatten_cons, List.set_cons_zero]
    rw [List.drop_append_of_le_length (by omega), List.drop_of_length_le (by omega)]
    rfl
  | x :: es, h, i + 1, e, hi, he => by
    have hx := h x (by simp)
    have ih := set_flat (es := es) (fun y hy => h y (List.mem_cons_of_mem _ hy)) (i := i) (e := e) (by simpa using hi) he
    rw [List.set_cons_succ, show (x :: es.set i e).flatten = x ++ (es.set i e).flatten from List.flatten_cons, ← ih]
    simp only [splice, List.flatten_cons]
    have e1 : (i + 1) * sz = x.length + i * sz := by rw [Nat.add_mul, hx]; omega
    rw [e1, List.take_append, List.take_of_length_le (by omega), show x.length + i * sz + e.length = x.length + (i * sz + e.length) by omega, List.drop_append, List.drop_of_length_le (l := x) (by omega)]
    simp [List.append_assoc]

theorem Own.store {H : Heap} {id sz : Nat} {es : List (List V)} (h : Own H id sz es) {i : Nat} (hi : i < es.length) {e : List V} (he : e.length = sz) (ho : e.all V.one = true) :
    ∃ H', exec (.st sz) [.ptr id (0 + i * sz), .agg e] H = some (.undef, H') ∧ H' = H.set id (.row false sz (es.set i e).flatten) ∧ Own H' id sz (es.set i e) := by
  refine ⟨_, ?_, rfl, h.lt, set_get' _ _ _, fun y hy => ?_⟩
  · have hf := flatLen fun e he => (h.len e he).1
    have : (i + 1) * sz ≤ es.length * sz := Nat.mul_le_mul_right _ (by omega)
    rw [Nat.add_mul] at this
    have hwr : writeAt H id (0 + i * sz) e = some (H.set id (.row false sz (es.set i e).flatten)) := by
      unfold writeAt
      rw [h.get]
      simp only
      rw [if_pos ⟨by omega, ho⟩, Nat.zero_add, set_flat (fun e he => (h.len e he).1) hi he]
    show (if e.length = sz then (writeAt H id (0 + i * sz) e).map (V.undef, ·) else none) = _
    rw [if_pos he, hwr]
    rfl
  · rcases List.mem_or_eq_of_mem_set hy with hy | rfl
    · exact h.len y hy
    · exact ⟨he, ho⟩

theorem flatRep {sz : Nat} {z : List V} (hz : z.length = sz) (n : Nat) : (List.replicate n z).flatten.length = n * sz := by
  rw [flatLen (sz := sz) fun e he => by rw [List.eq_of_mem_replicate he]; exact hz, List.length_replicate]

theorem Own.ext {H H' : Heap} {id sz : Nat} {es : List (List V)} (h : Own H id sz es) (k : Ext H H') : Own H' id sz es :=
  ⟨Nat.lt_of_lt_of_le h.lt k.next, by rw [k.get id h.lt]; exact h.get, h.len⟩
theorem x_iax {H : Heap} {id n i sz : Nat} (hi : i < n) : exec (.ia sz) [.slice id 0 n none, .int .i64 i] H = some (.ptr id (0 + i * sz), H) := by
  simp only [exec]
  rw [if_pos ⟨by omega, by omega⟩]
  rfl
theorem x_slc_lo {H : Heap} {id n i sz : Nat} {cells : List V} (hg : H.get id = some (.row false sz cells)) (hi : i ≤ n) : exec (.slc sz true false false) [.slice id 0 n none, .int .i64 i] H = some (.slice id (0 + i * sz) (n - i) none, H) := by
  have hb : bounds3 true false false n ((none : Option Nat).getD n) [V.int .i64 i] = some (i, n, n) := by
    simp [bounds3, natV]
  simp only [exec, hb]
  rw [if_pos ⟨hi, Nat.le_refl _, Nat.le_refl _, by simp [slcOk, hg]⟩]
theorem x_slc_hi {H : Heap} {id n i sz : Nat} {cells : List V} (hg : H.get id = some (.row false sz cells)) (hi : i ≤ n) : exec (.slc sz false true false) [.slice id 0 n none, .int .i64 i] H = some (.slice id (0 + 0 * sz) (i - 0) none, H) := by
  have hb : bounds3 false true false n ((none : Option Nat).getD n) [V.int .i64 i] = some (0, i, n) := by
    simp [bounds3, natV]
  simp only [exec, hb]
  rw [if_pos ⟨Nat.zero_le _, hi, Nat.le_refl _, by simp [slcOk, hg]⟩]
theorem x_clear {H : Heap} {id off m sz : Nat} {cells z : List V} (hg : H.get id = some (.row false sz cells)) (hz : z.length = sz) (hzo : z.all V.one = true) (hm : off + m * sz ≤ cells.length) :
    ∃ H', exec (.clear z) [.slice id off m none] H = some (.undef, H') ∧ (H' = H ∨ ∃ cs, H' = H.set id (.row false sz cs)) := by
  cases m with
  | zero => exact ⟨H, rfl, .inl rfl⟩
  | succ m =>
    refine ⟨H.set id (.row false sz (splice cells off (List.replicate (m + 1) z).flatten)), ?_, .inr ⟨_, rfl⟩⟩
    show (writeAt H id off (List.replicate (m + 1) z).flatten).map (V.undef, ·) = _
    unfold writeAt
    rw [hg]
    simp only
    rw [if_pos ⟨by rw [flatRep hz]; exact hm, flatAll fun e he => by rw [List.eq_of_mem_replicate he]; exact hzo⟩]
    rfl

set_option maxRecDepth 20000 in
set_option maxHeartbeats 1000000 in
theorem deleteFunc_calls {x c1 c2 : V} {G H : Heap} {l : List AttrA} {d : AttrA → Bool} (hG : Ext G H) (hwf : WF H) (hl : l.length ≤ big)
    (hx : (l = [] ∧ SL H x 5 (l.map AttrA.cells)) ∨ ∃ id, x = .slice id 0 (l.map AttrA.cells).length none ∧ G.next ≤ id ∧ Own H id 5 (l.map AttrA.cells))
    (hd : ∀ H', Ext G H' → ∀ a ∈ l, SCalls PP 61 [.agg a.cells, c1, c2] H' fun r H'' => H'' = H' ∧ r = .bool (d a)) :
    SCalls PP 59 [x, .fn (.func 61) [] [c1, c2]] H fun r H' => Ext G H' ∧ WF H' ∧ ∀ H'', exec .len [r] H'' = some (.int .i64 (keepN d l), H'') := by
  have hsl : SL H x 5 (l.map AttrA.cells) := by
    rcases hx with ⟨_, h⟩ | ⟨id, rfl, _, ho⟩
    · exact h
    · exact ho.sl none
  refine SCalls.go c59 (by simp [fn59]) fun hw => ?_
  simp only [fn59, enterFr, List.length, List.range, List.range.loop, List.zip, List.zipWith, stp, if_true, if_false, Int.reduceEq, Int.reduceLT, Int.reduceLE, Int.reduceGT, Int.reduceGE, reduceCtorEq, Nat.reduceEqDiff, List.getElem?_cons_zero, List.getElem?_cons_succ, Option.map_some]
  refine SCalls.mono (indexFuncA_calls hsl hl (hd H hG)) ?_
  rintro r H1 ⟨rfl, rfl⟩
  rcases idx_keep d l 0 with ⟨h1, h2⟩ | ⟨i0, h1, h2, h3⟩
  · simp only [stp, if_true, if_false, Int.reduceEq, Int.reduceLT, Int.reduceLE, Int.reduceGT, Int.reduceGE, reduceCtorEq, Nat.reduceEqDiff, List.getElem?_cons_zero, List.getElem?_cons_succ, Option.map_some, h1]
    refine ⟨hG, hwf, fun H'' => ?_⟩
    rw [hsl.len, List.length_map, h2]
  · rcases hx with ⟨rfl, _⟩ | ⟨id, rfl, hid, ho⟩
    · simp at h2
    unfold big at hl
    have hne : ¬ (((0 + i0 : Nat) : Int) = -1) := by omega
    have hw1 : IntKind.i64.wrap (((0 + i0 : Nat) : Int) + 1) = ((i0 + 1 : Nat) : Int) := by rw [wrap_i64 (by omega) (by omega)]; omega
    simp only [stp, if_true, if_false, Int.reduceEq, Int.reduceLT, Int.reduceLE, Int.reduceGT, Int.reduceGE, reduceCtorEq, Nat.reduceEqDiff, List.getElem?_cons_zero, List.getElem?_cons_succ, Option.map_some, h1, hne, hw1, Bool.false_eq_true]
    have hnl : (l.map AttrA.cells).length = l.length := List.length_map ..
    rw [hnl]
    refine wp_loopI (fun m fr H' => ∃ (j i : Nat) (cur : List (List V)), m = l.length - j ∧ j ≤ l.length ∧ i < j ∧ cur.length = l.length ∧ Own H' id 5 cur ∧ (∀ q, j ≤ q → cur[q]? = (l.map AttrA.cells)[q]?) ∧ keepN d l = i + keepN d (l.drop j) ∧ Ext G H' ∧ WF H' ∧
      FrSub [(5, .int .i64 i), (6, .int .i64 j), (0, .slice id 0 l.length none), (1, .fn (.func 61) [] [c1, c2])] fr) (l.length - (i0 + 1))
      ⟨i0 + 1, 0 + i0, l.map AttrA.cells, rfl, by omega, by omega, hnl, ho, fun q _ => rfl, by omega, hG, hwf, .cons rfl (.cons rfl (.cons rfl (.cons rfl .nil)))⟩ ?_
    rintro m fr H' ⟨j, i, cur, rfl, hj, hij, hcl, hown, hcur, hkeep, hext, hwf', hsub⟩
    refine ⟨_, hsub, ?_⟩
    have hlen : exec .len [.slice id 0 l.length none] H' = some (.int .i64 l.length, H') := rfl
    by_cases hlt : j < l.length
    · have hlt' : (j : Int) < (l.length : Int) := by omega
      have hsl' := hown.sl none
      rw [hcl] at hsl'
      have hcj : cur[j]? = some l[j].cells := by rw [hcur j (Nat.le_refl _)]; simp [hlt]
      have hia := x_iax (H := H') (id := id) (n := l.length) (sz := 5) hlt
      obtain ⟨_, _, hia2, hat⟩ := hsl'.ia (H' := H') hcj .i64
      rw [hia] at hia2
      cases hia2
      obtain ⟨H2, hx2, hw2, ha2, hal, hst⟩ := x_copy (Ext.refl H') hwf' (z := [V.int .i64 0, .int .u8 0, .int .i64 0, .int .u64 0, .str ⟨#[]⟩]) (e := l[j].cells) (n := 5) rfl rfl rfl rfl
      have la := ha2.lda (n := 5) rfl
      have hown2 := hown.ext hx2
      have hGx := hext.trans hx2
      have hwj : IntKind.i64.wrap ((j : Int) + 1) = ((j + 1 : Nat) : Int) := by rw [wrap_i64 (by omega) (by omega)]; omega
      have hwi : IntKind.i64.wrap ((i : Int) + 1) = ((i + 1 : Nat) : Int) := by rw [wrap_i64 (by omega) (by omega)]; omega
      rw [List.drop_eq_getElem_cons hlt] at hkeep
      simp only [keepN] at hkeep
      simp only [stp, if_true, if_false, Int.reduceEq, Int.reduceLT, Int.reduceLE, Int.reduceGT, Int.reduceGE, reduceCtorEq, Nat.reduceEqDiff, List.getElem?_cons_zero, List.getElem?_cons_succ, Option.map_some, hlen, hlt', hia, hat.lda (n := 5) rfl, hal, hst, la, List.nil_append, List.cons_append]
      refine SCalls.mono (hd H2 hGx l[j] (List.getElem_mem hlt)) ?_
      rintro r H3 ⟨rfl, rfl⟩
      cases hr : d l[j] with
      | true =>
        rw [hr, if_pos rfl] at hkeep
        simp only [stp, if_true, if_false, Int.reduceEq, Int.reduceLT, Int.reduceLE, Int.reduceGT, Int.reduceGE, reduceCtorEq, Nat.reduceEqDiff, List.getElem?_cons_zero, List.getElem?_cons_succ, Option.map_some, hr, hwj]
        exact ⟨l.length - (j + 1), by omega, j + 1, i, cur, rfl, by omega, by omega, hcl, hown2, fun q hq => hcur q (by omega), by omega, hGx, hw2, .cons rfl (.cons rfl (.cons rfl (.cons rfl .nil)))⟩
      | false =>
        rw [hr, if_neg (by simp)] at hkeep
        have hii := x_iax (H := H3) (id := id) (n := l.length) (sz := 5) (i := i) (by omega)
        obtain ⟨H4, hst4, rfl, hown4⟩ := hown2.store (i := i) (by omega) (e := l[j].cells) rfl rfl
        simp only [stp, if_true, if_false, Int.reduceEq, Int.reduceLT, Int.reduceLE, Int.reduceGT, Int.reduceGE, reduceCtorEq, Nat.reduceEqDiff, List.getElem?_cons_zero, List.getElem?_cons_succ, Option.map_some, hr, la, hii, hst4, hwj, hwi]
        exact ⟨l.length - (j + 1), by omega, j + 1, i + 1, _, rfl, by omega, by omega, by rw [List.length_set]; exact hcl, hown4, fun q hq => by rw [List.getElem?_set_ne (by omega)]; exact hcur q (by omega), by omega, hGx.set hid _, hw2.set hown2.get _, .cons rfl (.cons rfl (.cons rfl (.cons rfl .nil)))⟩
    · have hlt' : ¬ (j : Int) < (l.length : Int) := by omega
      obtain rfl : j = l.length := by omega
      rw [List.drop_length] at hkeep
      simp only [keepN] at hkeep
      have hlo := x_slc_lo (H := H') (n := l.length) (i := i) hown.get (by omega)
      have hfl := flatLen fun e he => (hown.len e he).1
      obtain ⟨H2, hcl2, hH2⟩ := x_clear (H := H') (off := 0 + i * 5) (m := l.length - i) (z := [V.int .i64 0, .int .u8 0, .int .i64 0, .int .u64 0, .str ⟨#[]⟩]) hown.get rfl rfl (by rw [hfl, hcl]; omega)
      have hg2 : ∃ cs, H2.get id = some (.row false 5 cs) := by
        rcases hH2 with rfl | ⟨cs, rfl⟩
        · exact ⟨_, hown.get⟩
        · exact ⟨cs, set_get' _ _ _⟩
      obtain ⟨cs, hg2⟩ := hg2
      have hxx : Ext G H2 ∧ WF H2 := by
        rcases hH2 with rfl | ⟨cs, rfl⟩
        · exact ⟨hext, hwf'⟩
        · exact ⟨hext.set hid _, hwf'.set hown.get _⟩
      have hhi := x_slc_hi (H := H2) (n := l.length) (i := i) hg2 (by omega)
      simp only [stp, if_true, if_false, Int.reduceEq, Int.reduceLT, Int.reduceLE, Int.reduceGT, Int.reduceGE, reduceCtorEq, Nat.reduceEqDiff, List.getElem?_cons_zero, List.getElem?_cons_succ, Option.map_some, hlen, hlt', hlo, hcl2, hhi]
      exact ⟨hxx.1, hxx.2, fun H'' => by rw [show keepN d l = i - 0 by omega]; rfl⟩
end Go.Proofs.YtbadbkdpnbacnaaDoor.Fw

/- Vectors that grow, and what stays as it is while others change. No condition. -/
namespace Go.Proofs.YtbadbkdpnbacnaaDoor.Fw
open Go
set_option linter.unusedSimpArgs false
set_option linter.unusedVariables false

/-! ### What stays -/
/-- H' has all that H has but at M's, as it was. -/
structure ExtM (M : Nat → Prop) (H H' : Heap) : Prop where
  gn : H'.gn = H.gn
  next : H.next ≤ H'.next
  get : ∀ id, id < H.next → ¬ M id → H'.get id = H.get id
theorem ExtM.refl (M : Nat → Prop) (H : Heap) : ExtM M H H := ⟨rfl, Nat.le_refl _, fun _ _ _ => rfl⟩
theorem ExtM.trans {M : Nat → Prop} {a b c : Heap} (h : ExtM M a b) (k : ExtM M b c) : ExtM M a c :=
  ⟨k.gn.trans h.gn, Nat.le_trans h.next k.next, fun id hi hm => (k.get id (Nat.lt_of_lt_of_le hi h.next) hm).trans (h.get id hi hm)⟩
theorem Ext.toM {a b : Heap} (h : Ext a b) (M : Nat → Prop) : ExtM M a b := ⟨h.gn, h.next, fun id hi _ => h.get id hi⟩
/-- Grown mutable things lie behind. -/
def MGrow (M M' : Nat → Prop) (H : Heap) : Prop := ∀ id, M' id → M id ∨ H.next ≤ id
theorem MGrow.refl (M : Nat → Prop) (H : Heap) : MGrow M M H := fun _ h => .inl h
theorem ExtM.step {M M' : Nat → Prop} {a b c : Heap} (h : ExtM M a b) (g : MGrow M M' a) (k : ExtM M' b c) : ExtM M a c :=
  ⟨k.gn.trans h.gn, Nat.le_trans h.next k.next, fun id hi hm => (k.get id (Nat.lt_of_lt_of_le hi h.next) (fun hm' => by
    rcases g id hm' with q | q
    · exact hm q
    · omega)).trans (h.get id hi hm)⟩
theorem MGrow.trans {M M' M2 : Nat → Prop} {a b : Heap} (h : MGrow M M' a) (k : MGrow M' M2 b) (hn : a.next ≤ b.next) : MGrow M M2 a := fun id h2 => by
  rcases k id h2 with q | q
  · exact h id q
  · exact .inr (Nat.le_trans hn q)
/-- P holds, whatever happens at M's. -/
def Fz (M : Nat → Prop) (H : Heap) (P : Heap → Prop) : Prop := ∀ H', ExtM M H H' → P H'
theorem Fz.here {M : Nat → Prop} {H : Heap} {P : Heap → Prop} (h : Fz M H P) : P H := h H (ExtM.refl M H)
theorem Fz.step {M M' : Nat → Prop} {H H' : Heap} {P : Heap → Prop} (h : Fz M H P) (k : ExtM M H H') (g : MGrow M M' H) : Fz M' H' P := fun _ q => h _ (k.step g q)
theorem Fz.mono {M : Nat → Prop} {H : Heap} {P Q : Heap → Prop} (h : Fz M H P) (k : ∀ H', P H' → Q H') : Fz M H Q := fun H' q => k _ (h H' q)
/-- What stays under growth alone stays where it lies outside M's. -/
theorem Fz.const {M : Nat → Prop} {H : Heap} {P : Prop} (h : P) : Fz M H fun _ => P := fun _ _ => h

theorem At.extM {M : Nat → Prop} {H H' : Heap} {id o : Nat} {e : List V} (h : At H id o e) (k : ExtM M H H') (hm : ¬ M id) : At H' id o e := by
  obtain ⟨h1, ro, esz, cells, h2, h3⟩ := h
  exact ⟨Nat.lt_of_lt_of_le h1 k.next, ro, esz, cells, by rw [k.get id h1 hm]; exact h2, h3⟩
theorem Own.extM {M : Nat → Prop} {H H' : Heap} {id sz : Nat} {es : List (List V)} (h : Own H id sz es) (k : ExtM M H H') (hm : ¬ M id) : Own H' id sz es :=
  ⟨Nat.lt_of_lt_of_le h.lt k.next, by rw [k.get id h.lt hm]; exact h.get, h.len⟩
/-- An owned row outside M's is frozen. -/
theorem Own.fz {M : Nat → Prop} {H : Heap} {id sz : Nat} {es : List (List V)} (h : Own H id sz es) (hm : ¬ M id) : Fz M H fun H' => Own H' id sz es := fun _ k => h.extM k hm

/-! ### Vectors -/
/-- r holds the elements es and may be appended to; k: the row that an append takes over. -/
def Vec (H : Heap) (r : V) (sz : Nat) (es : List (List V)) (k : Option Nat) : Prop :=
  (∀ e ∈ es, e.length = sz ∧ e.all V.one = true) ∧
  ((r = .nils ∧ es = [] ∧ k = none) ∨
   (∃ id off, r = .slice id off es.length (some es.length) ∧ SL H r sz es ∧ k = none) ∨
   (∃ id, r = .slice id 0 es.length none ∧ Own H id sz es ∧ k = some id) ∨
   (es = [] ∧ ∃ id cells, r = .slice id 0 0 none ∧ id < H.next ∧ H.get id = some (.row false sz cells) ∧ cells.all V.one = true ∧ k = some id))
theorem Vec.nil (H : Heap) (sz : Nat) : Vec H .nils sz [] none := ⟨by simp, .inl ⟨rfl, rfl, rfl⟩⟩
theorem Vec.sl {H : Heap} {r : V} {sz : Nat} {es : List (List V)} {k : Option Nat} (h : Vec H r sz es k) : SL H r sz es := by
  obtain ⟨h0, ⟨rfl, rfl, _⟩ | ⟨id, off, rfl, h, _⟩ | ⟨id, rfl, h, _⟩ | ⟨rfl, id, cells, rfl, h1, h2, h3⟩⟩ := h
  · exact ⟨h0, .inl ⟨rfl, rfl⟩⟩
  · exact h
  · exact h.sl none
  · exact ⟨h0, .inr ⟨id, 0, none, rfl, h1, fun i e he => by simp at he⟩⟩
theorem Vec.len {H : Heap} {r : V} {sz : Nat} {es : List (List V)} {k : Option Nat} (h : Vec H r sz es k) (H' : Heap) : exec .len [r] H' = some (.int .i64 es.length, H') := h.sl.len
theorem Vec.lt {H : Heap} {r : V} {sz : Nat} {es : List (List V)} {j : Nat} (h : Vec H r sz es (some j)) : j < H.next := by
  obtain ⟨_, ⟨_, _, h⟩ | ⟨_, _, _, _, h⟩ | ⟨id, _, h, e⟩ | ⟨_, id, cells, _, h1, _, _, e⟩⟩ := h
  · cases h
  · cases h
  · cases e; exact h.lt
  · cases e; exact h1
theorem Vec.one {H : Heap} {r : V} {sz : Nat} {es : List (List V)} {k : Option Nat} (h : Vec H r sz es k) : r.one = true ∧ r.cells = [r] := by
  obtain ⟨_, ⟨rfl, _⟩ | ⟨id, off, rfl, _⟩ | ⟨id, rfl, _⟩ | ⟨_, id, cells, rfl, _⟩⟩ := h <;> exact ⟨rfl, rfl⟩
/-- A vector stays where its row is untouched. -/
theorem Vec.keep {H H' : Heap} {r : V} {sz : Nat} {es : List (List V)} {k : Option Nat} (h : Vec H r sz es k) (hn : H.next ≤ H'.next) (hk : ∀ j, k = some j → H'.get j = H.get j) (hs : k = none → SL H r sz es → SL H' r sz es) : Vec H' r sz es k := by
  obtain ⟨h0, h | ⟨id, off, e1, h, e2⟩ | ⟨id, e1, h, e2⟩ | ⟨e0, id, cells, e1, h1, h2, h3, e2⟩⟩ := h
  · exact ⟨h0, .inl h⟩
  · exact ⟨h0, .inr (.inl ⟨id, off, e1, hs e2 h, e2⟩)⟩
  · exact ⟨h0, .inr (.inr (.inl ⟨id, e1, ⟨Nat.lt_of_lt_of_le h.lt hn, by rw [hk id e2]; exact h.get, h.len⟩, e2⟩))⟩
  · exact ⟨h0, .inr (.inr (.inr ⟨e0, id, cells, e1, Nat.lt_of_lt_of_le h1 hn, by rw [hk id e2]; exact h2, h3, e2⟩))⟩
theorem Vec.ext {H H' : Heap} {r : V} {sz : Nat} {es : List (List V)} {k : Option Nat} (h : Vec H r sz es k) (x : Ext H H') : Vec H' r sz es k :=
  h.keep x.next (fun j e => by subst e; exact x.get j h.lt) fun _ s => s.ext x

theorem get_new_ne {H : Heap} {o : Ob} {j : Nat} (h : j < H.next) : (H.new o).get j = H.get j := by rw [Heap.new_get, if_neg (by omega)]
theorem wf_kill_new {H : Heap} (h : WF H) (i : Nat) (o : Ob) : WF ((H.kill i).new o) := (h.kill i).new o

/-- append. -/
theorem Vec.app {H : Heap} (hw : WF H) {r x : V} {sz bytes n : Nat} {es news : List (List V)} {k : Option Nat} (h : Vec H r sz es k) (hsz : sz ≠ 0) (hn : news.length = n) (hn0 : n ≠ 0) (hx : lenV x = some n) (hs : srcCells H n sz x = some news.flatten)
    (hl : ∀ e ∈ news, e.length = sz ∧ e.all V.one = true) (hb : (es.length + n) * bytes ≤ 140737488355328) (hb2 : es.length + n ≤ 4611686018427387904) :
    ∃ H', exec (.app sz bytes) [r, x] H = some (.slice H.next 0 (es.length + n) none, H') ∧ Vec H' (.slice H.next 0 (es.length + n) none) sz (es ++ news) (some H.next) ∧ Own H' H.next sz (es ++ news) ∧
      WF H' ∧ H'.next = H.next + 1 ∧ H'.gn = H.gn ∧ ∀ j, j < H.next → k ≠ some j → H'.get j = H.get j := by
  have hfl := flatLen fun e he => (hl e he).1
  have hfa := flatAll fun e he => (hl e he).2
  have h0 := h.1
  have hlen : (es ++ news).length = es.length + n := by rw [List.length_append, hn]
  have hall : ∀ e ∈ es ++ news, e.length = sz ∧ e.all V.one = true := fun e he => by
    rcases List.mem_append.1 he with q | q
    · exact h0 e q
    · exact hl e q
  have hcond : ¬ (news.flatten.length ≠ n * sz ∨ ¬ news.flatten.all V.one = true ∨ sz = 0) := by
    rw [hfl, hn, hfa]; simp; exact hsz
  have fin : ∀ (G : Heap), WF G → G.next = H.next → G.gn = H.gn → (∀ j, j < H.next → k ≠ some j → G.get j = H.get j) → ∀ cells, cells = (es ++ news).flatten →
      Vec (G.new (.row false sz cells)) (.slice H.next 0 (es.length + n) none) sz (es ++ news) (some H.next) ∧ Own (G.new (.row false sz cells)) H.next sz (es ++ news) ∧
      WF (G.new (.row false sz cells)) ∧ (G.new (.row false sz cells)).next = H.next + 1 ∧ (G.new (.row false sz cells)).gn = H.gn ∧ ∀ j, j < H.next → k ≠ some j → (G.new (.row false sz cells)).get j = H.get j := by
    intro G hg e1 e2 e3 cells ec
    have ow : Own (G.new (.row false sz cells)) H.next sz (es ++ news) := ⟨by rw [Heap.new_next, e1]; omega, by rw [← e1, new_get, ec], hall⟩
    exact ⟨⟨hall, .inr (.inr (.inl ⟨H.next, by rw [hlen], ow, rfl⟩))⟩, ow, hg.new _, by rw [Heap.new_next, e1], e2, fun j hj hk => by rw [get_new_ne (by omega), e3 j hj hk]⟩
  obtain ⟨_, ⟨rfl, rfl, rfl⟩ | ⟨id, off, rfl, hsl, rfl⟩ | ⟨id, rfl, ho, rfl⟩ | ⟨rfl, id, cells, rfl, h1, h2, h3, rfl⟩⟩ := h
  · refine ⟨H.new (.row false sz news.flatten), ?_, fin H hw rfl rfl (fun _ _ _ => rfl) _ (by simp)⟩
    simp only [exec, appendA, hx, hs]
    rw [if_neg hcond, if_neg hn0]
    simp only [List.length_nil, Nat.zero_add] at hb hb2 ⊢
    rw [if_pos ⟨hb, by omega⟩]
  · have hz : es.length = 0 ∨ 0 < es.length := by omega
    refine ⟨H.new (.row false sz (es ++ news).flatten), ?_, fin H hw rfl rfl (fun _ _ _ => rfl) _ rfl⟩
    have hold : readN H (es.length * sz) (.slice id off es.length (some es.length)) = some es.flatten := by
      rcases hz with hz | hz
      · have : es = [] := List.eq_nil_of_length_eq_zero hz
        subst this
        simp [readN]
      · obtain ⟨_, s2⟩ := hsl.src (by intro e; rw [e] at hz; simp at hz)
        simpa [srcCells] using s2
    simp only [exec, appendA, hx, hs]
    rw [if_neg hcond, if_neg hn0, if_neg (by simp; omega), if_neg (by omega)]
    simp only [hold, Option.bind_some]
    rw [if_pos (flatAll fun e he => (h0 e he).2), List.flatten_append]
  · have hfe := flatLen fun e he => (h0 e he).1
    refine ⟨(H.kill id).new (.row false sz (es ++ news).flatten), ?_, fin (H.kill id) (hw.kill id) rfl rfl (fun j hj hk => by rw [Heap.kill_get, if_neg (fun e => hk (by rw [e]))]) _ rfl⟩
    simp only [exec, appendA, hx, hs]
    rw [if_neg hcond, if_neg hn0, if_neg (by simp; omega)]
    simp only [ho.get]
    rw [if_pos ⟨by trivial, by omega, flatAll fun e he => (h0 e he).2⟩, List.drop_zero, List.take_of_length_le (by omega), List.flatten_append]
  · refine ⟨(H.kill id).new (.row false sz news.flatten), ?_, fin (H.kill id) (hw.kill id) rfl rfl (fun j hj hk => by rw [Heap.kill_get, if_neg (fun e => hk (by rw [e]))]) _ (by simp)⟩
    simp only [exec, appendA, hx, hs]
    rw [if_neg hcond, if_neg hn0, if_neg (by simp at hb hb2 ⊢; omega)]
    simp only [h2]
    rw [if_pos ⟨by trivial, by simp, h3⟩]
    simp
/-- append of nothing. -/
theorem x_app0 {H : Heap} {r x : V} {sz bytes : Nat} (hr : r = .nils ∨ ∃ id off len cap, r = .slice id off len cap) (hx : lenV x = some 0) (hs : srcCells H 0 sz x = some []) (hsz : sz ≠ 0) : exec (.app sz bytes) [r, x] H = some (r, H) := by
  rcases hr with rfl | ⟨id, off, len, cap, rfl⟩
  · simp only [exec, appendA, hx, hs]
    rw [if_neg (by simp; exact hsz)]
    simp only [if_true]
  · simp only [exec, appendA, hx, hs]
    rw [if_neg (by simp; exact hsz)]
    simp only [if_true]
theorem SL.src0 {H : Heap} {x : V} {sz : Nat} (h : SL H x sz []) : lenV x = some 0 ∧ srcCells H 0 sz x = some [] := by
  obtain ⟨_, ⟨rfl, _⟩ | ⟨id, off, cap, rfl, _⟩⟩ := h
  · exact ⟨rfl, by simp [srcCells, readN]⟩
  · exact ⟨rfl, by simp [srcCells, readN]⟩
theorem Vec.shape {H : Heap} {r : V} {sz : Nat} {es : List (List V)} {k : Option Nat} (h : Vec H r sz es k) : r = .nils ∨ ∃ id off len cap, r = .slice id off len cap := by
  obtain ⟨_, ⟨rfl, _⟩ | ⟨id, off, rfl, _⟩ | ⟨id, rfl, _⟩ | ⟨_, id, cells, rfl, _⟩⟩ := h
  · exact .inl rfl
  · exact .inr ⟨_, _, _, _, rfl⟩
  · exact .inr ⟨_, _, _, _, rfl⟩
  · exact .inr ⟨_, _, _, _, rfl⟩

/-! ### slices.Clone -/
def cloneFn (sz bytes : Nat) : AFn := ⟨8,
 (.seq
  (.region [⟨some 2, none, .ex (.mov) [.k .nils]⟩])
  (.seq
   (.seq
    (.region [⟨some 3, none, .ex (.mov) [.s 0]⟩,
      ⟨some 4, none, .ex (.eqnil 1 false) [.s 3, .k .nils]⟩])
    (.cond (.s 4)
     (.seq
      (.region [⟨some 2, none, .ex (.mov) [.k .nils]⟩])
      .ret)
     .skip))
   (.seq
    (.region [⟨some 5, none, .ex (.bsl sz 0 [] []) []⟩,
      ⟨some 6, none, .ex (.mov) [.s 0]⟩,
      ⟨some 7, none, .ex (.app sz bytes) [.s 5, .s 6]⟩,
      ⟨some 2, none, .ex (.mov) [.s 7]⟩])
    .ret))),
 [.t 2]⟩
set_option maxRecDepth 20000 in
theorem clone_gen {f : FuncId} {sz bytes : Nat} (hc : compFn PP f = some (cloneFn sz bytes)) (hsz : sz ≠ 0) (hby : bytes ≤ 256) {x : V} {H : Heap} {es : List (List V)} (hx : SL H x sz es) (hl : es.length ≤ big) :
    SCalls PP f [x] H fun r H' => Ext H H' ∧ WF H' ∧ ∃ k, Vec H' r sz es k ∧ (∀ j, k = some j → H.next ≤ j) ∧ (es ≠ [] → ∃ j, k = some j ∧ Own H' j sz es ∧ r = .slice j 0 es.length none) ∧ (k = none → es = []) := by
  refine SCalls.go hc (by simp [cloneFn]) fun hw => ?_
  unfold big at hl
  have hbs : exec (.bsl sz 0 [] []) [] H = some (.slice H.next 0 0 (some 0), H.new (.row false sz [])) := rfl
  obtain ⟨hlen, ⟨rfl, rfl⟩ | ⟨id, off, cap, rfl, hid, hat⟩⟩ := id hx
  · have hn : exec (.eqnil 1 false) [.nils, .nils] H = some (.bool true, H) := rfl
    simp (maxSteps := 1000000) (implicitDefEqProofs := false) only [stp, if_true, if_false, Int.reduceEq, Int.reduceLT, Int.reduceLE, Int.reduceGT, Int.reduceGE, reduceCtorEq, Nat.reduceEqDiff, List.getElem?_cons_zero, List.getElem?_cons_succ, Option.map_some, cloneFn, enterFr, List.length, List.range, List.range.loop, List.zip, List.zipWith, hn]
    exact ⟨Ext.refl H, hw, none, Vec.nil _ _, by simp, by simp, by simp⟩
  · have hn : ∀ n, exec (.eqnil 1 false) [.slice id off n cap, .nils] H = some (.bool false, H) := fun _ => rfl
    have hx1 : Ext H (H.new (.row false sz [])) := (Ext.refl H).new _
    have hw1 : WF (H.new (.row false sz [])) := hw.new _
    have hsl1 := hx.ext hx1
    by_cases he : es = []
    · subst he
      obtain ⟨q1, q2⟩ := hsl1.src0
      have happ : exec (.app sz bytes) [.slice H.next 0 0 (some 0), .slice id off 0 cap] (H.new (.row false sz [])) = some (.slice H.next 0 0 (some 0), H.new (.row false sz [])) := x_app0 (.inr ⟨_, _, _, _, rfl⟩) q1 q2 hsz
      simp (maxSteps := 1000000) (implicitDefEqProofs := false) only [stp, if_true, if_false, Int.reduceEq, Int.reduceLT, Int.reduceLE, Int.reduceGT, Int.reduceGE, reduceCtorEq, Nat.reduceEqDiff, List.getElem?_cons_zero, List.getElem?_cons_succ, Option.map_some, cloneFn, enterFr, List.length, List.range, List.range.loop, List.zip, List.zipWith, hn, hbs, happ]
      exact ⟨hx1, hw1, none, ⟨by simp, .inr (.inl ⟨_, _, rfl, ⟨by simp, .inr ⟨H.next, 0, some 0, rfl, Nat.lt_succ_self _, fun i e h => by simp at h⟩⟩, rfl⟩)⟩, by simp, by simp, by simp⟩
    · obtain ⟨s1, s2⟩ := hsl1.src he
      have hln : es.length ≠ 0 := fun h => he (List.length_eq_zero_iff.1 h)
      have hv0 : Vec (H.new (.row false sz [])) (.slice H.next 0 0 (some 0)) sz [] none := ⟨by simp, .inr (.inl ⟨_, _, rfl, ⟨by simp, .inr ⟨H.next, 0, some 0, rfl, Nat.lt_succ_self _, fun i e h => by simp at h⟩⟩, rfl⟩)⟩
      have hmul : (([] : List (List V)).length + es.length) * bytes ≤ 140737488355328 := by
        simp only [List.length_nil, Nat.zero_add]
        have := Nat.mul_le_mul hl hby
        omega
      obtain ⟨H', e1, e2, e3, e4, e5, e6, e7⟩ := hv0.app (bytes := bytes) hw1 hsz rfl hln s1 s2 hlen hmul (by simp; omega)
      simp only [List.length_nil, Nat.zero_add, List.nil_append] at e1 e2 e3
      simp (maxSteps := 1000000) (implicitDefEqProofs := false) only [stp, if_true, if_false, Int.reduceEq, Int.reduceLT, Int.reduceLE, Int.reduceGT, Int.reduceGE, reduceCtorEq, Nat.reduceEqDiff, List.getElem?_cons_zero, List.getElem?_cons_succ, Option.map_some, cloneFn, enterFr, List.length, List.range, List.range.loop, List.zip, List.zipWith, hn, hbs, e1]
      have hxx : Ext H H' := ⟨e6, by rw [e5]; simp only [Heap.new_next]; omega, fun j hj => by rw [e7 j (by simp only [Heap.new_next]; omega) (by simp), get_new_ne hj]⟩
      exact ⟨hxx, e4, _, e2, fun j hj => by cases hj; simp only [Heap.new_next]; omega, fun _ => ⟨_, rfl, e3, rfl⟩, fun h => by cases h⟩
end Go.Proofs.YtbadbkdpnbacnaaDoor.Fw

/- The abstract code of functions of the program, and that it is theirs. No condition. Printed by a program (wip/Print.lean, wip/mkfns.py). -/
namespace Go.Proofs.YtbadbkdpnbacnaaDoor.Fw
open Go

/-- rubric/rubricref18.Great -/
def fn15 : AFn := ⟨50,
 (.seq
  (.region [⟨some 4, none, .ex (.mov) [.k (.bool false)]⟩])
  (.seq
   (.seq
    (.region [⟨some 8, none, .ex (.mov) [.s 0]⟩,
      ⟨some 9, none, .ex (.len) [.s 8]⟩,
      ⟨some 10, none, .ex (.mov) [.s 1]⟩,
      ⟨some 11, none, .ex (.ibin .gtr) [.s 9, .s 10]⟩])
    (.cond (.s 11)
     (.seq
      (.region [⟨some 4, none, .ex (.mov) [.k (.bool true)]⟩])
      .ret)
     .skip))
   (.seq
    (.region [⟨some 5, none, .ex (.mov) [.k (.int .i64 0)]⟩])
    (.seq
     (.seq
      (.region [⟨some 6, none, .ex (.mov) [.k (.int .i64 0)]⟩])
      (.block 0
       (.loop
        (.seq
         (.seq
          (.region [⟨some 12, none, .ex (.mov) [.s 6]⟩,
            ⟨some 13, none, .ex (.mov) [.s 0]⟩,
            ⟨some 14, none, .ex (.len) [.s 13]⟩,
            ⟨some 15, none, .ex (.ibin .lss) [.s 12, .s 14]⟩])
          (.cond (.s 15)
           .skip
           (.exit 0)))
         (.seq
          (.block 1
           (.seq
            (.seq
             (.region [⟨some 18, none, .ex (.mov) [.s 0]⟩,
               ⟨some 19, none, .ex (.mov) [.s 6]⟩,
               ⟨some 20, none, .ex (.ia 2) [.s 18, .s 19]⟩,
               ⟨some 21, none, .ex (.fa 1) [.s 20]⟩,
               ⟨some 22, none, .ex (.ld 1) [.s 21]⟩,
               ⟨some 23, none, .ex (.len) [.s 22]⟩,
               ⟨some 24, none, .ex (.ibin .gtr) [.s 23, .k (.int .i64 64)]⟩])
             (.cond (.s 24)
              (.seq
               (.region [⟨some 4, none, .ex (.mov) [.k (.bool true)]⟩])
               .ret)
              .skip))
            (.seq
             (.region [⟨some 7, none, .ex (.mov) [.k (.int .i64 0)]⟩])
             (.block 2
              (.loop
               (.seq
                (.seq
                 (.region [⟨some 25, none, .ex (.mov) [.s 7]⟩,
                   ⟨some 26, none, .ex (.mov) [.s 0]⟩,
                   ⟨some 27, none, .ex (.mov) [.s 6]⟩,
                   ⟨some 28, none, .ex (.ia 2) [.s 26, .s 27]⟩,
                   ⟨some 29, none, .ex (.fa 1) [.s 28]⟩,
                   ⟨some 30, none, .ex (.ld 1) [.s 29]⟩,
                   ⟨some 31, none, .ex (.len) [.s 30]⟩,
                   ⟨some 32, none, .ex (.ibin .lss) [.s 25, .s 31]⟩])
                 (.cond (.s 32)
                  .skip
                  (.exit 2)))
                (.seq
                 (.block 3
                  (.region [⟨some 35, none, .ex (.mov) [.s 5]⟩,
                    ⟨some 36, none, .ex (.mov) [.s 0]⟩,
                    ⟨some 37, none, .ex (.mov) [.s 6]⟩,
                    ⟨some 38, none, .ex (.ia 2) [.s 36, .s 37]⟩,
                    ⟨some 39, none, .ex (.fa 1) [.s 38]⟩,
                    ⟨some 40, none, .ex (.ld 1) [.s 39]⟩,
                    ⟨some 41, none, .ex (.mov) [.s 7]⟩,
                    ⟨some 42, none, .ex (.ia 5) [.s 40, .s 41]⟩,
                    ⟨some 43, none, .ex (.fa 1) [.s 42]⟩,
                    ⟨some 44, none, .ex (.fa 3) [.s 43]⟩,
                    ⟨some 45, none, .ex (.ld 1) [.s 44]⟩,
                    ⟨some 46, none, .ex (.slen) [.s 45]⟩,
                    ⟨some 47, none, .ex (.ibin .add) [.s 35, .s 46]⟩,
                    ⟨some 5, none, .ex (.mov) [.s 47]⟩]))
                 (.region [⟨some 33, none, .ex (.mov) [.s 7]⟩,
                   ⟨some 34, none, .ex (.ibin .add) [.s 33, .k (.int .i64 1)]⟩,
                   ⟨some 7, none, .ex (.mov) [.s 34]⟩]))))))))
          (.region [⟨some 16, none, .ex (.mov) [.s 6]⟩,
            ⟨some 17, none, .ex (.ibin .add) [.s 16, .k (.int .i64 1)]⟩,
            ⟨some 6, none, .ex (.mov) [.s 17]⟩]))))))
     (.seq
      (.region [⟨some 48, none, .ex (.mov) [.s 5]⟩,
        ⟨some 49, none, .ex (.ibin .gtr) [.s 48, .k (.int .i64 5000)]⟩,
        ⟨some 4, none, .ex (.mov) [.s 49]⟩])
      .ret))))),
 [.t 4]⟩
theorem c15 : compFn Go.Proofs.Tryd.prog 15 = some fn15 := by kernel_rfl

/-- rubric/cells.May -/
def fn17 : AFn := ⟨37,
 (.seq
  (.region [⟨some 2, none, .ex (.box) [.s 0]⟩,
    ⟨some 3, none, .ex (.box) [.s 1]⟩,
    ⟨some 4, none, .ex (.mov) [.k (.int .i64 0)]⟩])
  (.seq
   (.region [⟨some 6, none, .ex (.mkfn (.func 35) 0) [.s 3]⟩,
     ⟨some 5, none, .ex (.mov) [.s 6]⟩])
   (.seq
    (.block 0
     (.seq
      (.region [⟨some 8, none, .ex (.ld 1) [.s 3]⟩,
        ⟨some 9, none, .ex (.len) [.s 8]⟩,
        ⟨some 10, none, .ex (.ibin .lss) [.s 9, .k (.int .i64 1)]⟩,
        ⟨some 11, none, .ex (.mov) [.s 10]⟩,
        ⟨some 12, some (11, false), .ex (.ld 1) [.s 3]⟩,
        ⟨some 13, some (11, false), .ex (.len) [.s 12]⟩,
        ⟨some 14, some (11, false), .ex (.ibin .gtr) [.s 13, .k (.int .i64 536870912)]⟩,
        ⟨some 15, none, .ex (.pick) [.s 11, .k (.bool true), .s 14]⟩,
        ⟨some 7, none, .ex (.mov) [.s 15]⟩])
      (.cond (.s 7)
       (.seq
        (.region [⟨some 4, none, .ex (.mov) [.k (.int .i64 3)]⟩])
        .ret)
       (.seq
        (.region [⟨some 17, none, .ex (.mov) [.s 5]⟩,
          ⟨some 18, none, .ex (.mkfn (.func 37) 0) [.s 2]⟩,
          ⟨some 19, none, .callv (.s 17) [.s 18]⟩,
          ⟨some 16, none, .ex (.mov) [.s 19]⟩])
        (.cond (.s 16)
         (.seq
          (.region [⟨some 4, none, .ex (.mov) [.k (.int .i64 3)]⟩])
          .ret)
         (.seq
          (.region [⟨some 21, none, .ex (.mov) [.s 5]⟩,
            ⟨some 22, none, .ex (.mkfn (.func 40) 0) [.s 2]⟩,
            ⟨some 23, none, .callv (.s 21) [.s 22]⟩,
            ⟨some 20, none, .ex (.mov) [.s 23]⟩])
          (.cond (.s 20)
           (.seq
            (.region [⟨some 4, none, .ex (.mov) [.k (.int .i64 4)]⟩])
            .ret)
           (.seq
            (.region [⟨some 25, none, .ex (.ld 1) [.s 3]⟩,
              ⟨some 26, none, .ex (.ld 1) [.s 3]⟩,
              ⟨some 27, none, .ex (.len) [.s 26]⟩,
              ⟨some 28, none, .ex (.ibin .sub) [.s 27, .k (.int .i64 1)]⟩,
              ⟨some 29, none, .ex (.ia 2) [.s 25, .s 28]⟩,
              ⟨some 30, none, .ex (.fa 0) [.s 29]⟩,
              ⟨some 31, none, .ex (.ld 1) [.s 30]⟩,
              ⟨some 32, none, .ex (.ibin .neq) [.s 31, .k (.int .i32 10)]⟩,
              ⟨some 24, none, .ex (.mov) [.s 32]⟩])
            (.cond (.s 24)
             (.seq
              (.region [⟨some 4, none, .ex (.mov) [.k (.int .i64 6)]⟩])
              .ret)
             (.seq
              (.region [⟨some 34, none, .ex (.mov) [.s 5]⟩,
                ⟨some 35, none, .ex (.mkfn (.func 41) 0) [.s 2]⟩,
                ⟨some 36, none, .callv (.s 34) [.s 35]⟩,
                ⟨some 33, none, .ex (.mov) [.s 36]⟩])
              (.cond (.s 33)
               (.seq
                (.region [⟨some 4, none, .ex (.mov) [.k (.int .i64 7)]⟩])
                .ret)
               .skip)))))))))))
    (.seq
     (.region [⟨some 4, none, .ex (.mov) [.k (.int .i64 0)]⟩])
     .ret)))),
 [.t 4]⟩
theorem c17 : compFn Go.Proofs.Tryd.prog 17 = some fn17 := by kernel_rfl

/-- rubric/cells.Same -/
def fn18 : AFn := ⟨8,
 (.seq
  (.region [⟨some 4, none, .ex (.mov) [.k (.bool false)]⟩])
  (.seq
   (.region [⟨some 5, none, .ex (.mov) [.s 0]⟩,
     ⟨some 6, none, .ex (.mov) [.s 1]⟩,
     ⟨some 7, none, .callf 42 [.s 5, .s 6, .k (.fn (.func 43) [] [])]⟩,
     ⟨some 4, none, .ex (.mov) [.s 7]⟩])
   .ret)),
 [.t 4]⟩
theorem c18 : compFn Go.Proofs.Tryd.prog 18 = some fn18 := by kernel_rfl

/-- rubric/ops.Same -/
def fn19 : AFn := ⟨8,
 (.seq
  (.region [⟨some 4, none, .ex (.mov) [.k (.bool false)]⟩])
  (.seq
   (.region [⟨some 5, none, .ex (.mov) [.s 0]⟩,
     ⟨some 6, none, .ex (.mov) [.s 1]⟩,
     ⟨some 7, none, .callf 45 [.s 5, .s 6, .k (.fn (.func 46) [] [])]⟩,
     ⟨some 4, none, .ex (.mov) [.s 7]⟩])
   .ret)),
 [.t 4]⟩
theorem c19 : compFn Go.Proofs.Tryd.prog 19 = some fn19 := by kernel_rfl

/-- rubric/rubricref01.Same -/
def fn21 : AFn := ⟨26,
 (.seq
  (.region [⟨some 4, none, .ex (.mov) [.k (.bool false)]⟩])
  (.seq
   (.seq
    (.region [⟨some 6, none, .ex (.mov) [.s 0]⟩,
      ⟨some 7, none, .ex (.len) [.s 6]⟩,
      ⟨some 8, none, .ex (.mov) [.s 1]⟩,
      ⟨some 9, none, .ex (.len) [.s 8]⟩,
      ⟨some 10, none, .ex (.ibin .neq) [.s 7, .s 9]⟩])
    (.cond (.s 10)
     (.seq
      (.region [⟨some 4, none, .ex (.mov) [.k (.bool false)]⟩])
      .ret)
     .skip))
   (.seq
    (.seq
     (.region [⟨some 5, none, .ex (.mov) [.k (.int .i64 0)]⟩])
     (.block 0
      (.loop
       (.seq
        (.seq
         (.region [⟨some 11, none, .ex (.mov) [.s 5]⟩,
           ⟨some 12, none, .ex (.mov) [.s 0]⟩,
           ⟨some 13, none, .ex (.len) [.s 12]⟩,
           ⟨some 14, none, .ex (.ibin .lss) [.s 11, .s 13]⟩])
         (.cond (.s 14)
          .skip
          (.exit 0)))
        (.seq
         (.block 1
          (.seq
           (.draw (.op ⟨some 17, none, .ex (.mov) [.s 0]⟩ (.op ⟨some 18, none, .ex (.mov) [.s 5]⟩ (.op ⟨some 19, none, .ex (.ia 1) [.s 17, .s 18]⟩ (.op ⟨some 20, none, .ex (.ld 1) [.s 19]⟩ (.op ⟨some 21, none, .ex (.mov) [.s 1]⟩ (.op ⟨some 22, none, .ex (.mov) [.s 5]⟩ (.op ⟨some 23, none, .ex (.ia 1) [.s 21, .s 22]⟩ (.op ⟨some 24, none, .ex (.ld 1) [.s 23]⟩ (.op ⟨some 25, none, .ex (.ibin .neq) [.s 20, .s 24]⟩ .done))))))))))
           (.cond (.s 25)
            (.seq
             (.region [⟨some 4, none, .ex (.mov) [.k (.bool false)]⟩])
             .ret)
            .skip)))
         (.region [⟨some 15, none, .ex (.mov) [.s 5]⟩,
           ⟨some 16, none, .ex (.ibin .add) [.s 15, .k (.int .i64 1)]⟩,
           ⟨some 5, none, .ex (.mov) [.s 16]⟩]))))))
    (.seq
     (.region [⟨some 4, none, .ex (.mov) [.k (.bool true)]⟩])
     .ret)))),
 [.t 4]⟩
theorem c21 : compFn Go.Proofs.Tryd.prog 21 = some fn21 := by kernel_rfl

/-- rubric/cells.Text -/
def fn22 : AFn := ⟨19,
 (.seq
  (.region [⟨some 2, none, .ex (.mov) [.k .nils]⟩])
  (.seq
   (.region [⟨some 3, none, .ex (.mov) [.k .nils]⟩])
   (.seq
    (.seq
     (.region [⟨some 6, none, .ex (.mov) [.s 0]⟩,
       ⟨some 7, none, .ex (.len) [.s 6]⟩,
       ⟨some 8, none, .ex (.mov) [.k (.int .i64 0)]⟩])
     (.block 0
      (.loop
       (.seq
        (.region [⟨some 9, none, .ex (.ibin .lss) [.s 8, .s 7]⟩])
        (.seq
         (.cond (.s 9)
          .skip
          (.exit 0))
         (.seq
          (.block 1
           (.seq
            (.region [⟨some 10, none, .ex (.ia 2) [.s 6, .s 8]⟩,
              ⟨some 11, none, .ex (.lda 2) [.s 10]⟩,
              ⟨some 5, none, .ex (.alloc [(.int .i32 0), .nils]) []⟩,
              ⟨none, none, .ex (.st 2) [.s 5, .s 11]⟩])
            (.region [⟨some 12, none, .ex (.mov) [.s 3]⟩,
              ⟨some 13, none, .ex (.fa 0) [.s 5]⟩,
              ⟨some 14, none, .ex (.ld 1) [.s 13]⟩,
              ⟨some 15, none, .ex (.bsl 1 1 [(.int .i32 0)] [(0, 1)]) [.s 14]⟩,
              ⟨some 16, none, .ex (.app 1 4) [.s 12, .s 15]⟩,
              ⟨some 3, none, .ex (.mov) [.s 16]⟩])))
          (.region [⟨some 17, none, .ex (.ibin .add) [.s 8, .k (.int .i64 1)]⟩,
            ⟨some 8, none, .ex (.mov) [.s 17]⟩])))))))
    (.seq
     (.region [⟨some 18, none, .ex (.mov) [.s 3]⟩,
       ⟨some 2, none, .ex (.mov) [.s 18]⟩])
     .ret)))),
 [.t 2]⟩
theorem c22 : compFn Go.Proofs.Tryd.prog 22 = some fn22 := by kernel_rfl

/-- rubric/cells.Blank -/
def fn34 : AFn := ⟨3,
 (.seq
  (.region [⟨some 0, none, .ex (.mov) [.k .nils]⟩])
  (.seq
   (.region [⟨some 1, none, .ex (.build [(.int .i32 0), .nils] [(0, 1)]) [.k (.int .i32 10)]⟩,
     ⟨some 2, none, .ex (.bsl 2 1 [(.int .i32 0), .nils] [(0, 2)]) [.s 1]⟩,
     ⟨some 0, none, .ex (.mov) [.s 2]⟩])
   .ret)),
 [.t 0]⟩
theorem c34 : compFn Go.Proofs.Tryd.prog 34 = some fn34 := by kernel_rfl

/-- rubric/cells.May$1 -/
def fn35 : AFn := ⟨7,
 (.seq
  (.region [⟨some 3, none, .ex (.mov) [.k (.bool false)]⟩])
  (.seq
   (.region [⟨some 4, none, .ex (.ld 1) [.s 1]⟩,
     ⟨some 5, none, .ex (.mov) [.s 0]⟩,
     ⟨some 6, none, .callf 36 [.s 4, .s 5]⟩,
     ⟨some 3, none, .ex (.mov) [.s 6]⟩])
   .ret)),
 [.t 3]⟩
theorem c35 : compFn Go.Proofs.Tryd.prog 35 = some fn35 := by kernel_rfl

/-- slices.ContainsFunc[[]rubric/api.Cell,rubric/api.Cell] -/
def fn36 : AFn := ⟨9,
 (.seq
  (.region [⟨some 4, none, .ex (.mov) [.k (.bool false)]⟩])
  (.seq
   (.region [⟨some 5, none, .ex (.mov) [.s 0]⟩,
     ⟨some 6, none, .ex (.mov) [.s 1]⟩,
     ⟨some 7, none, .callf 63 [.s 5, .s 6]⟩,
     ⟨some 8, none, .ex (.ibin .geq) [.s 7, .k (.int .i64 0)]⟩,
     ⟨some 4, none, .ex (.mov) [.s 8]⟩])
   .ret)),
 [.t 4]⟩
theorem c36 : compFn Go.Proofs.Tryd.prog 36 = some fn36 := by kernel_rfl

/-- rubric/cells.May$2 -/
def fn37 : AFn := ⟨15,
 (.seq
  (.region [⟨some 2, none, .ex (.box) [.s 0]⟩,
    ⟨some 3, none, .ex (.mov) [.k (.bool false)]⟩])
  (.seq
   (.region [⟨some 4, none, .ex (.fa 0) [.s 2]⟩,
     ⟨some 5, none, .ex (.ld 1) [.s 4]⟩,
     ⟨some 6, none, .callf 38 [.s 5]⟩,
     ⟨some 7, none, .ex (.bnot) [.s 6]⟩,
     ⟨some 8, none, .ex (.mov) [.s 7]⟩,
     ⟨some 9, some (8, false), .ex (.ld 1) [.s 1]⟩,
     ⟨some 10, some (8, false), .ex (.fa 1) [.s 2]⟩,
     ⟨some 11, some (8, false), .ex (.ld 1) [.s 10]⟩,
     ⟨some 12, some (8, false), .callf 39 [.s 9, .s 11]⟩,
     ⟨some 13, some (8, false), .ex (.ibin .eql) [.s 12, .k (.int .i64 3)]⟩,
     ⟨some 14, none, .ex (.pick) [.s 8, .k (.bool true), .s 13]⟩,
     ⟨some 3, none, .ex (.mov) [.s 14]⟩])
   .ret)),
 [.t 3]⟩
theorem c37 : compFn Go.Proofs.Tryd.prog 37 = some fn37 := by kernel_rfl

/-- rubric/cells.May$3 -/
def fn40 : AFn := ⟨9,
 (.seq
  (.region [⟨some 2, none, .ex (.box) [.s 0]⟩,
    ⟨some 3, none, .ex (.mov) [.k (.bool false)]⟩])
  (.seq
   (.region [⟨some 4, none, .ex (.ld 1) [.s 1]⟩,
     ⟨some 5, none, .ex (.fa 1) [.s 2]⟩,
     ⟨some 6, none, .ex (.ld 1) [.s 5]⟩,
     ⟨some 7, none, .callf 39 [.s 4, .s 6]⟩,
     ⟨some 8, none, .ex (.ibin .neq) [.s 7, .k (.int .i64 0)]⟩,
     ⟨some 3, none, .ex (.mov) [.s 8]⟩])
   .ret)),
 [.t 3]⟩
theorem c40 : compFn Go.Proofs.Tryd.prog 40 = some fn40 := by kernel_rfl

/-- rubric/cells.May$4 -/
def fn41 : AFn := ⟨13,
 (.seq
  (.region [⟨some 2, none, .ex (.box) [.s 0]⟩,
    ⟨some 3, none, .ex (.mov) [.k (.bool false)]⟩])
  (.seq
   (.region [⟨some 4, none, .ex (.ld 1) [.s 1]⟩,
     ⟨some 5, none, .ex (.fa 1) [.s 2]⟩,
     ⟨some 6, none, .ex (.ld 1) [.s 5]⟩,
     ⟨some 7, none, .ex (.fa 0) [.s 2]⟩,
     ⟨some 8, none, .ex (.ld 1) [.s 7]⟩,
     ⟨some 9, none, .ex (.ibin .neq) [.s 8, .k (.int .i32 10)]⟩,
     ⟨some 10, none, .callf 32 [.s 4, .s 6, .s 9]⟩,
     ⟨some 11, none, .ex (.len) [.s 10]⟩,
     ⟨some 12, none, .ex (.ibin .gtr) [.s 11, .k (.int .i64 0)]⟩,
     ⟨some 3, none, .ex (.mov) [.s 12]⟩])
   .ret)),
 [.t 3]⟩
theorem c41 : compFn Go.Proofs.Tryd.prog 41 = some fn41 := by kernel_rfl

/-- slices.EqualFunc[[]rubric/api.Cell,[]rubric/api.Cell,rubric/api.Cell,rubric/api.Cell] -/
def fn42 : AFn := ⟨32,
 (.seq
  (.region [⟨some 6, none, .ex (.mov) [.k (.bool false)]⟩])
  (.seq
   (.seq
    (.region [⟨some 10, none, .ex (.mov) [.s 0]⟩,
      ⟨some 11, none, .ex (.len) [.s 10]⟩,
      ⟨some 12, none, .ex (.mov) [.s 1]⟩,
      ⟨some 13, none, .ex (.len) [.s 12]⟩,
      ⟨some 14, none, .ex (.ibin .neq) [.s 11, .s 13]⟩])
    (.cond (.s 14)
     (.seq
      (.region [⟨some 6, none, .ex (.mov) [.k (.bool false)]⟩])
      .ret)
     .skip))
   (.seq
    (.seq
     (.region [⟨some 15, none, .ex (.mov) [.s 0]⟩,
       ⟨some 16, none, .ex (.len) [.s 15]⟩,
       ⟨some 17, none, .ex (.mov) [.k (.int .i64 0)]⟩])
     (.block 0
      (.loop
       (.seq
        (.region [⟨some 18, none, .ex (.ibin .lss) [.s 17, .s 16]⟩])
        (.seq
         (.cond (.s 18)
          .skip
          (.exit 0))
         (.seq
          (.block 1
           (.seq
            (.region [⟨some 19, none, .ex (.mov) [.s 17]⟩,
              ⟨some 20, none, .ex (.ia 2) [.s 15, .s 17]⟩,
              ⟨some 21, none, .ex (.lda 2) [.s 20]⟩,
              ⟨some 8, none, .ex (.alloc [(.int .i32 0), .nils]) []⟩,
              ⟨some 7, none, .ex (.mov) [.s 19]⟩,
              ⟨none, none, .ex (.st 2) [.s 8, .s 21]⟩])
            (.seq
             (.region [⟨some 22, none, .ex (.mov) [.s 1]⟩,
               ⟨some 23, none, .ex (.mov) [.s 7]⟩,
               ⟨some 24, none, .ex (.ia 2) [.s 22, .s 23]⟩,
               ⟨some 25, none, .ex (.lda 2) [.s 24]⟩,
               ⟨some 9, none, .ex (.alloc [(.int .i32 0), .nils]) []⟩,
               ⟨none, none, .ex (.st 2) [.s 9, .s 25]⟩])
             (.seq
              (.region [⟨some 26, none, .ex (.mov) [.s 2]⟩,
                ⟨some 27, none, .ex (.lda 2) [.s 8]⟩,
                ⟨some 28, none, .ex (.lda 2) [.s 9]⟩,
                ⟨some 29, none, .callv (.s 26) [.s 27, .s 28]⟩,
                ⟨some 30, none, .ex (.bnot) [.s 29]⟩])
              (.cond (.s 30)
               (.seq
                (.region [⟨some 6, none, .ex (.mov) [.k (.bool false)]⟩])
                .ret)
               .skip)))))
          (.region [⟨some 31, none, .ex (.ibin .add) [.s 17, .k (.int .i64 1)]⟩,
            ⟨some 17, none, .ex (.mov) [.s 31]⟩])))))))
    (.seq
     (.region [⟨some 6, none, .ex (.mov) [.k (.bool true)]⟩])
     .ret)))),
 [.t 6]⟩
theorem c42 : compFn Go.Proofs.Tryd.prog 42 = some fn42 := by kernel_rfl

/-- rubric/cells.Same$1 -/
def fn43 : AFn := ⟨17,
 (.seq
  (.region [⟨some 2, none, .ex (.box) [.s 0]⟩,
    ⟨some 3, none, .ex (.box) [.s 1]⟩,
    ⟨some 4, none, .ex (.mov) [.k (.bool false)]⟩])
  (.seq
   (.region [⟨some 5, none, .ex (.fa 0) [.s 2]⟩,
     ⟨some 6, none, .ex (.ld 1) [.s 5]⟩,
     ⟨some 7, none, .ex (.fa 0) [.s 3]⟩,
     ⟨some 8, none, .ex (.ld 1) [.s 7]⟩,
     ⟨some 9, none, .ex (.ibin .eql) [.s 6, .s 8]⟩,
     ⟨some 10, none, .ex (.mov) [.s 9]⟩,
     ⟨some 11, some (10, true), .ex (.fa 1) [.s 2]⟩,
     ⟨some 12, some (10, true), .ex (.ld 1) [.s 11]⟩,
     ⟨some 13, some (10, true), .ex (.fa 1) [.s 3]⟩,
     ⟨some 14, some (10, true), .ex (.ld 1) [.s 13]⟩,
     ⟨some 15, some (10, true), .callf 44 [.s 12, .s 14]⟩,
     ⟨some 16, none, .ex (.pick) [.s 10, .s 15, .k (.bool false)]⟩,
     ⟨some 4, none, .ex (.mov) [.s 16]⟩])
   .ret)),
 [.t 4]⟩
theorem c43 : compFn Go.Proofs.Tryd.prog 43 = some fn43 := by kernel_rfl

/-- rubric/attrs.Same -/
def fn44 : AFn := ⟨8,
 (.seq
  (.region [⟨some 4, none, .ex (.mov) [.k (.bool false)]⟩])
  (.seq
   (.region [⟨some 5, none, .ex (.mov) [.s 0]⟩,
     ⟨some 6, none, .ex (.mov) [.s 1]⟩,
     ⟨some 7, none, .callf 67 [.s 5, .s 6]⟩,
     ⟨some 4, none, .ex (.mov) [.s 7]⟩])
   .ret)),
 [.t 4]⟩
theorem c44 : compFn Go.Proofs.Tryd.prog 44 = some fn44 := by kernel_rfl

/-- slices.EqualFunc[[]rubric/api.Op,[]rubric/api.Op,rubric/api.Op,rubric/api.Op] -/
def fn45 : AFn := ⟨32,
 (.seq
  (.region [⟨some 6, none, .ex (.mov) [.k (.bool false)]⟩])
  (.seq
   (.seq
    (.region [⟨some 10, none, .ex (.mov) [.s 0]⟩,
      ⟨some 11, none, .ex (.len) [.s 10]⟩,
      ⟨some 12, none, .ex (.mov) [.s 1]⟩,
      ⟨some 13, none, .ex (.len) [.s 12]⟩,
      ⟨some 14, none, .ex (.ibin .neq) [.s 11, .s 13]⟩])
    (.cond (.s 14)
     (.seq
      (.region [⟨some 6, none, .ex (.mov) [.k (.bool false)]⟩])
      .ret)
     .skip))
   (.seq
    (.seq
     (.region [⟨some 15, none, .ex (.mov) [.s 0]⟩,
       ⟨some 16, none, .ex (.len) [.s 15]⟩,
       ⟨some 17, none, .ex (.mov) [.k (.int .i64 0)]⟩])
     (.block 0
      (.loop
       (.seq
        (.region [⟨some 18, none, .ex (.ibin .lss) [.s 17, .s 16]⟩])
        (.seq
         (.cond (.s 18)
          .skip
          (.exit 0))
         (.seq
          (.block 1
           (.seq
            (.region [⟨some 19, none, .ex (.mov) [.s 17]⟩,
              ⟨some 20, none, .ex (.ia 5) [.s 15, .s 17]⟩,
              ⟨some 21, none, .ex (.lda 5) [.s 20]⟩,
              ⟨some 8, none, .ex (.alloc [(.int .u8 0), (.int .i64 0), .nils, .nils, .nils]) []⟩,
              ⟨some 7, none, .ex (.mov) [.s 19]⟩,
              ⟨none, none, .ex (.st 5) [.s 8, .s 21]⟩])
            (.seq
             (.region [⟨some 22, none, .ex (.mov) [.s 1]⟩,
               ⟨some 23, none, .ex (.mov) [.s 7]⟩,
               ⟨some 24, none, .ex (.ia 5) [.s 22, .s 23]⟩,
               ⟨some 25, none, .ex (.lda 5) [.s 24]⟩,
               ⟨some 9, none, .ex (.alloc [(.int .u8 0), (.int .i64 0), .nils, .nils, .nils]) []⟩,
               ⟨none, none, .ex (.st 5) [.s 9, .s 25]⟩])
             (.seq
              (.region [⟨some 26, none, .ex (.mov) [.s 2]⟩,
                ⟨some 27, none, .ex (.lda 5) [.s 8]⟩,
                ⟨some 28, none, .ex (.lda 5) [.s 9]⟩,
                ⟨some 29, none, .callv (.s 26) [.s 27, .s 28]⟩,
                ⟨some 30, none, .ex (.bnot) [.s 29]⟩])
              (.cond (.s 30)
               (.seq
                (.region [⟨some 6, none, .ex (.mov) [.k (.bool false)]⟩])
                .ret)
               .skip)))))
          (.region [⟨some 31, none, .ex (.ibin .add) [.s 17, .k (.int .i64 1)]⟩,
            ⟨some 17, none, .ex (.mov) [.s 31]⟩])))))))
    (.seq
     (.region [⟨some 6, none, .ex (.mov) [.k (.bool true)]⟩])
     .ret)))),
 [.t 6]⟩
theorem c45 : compFn Go.Proofs.Tryd.prog 45 = some fn45 := by kernel_rfl

/-- rubric/ops.Same$1 -/
def fn46 : AFn := ⟨38,
 (.seq
  (.region [⟨some 2, none, .ex (.box) [.s 0]⟩,
    ⟨some 3, none, .ex (.box) [.s 1]⟩,
    ⟨some 4, none, .ex (.mov) [.k (.bool false)]⟩])
  (.seq
   (.region [⟨some 5, none, .ex (.fa 0) [.s 2]⟩,
     ⟨some 6, none, .ex (.ld 1) [.s 5]⟩,
     ⟨some 7, none, .ex (.fa 0) [.s 3]⟩,
     ⟨some 8, none, .ex (.ld 1) [.s 7]⟩,
     ⟨some 9, none, .ex (.ibin .eql) [.s 6, .s 8]⟩,
     ⟨some 10, none, .ex (.mov) [.s 9]⟩,
     ⟨some 11, some (10, true), .ex (.fa 1) [.s 2]⟩,
     ⟨some 12, some (10, true), .ex (.ld 1) [.s 11]⟩,
     ⟨some 13, some (10, true), .ex (.fa 1) [.s 3]⟩,
     ⟨some 14, some (10, true), .ex (.ld 1) [.s 13]⟩,
     ⟨some 15, some (10, true), .ex (.ibin .eql) [.s 12, .s 14]⟩,
     ⟨some 16, none, .ex (.pick) [.s 10, .s 15, .k (.bool false)]⟩,
     ⟨some 17, none, .ex (.mov) [.s 16]⟩,
     ⟨some 18, some (17, true), .ex (.fa 2) [.s 2]⟩,
     ⟨some 19, some (17, true), .ex (.ld 1) [.s 18]⟩,
     ⟨some 20, some (17, true), .ex (.fa 2) [.s 3]⟩,
     ⟨some 21, some (17, true), .ex (.ld 1) [.s 20]⟩,
     ⟨some 22, some (17, true), .callf 47 [.s 19, .s 21]⟩,
     ⟨some 23, none, .ex (.pick) [.s 17, .s 22, .k (.bool false)]⟩,
     ⟨some 24, none, .ex (.mov) [.s 23]⟩,
     ⟨some 25, some (24, true), .ex (.fa 3) [.s 2]⟩,
     ⟨some 26, some (24, true), .ex (.ld 1) [.s 25]⟩,
     ⟨some 27, some (24, true), .ex (.fa 3) [.s 3]⟩,
     ⟨some 28, some (24, true), .ex (.ld 1) [.s 27]⟩,
     ⟨some 29, some (24, true), .callf 44 [.s 26, .s 28]⟩,
     ⟨some 30, none, .ex (.pick) [.s 24, .s 29, .k (.bool false)]⟩,
     ⟨some 31, none, .ex (.mov) [.s 30]⟩,
     ⟨some 32, some (31, true), .ex (.fa 4) [.s 2]⟩,
     ⟨some 33, some (31, true), .ex (.ld 1) [.s 32]⟩,
     ⟨some 34, some (31, true), .ex (.fa 4) [.s 3]⟩,
     ⟨some 35, some (31, true), .ex (.ld 1) [.s 34]⟩,
     ⟨some 36, some (31, true), .callf 48 [.s 33, .s 35]⟩,
     ⟨some 37, none, .ex (.pick) [.s 31, .s 36, .k (.bool false)]⟩,
     ⟨some 4, none, .ex (.mov) [.s 37]⟩])
   .ret)),
 [.t 4]⟩
theorem c46 : compFn Go.Proofs.Tryd.prog 46 = some fn46 := by kernel_rfl

/-- slices.Equal[[]int32,int32] -/
def fn47 : AFn := ⟨26,
 (.seq
  (.region [⟨some 4, none, .ex (.mov) [.k (.bool false)]⟩])
  (.seq
   (.seq
    (.region [⟨some 6, none, .ex (.mov) [.s 0]⟩,
      ⟨some 7, none, .ex (.len) [.s 6]⟩,
      ⟨some 8, none, .ex (.mov) [.s 1]⟩,
      ⟨some 9, none, .ex (.len) [.s 8]⟩,
      ⟨some 10, none, .ex (.ibin .neq) [.s 7, .s 9]⟩])
    (.cond (.s 10)
     (.seq
      (.region [⟨some 4, none, .ex (.mov) [.k (.bool false)]⟩])
      .ret)
     .skip))
   (.seq
    (.seq
     (.region [⟨some 11, none, .ex (.mov) [.s 0]⟩,
       ⟨some 12, none, .ex (.len) [.s 11]⟩,
       ⟨some 13, none, .ex (.mov) [.k (.int .i64 0)]⟩])
     (.block 0
      (.loop
       (.seq
        (.region [⟨some 14, none, .ex (.ibin .lss) [.s 13, .s 12]⟩])
        (.seq
         (.cond (.s 14)
          .skip
          (.exit 0))
         (.seq
          (.block 1
           (.seq
            (.region [⟨some 15, none, .ex (.mov) [.s 13]⟩,
              ⟨some 5, none, .ex (.mov) [.s 15]⟩])
            (.seq
             (.draw (.op ⟨some 16, none, .ex (.mov) [.s 0]⟩ (.op ⟨some 17, none, .ex (.mov) [.s 5]⟩ (.op ⟨some 18, none, .ex (.ia 1) [.s 16, .s 17]⟩ (.op ⟨some 19, none, .ex (.ld 1) [.s 18]⟩ (.op ⟨some 20, none, .ex (.mov) [.s 1]⟩ (.op ⟨some 21, none, .ex (.mov) [.s 5]⟩ (.op ⟨some 22, none, .ex (.ia 1) [.s 20, .s 21]⟩ (.op ⟨some 23, none, .ex (.ld 1) [.s 22]⟩ (.op ⟨some 24, none, .ex (.ibin .neq) [.s 19, .s 23]⟩ .done))))))))))
             (.cond (.s 24)
              (.seq
               (.region [⟨some 4, none, .ex (.mov) [.k (.bool false)]⟩])
               .ret)
              .skip))))
          (.region [⟨some 25, none, .ex (.ibin .add) [.s 13, .k (.int .i64 1)]⟩,
            ⟨some 13, none, .ex (.mov) [.s 25]⟩])))))))
    (.seq
     (.region [⟨some 4, none, .ex (.mov) [.k (.bool true)]⟩])
     .ret)))),
 [.t 4]⟩
theorem c47 : compFn Go.Proofs.Tryd.prog 47 = some fn47 := by kernel_rfl

/-- rubric/patch.Same -/
def fn48 : AFn := ⟨8,
 (.seq
  (.region [⟨some 4, none, .ex (.mov) [.k (.bool false)]⟩])
  (.seq
   (.region [⟨some 5, none, .ex (.mov) [.s 0]⟩,
     ⟨some 6, none, .ex (.mov) [.s 1]⟩,
     ⟨some 7, none, .callf 68 [.s 5, .s 6]⟩,
     ⟨some 4, none, .ex (.mov) [.s 7]⟩])
   .ret)),
 [.t 4]⟩
theorem c48 : compFn Go.Proofs.Tryd.prog 48 = some fn48 := by kernel_rfl

/-- rubric/normal.New -/
def fn49 : AFn := ⟨3,
 (.seq
  (.region [⟨some 0, none, .ex (.mov) [.k .nilp]⟩])
  (.seq
   (.region [⟨some 1, none, .ex (.build [.nils, .nils, (.int .i64 0)] []) []⟩,
     ⟨some 2, none, .ex (.box) [.s 1]⟩,
     ⟨some 0, none, .ex (.mov) [.s 2]⟩])
   .ret)),
 [.t 0]⟩
theorem c49 : compFn Go.Proofs.Tryd.prog 49 = some fn49 := by kernel_rfl

/-- rubric/cells.tell -/
def fn50 : AFn := ⟨20,
 (.seq
  (.region [⟨some 6, none, .ex (.mov) [.s 1]⟩,
    ⟨some 7, none, .ex (.len) [.s 6]⟩,
    ⟨some 8, none, .ex (.mov) [.k (.int .i64 0)]⟩])
  (.block 0
   (.loop
    (.seq
     (.region [⟨some 9, none, .ex (.ibin .lss) [.s 8, .s 7]⟩])
     (.seq
      (.cond (.s 9)
       .skip
       (.exit 0))
      (.seq
       (.block 1
        (.seq
         (.region [⟨some 10, none, .ex (.ia 2) [.s 6, .s 8]⟩,
           ⟨some 11, none, .ex (.lda 2) [.s 10]⟩,
           ⟨some 5, none, .ex (.alloc [(.int .i32 0), .nils]) []⟩,
           ⟨none, none, .ex (.st 2) [.s 5, .s 11]⟩])
         (.region [⟨some 12, none, .ex (.mov) [.s 0]⟩,
           ⟨some 13, none, .ex (.fa 0) [.s 5]⟩,
           ⟨some 14, none, .ex (.ld 1) [.s 13]⟩,
           ⟨some 15, none, .ex (.bsl 1 1 [(.int .i32 0)] [(0, 1)]) [.s 14]⟩,
           ⟨some 16, none, .ex (.fa 1) [.s 5]⟩,
           ⟨some 17, none, .ex (.ld 1) [.s 16]⟩,
           ⟨some 18, none, .callf 69 [.s 12, .s 15, .s 17]⟩])))
       (.region [⟨some 19, none, .ex (.ibin .add) [.s 8, .k (.int .i64 1)]⟩,
         ⟨some 8, none, .ex (.mov) [.s 19]⟩]))))))),
 []⟩
theorem c50 : compFn Go.Proofs.Tryd.prog 50 = some fn50 := by kernel_rfl

/-- rubric/patch.Diff -/
def fn52 : AFn := ⟨93,
 (.seq
  (.region [⟨some 4, none, .ex (.mov) [.k .nils]⟩])
  (.seq
   (.region [⟨some 5, none, .ex (.mov) [.k .nils]⟩])
   (.seq
    (.region [⟨some 6, none, .ex (.mov) [.k (.int .i64 0)]⟩])
    (.seq
     (.seq
      (.region [⟨some 11, none, .ex (.mov) [.s 1]⟩,
        ⟨some 12, none, .ex (.len) [.s 11]⟩,
        ⟨some 13, none, .ex (.mov) [.k (.int .i64 0)]⟩])
      (.block 0
       (.loop
        (.seq
         (.region [⟨some 14, none, .ex (.ibin .lss) [.s 13, .s 12]⟩])
         (.seq
          (.cond (.s 14)
           .skip
           (.exit 0))
          (.seq
           (.block 1
            (.seq
             (.region [⟨some 15, none, .ex (.ia 5) [.s 11, .s 13]⟩,
               ⟨some 16, none, .ex (.lda 5) [.s 15]⟩,
               ⟨some 8, none, .ex (.alloc [(.int .i64 0), (.int .u8 0), (.int .i64 0), (.int .u64 0), (.str ⟨#[]⟩)]) []⟩,
               ⟨none, none, .ex (.st 5) [.s 8, .s 16]⟩])
             (.seq
              (.block 2
               (.loop
                (.seq
                 (.seq
                  (.draw (.op ⟨some 17, none, .ex (.mov) [.s 6]⟩ (.op ⟨some 18, none, .ex (.mov) [.s 0]⟩ (.op ⟨some 19, none, .ex (.len) [.s 18]⟩ (.op ⟨some 20, none, .ex (.ibin .lss) [.s 17, .s 19]⟩ (.op ⟨some 21, none, .ex (.mov) [.s 20]⟩ (.op ⟨some 22, some (21, true), .ex (.mov) [.s 0]⟩ (.op ⟨some 23, some (21, true), .ex (.mov) [.s 6]⟩ (.op ⟨some 24, some (21, true), .ex (.ia 5) [.s 22, .s 23]⟩ (.op ⟨some 25, some (21, true), .ex (.fa 0) [.s 24]⟩ (.op ⟨some 26, some (21, true), .ex (.ld 1) [.s 25]⟩ (.op ⟨some 27, some (21, true), .ex (.fa 0) [.s 8]⟩ (.op ⟨some 28, some (21, true), .ex (.ld 1) [.s 27]⟩ (.op ⟨some 29, some (21, true), .ex (.ibin .lss) [.s 26, .s 28]⟩ (.op ⟨some 30, none, .ex (.pick) [.s 21, .s 29, .k (.bool false)]⟩ .done)))))))))))))))
                  (.cond (.s 30)
                   .skip
                   (.exit 2)))
                 (.seq
                  (.block 3
                   (.region [⟨some 33, none, .ex (.mov) [.s 5]⟩,
                     ⟨some 34, none, .ex (.mov) [.s 0]⟩,
                     ⟨some 35, none, .ex (.mov) [.s 6]⟩,
                     ⟨some 36, none, .ex (.ia 5) [.s 34, .s 35]⟩,
                     ⟨some 37, none, .ex (.fa 0) [.s 36]⟩,
                     ⟨some 38, none, .ex (.ld 1) [.s 37]⟩,
                     ⟨some 39, none, .ex (.build [(.int .i64 0), (.bool false), (.int .u8 0), (.int .i64 0), (.int .u64 0), (.str ⟨#[]⟩)] [(0, 1), (1, 1)]) [.s 38, .k (.bool true)]⟩,
                     ⟨some 40, none, .ex (.bsl 6 1 [(.int .i64 0), (.bool false), (.int .u8 0), (.int .i64 0), (.int .u64 0), (.str ⟨#[]⟩)] [(0, 6)]) [.s 39]⟩,
                     ⟨some 41, none, .ex (.app 6 56) [.s 33, .s 40]⟩,
                     ⟨some 5, none, .ex (.mov) [.s 41]⟩]))
                  (.region [⟨some 31, none, .ex (.mov) [.s 6]⟩,
                    ⟨some 32, none, .ex (.ibin .add) [.s 31, .k (.int .i64 1)]⟩,
                    ⟨some 6, none, .ex (.mov) [.s 32]⟩])))))
              (.seq
               (.seq
                (.draw (.op ⟨some 42, none, .ex (.mov) [.s 6]⟩ (.op ⟨some 43, none, .ex (.mov) [.s 0]⟩ (.op ⟨some 44, none, .ex (.len) [.s 43]⟩ (.op ⟨some 45, none, .ex (.ibin .lss) [.s 42, .s 44]⟩ (.op ⟨some 46, none, .ex (.mov) [.s 45]⟩ (.op ⟨some 47, some (46, true), .ex (.mov) [.s 0]⟩ (.op ⟨some 48, some (46, true), .ex (.mov) [.s 6]⟩ (.op ⟨some 49, some (46, true), .ex (.ia 5) [.s 47, .s 48]⟩ (.op ⟨some 50, some (46, true), .ex (.fa 0) [.s 49]⟩ (.op ⟨some 51, some (46, true), .ex (.ld 1) [.s 50]⟩ (.op ⟨some 52, some (46, true), .ex (.fa 0) [.s 8]⟩ (.op ⟨some 53, some (46, true), .ex (.ld 1) [.s 52]⟩ (.op ⟨some 54, some (46, true), .ex (.ibin .eql) [.s 51, .s 53]⟩ (.op ⟨some 55, none, .ex (.pick) [.s 46, .s 54, .k (.bool false)]⟩ .done)))))))))))))))
                (.cond (.s 55)
                 (.seq
                  (.seq
                   (.draw (.op ⟨some 56, none, .ex (.mov) [.s 0]⟩ (.op ⟨some 57, none, .ex (.mov) [.s 6]⟩ (.op ⟨some 58, none, .ex (.ia 5) [.s 56, .s 57]⟩ (.op ⟨some 59, none, .ex (.fa 1) [.s 58]⟩ (.op ⟨some 60, none, .ex (.lda 4) [.s 59]⟩ (.op ⟨some 61, none, .ex (.fa 1) [.s 8]⟩ (.op ⟨some 62, none, .ex (.lda 4) [.s 61]⟩ (.op ⟨some 63, none, .ex (.eqagg true [0, 0, 0, 2]) [.s 60, .s 62]⟩ .done)))))))))
                   (.cond (.s 63)
                    (.region [⟨some 64, none, .ex (.mov) [.s 5]⟩,
                      ⟨some 65, none, .ex (.lda 5) [.s 8]⟩,
                      ⟨some 66, none, .callf 72 [.s 65]⟩,
                      ⟨some 67, none, .ex (.bsl 6 1 [(.int .i64 0), (.bool false), (.int .u8 0), (.int .i64 0), (.int .u64 0), (.str ⟨#[]⟩)] [(0, 6)]) [.s 66]⟩,
                      ⟨some 68, none, .ex (.app 6 56) [.s 64, .s 67]⟩,
                      ⟨some 5, none, .ex (.mov) [.s 68]⟩])
                    .skip))
                  (.seq
                   (.region [⟨some 69, none, .ex (.mov) [.s 6]⟩,
                     ⟨some 70, none, .ex (.ibin .add) [.s 69, .k (.int .i64 1)]⟩,
                     ⟨some 6, none, .ex (.mov) [.s 70]⟩])
                   (.exit 1)))
                 .skip))
               (.region [⟨some 71, none, .ex (.mov) [.s 5]⟩,
                 ⟨some 72, none, .ex (.lda 5) [.s 8]⟩,
                 ⟨some 73, none, .callf 72 [.s 72]⟩,
                 ⟨some 74, none, .ex (.bsl 6 1 [(.int .i64 0), (.bool false), (.int .u8 0), (.int .i64 0), (.int .u64 0), (.str ⟨#[]⟩)] [(0, 6)]) [.s 73]⟩,
                 ⟨some 75, none, .ex (.app 6 56) [.s 71, .s 74]⟩,
                 ⟨some 5, none, .ex (.mov) [.s 75]⟩])))))
           (.region [⟨some 76, none, .ex (.ibin .add) [.s 13, .k (.int .i64 1)]⟩,
             ⟨some 13, none, .ex (.mov) [.s 76]⟩])))))))
     (.seq
      (.seq
       (.region [⟨some 77, none, .ex (.mov) [.s 0]⟩,
         ⟨some 78, none, .ex (.mov) [.s 6]⟩,
         ⟨some 79, none, .ex (.slc 5 true false false) [.s 77, .s 78]⟩,
         ⟨some 80, none, .ex (.len) [.s 79]⟩,
         ⟨some 81, none, .ex (.mov) [.k (.int .i64 0)]⟩])
       (.block 4
        (.loop
         (.seq
          (.region [⟨some 82, none, .ex (.ibin .lss) [.s 81, .s 80]⟩])
          (.seq
           (.cond (.s 82)
            .skip
            (.exit 4))
           (.seq
            (.block 5
             (.seq
              (.region [⟨some 83, none, .ex (.ia 5) [.s 79, .s 81]⟩,
                ⟨some 84, none, .ex (.lda 5) [.s 83]⟩,
                ⟨some 10, none, .ex (.alloc [(.int .i64 0), (.int .u8 0), (.int .i64 0), (.int .u64 0), (.str ⟨#[]⟩)]) []⟩,
                ⟨none, none, .ex (.st 5) [.s 10, .s 84]⟩])
              (.region [⟨some 85, none, .ex (.mov) [.s 5]⟩,
                ⟨some 86, none, .ex (.fa 0) [.s 10]⟩,
                ⟨some 87, none, .ex (.ld 1) [.s 86]⟩,
                ⟨some 88, none, .ex (.build [(.int .i64 0), (.bool false), (.int .u8 0), (.int .i64 0), (.int .u64 0), (.str ⟨#[]⟩)] [(0, 1), (1, 1)]) [.s 87, .k (.bool true)]⟩,
                ⟨some 89, none, .ex (.bsl 6 1 [(.int .i64 0), (.bool false), (.int .u8 0), (.int .i64 0), (.int .u64 0), (.str ⟨#[]⟩)] [(0, 6)]) [.s 88]⟩,
                ⟨some 90, none, .ex (.app 6 56) [.s 85, .s 89]⟩,
                ⟨some 5, none, .ex (.mov) [.s 90]⟩])))
            (.region [⟨some 91, none, .ex (.ibin .add) [.s 81, .k (.int .i64 1)]⟩,
              ⟨some 81, none, .ex (.mov) [.s 91]⟩])))))))
      (.seq
       (.region [⟨some 92, none, .ex (.mov) [.s 5]⟩,
         ⟨some 4, none, .ex (.mov) [.s 92]⟩])
       .ret)))))),
 [.t 4]⟩
theorem c52 : compFn Go.Proofs.Tryd.prog 52 = some fn52 := by kernel_rfl

/-- slices.IndexFunc[[]rubric/api.Cell,rubric/api.Cell] -/
def fn63 : AFn := ⟨19,
 (.seq
  (.region [⟨some 4, none, .ex (.mov) [.k (.int .i64 0)]⟩])
  (.seq
   (.seq
    (.region [⟨some 6, none, .ex (.mov) [.s 0]⟩,
      ⟨some 7, none, .ex (.len) [.s 6]⟩,
      ⟨some 8, none, .ex (.mov) [.k (.int .i64 0)]⟩])
    (.block 0
     (.loop
      (.seq
       (.region [⟨some 9, none, .ex (.ibin .lss) [.s 8, .s 7]⟩])
       (.seq
        (.cond (.s 9)
         .skip
         (.exit 0))
        (.seq
         (.block 1
          (.seq
           (.region [⟨some 10, none, .ex (.mov) [.s 8]⟩,
             ⟨some 5, none, .ex (.mov) [.s 10]⟩])
           (.seq
            (.region [⟨some 11, none, .ex (.mov) [.s 1]⟩,
              ⟨some 12, none, .ex (.mov) [.s 0]⟩,
              ⟨some 13, none, .ex (.mov) [.s 5]⟩,
              ⟨some 14, none, .ex (.ia 2) [.s 12, .s 13]⟩,
              ⟨some 15, none, .ex (.lda 2) [.s 14]⟩,
              ⟨some 16, none, .callv (.s 11) [.s 15]⟩])
            (.cond (.s 16)
             (.seq
              (.region [⟨some 17, none, .ex (.mov) [.s 5]⟩,
                ⟨some 4, none, .ex (.mov) [.s 17]⟩])
              .ret)
             .skip))))
         (.region [⟨some 18, none, .ex (.ibin .add) [.s 8, .k (.int .i64 1)]⟩,
           ⟨some 8, none, .ex (.mov) [.s 18]⟩])))))))
   (.seq
    (.region [⟨some 4, none, .ex (.mov) [.k (.int .i64 (-1))]⟩])
    .ret))),
 [.t 4]⟩
theorem c63 : compFn Go.Proofs.Tryd.prog 63 = some fn63 := by kernel_rfl

/-- slices.Equal[[]rubric/api.Attr,rubric/api.Attr] -/
def fn67 : AFn := ⟨26,
 (.seq
  (.region [⟨some 4, none, .ex (.mov) [.k (.bool false)]⟩])
  (.seq
   (.seq
    (.region [⟨some 6, none, .ex (.mov) [.s 0]⟩,
      ⟨some 7, none, .ex (.len) [.s 6]⟩,
      ⟨some 8, none, .ex (.mov) [.s 1]⟩,
      ⟨some 9, none, .ex (.len) [.s 8]⟩,
      ⟨some 10, none, .ex (.ibin .neq) [.s 7, .s 9]⟩])
    (.cond (.s 10)
     (.seq
      (.region [⟨some 4, none, .ex (.mov) [.k (.bool false)]⟩])
      .ret)
     .skip))
   (.seq
    (.seq
     (.region [⟨some 11, none, .ex (.mov) [.s 0]⟩,
       ⟨some 12, none, .ex (.len) [.s 11]⟩,
       ⟨some 13, none, .ex (.mov) [.k (.int .i64 0)]⟩])
     (.block 0
      (.loop
       (.seq
        (.region [⟨some 14, none, .ex (.ibin .lss) [.s 13, .s 12]⟩])
        (.seq
         (.cond (.s 14)
          .skip
          (.exit 0))
         (.seq
          (.block 1
           (.seq
            (.region [⟨some 15, none, .ex (.mov) [.s 13]⟩,
              ⟨some 5, none, .ex (.mov) [.s 15]⟩])
            (.seq
             (.draw (.op ⟨some 16, none, .ex (.mov) [.s 0]⟩ (.op ⟨some 17, none, .ex (.mov) [.s 5]⟩ (.op ⟨some 18, none, .ex (.ia 5) [.s 16, .s 17]⟩ (.op ⟨some 19, none, .ex (.lda 5) [.s 18]⟩ (.op ⟨some 20, none, .ex (.mov) [.s 1]⟩ (.op ⟨some 21, none, .ex (.mov) [.s 5]⟩ (.op ⟨some 22, none, .ex (.ia 5) [.s 20, .s 21]⟩ (.op ⟨some 23, none, .ex (.lda 5) [.s 22]⟩ (.op ⟨some 24, none, .ex (.eqagg true [0, 0, 0, 0, 2]) [.s 19, .s 23]⟩ .done))))))))))
             (.cond (.s 24)
              (.seq
               (.region [⟨some 4, none, .ex (.mov) [.k (.bool false)]⟩])
               .ret)
              .skip))))
          (.region [⟨some 25, none, .ex (.ibin .add) [.s 13, .k (.int .i64 1)]⟩,
            ⟨some 13, none, .ex (.mov) [.s 25]⟩])))))))
    (.seq
     (.region [⟨some 4, none, .ex (.mov) [.k (.bool true)]⟩])
     .ret)))),
 [.t 4]⟩
theorem c67 : compFn Go.Proofs.Tryd.prog 67 = some fn67 := by kernel_rfl

/-- slices.Equal[[]rubric/api.Change,rubric/api.Change] -/
def fn68 : AFn := ⟨26,
 (.seq
  (.region [⟨some 4, none, .ex (.mov) [.k (.bool false)]⟩])
  (.seq
   (.seq
    (.region [⟨some 6, none, .ex (.mov) [.s 0]⟩,
      ⟨some 7, none, .ex (.len) [.s 6]⟩,
      ⟨some 8, none, .ex (.mov) [.s 1]⟩,
      ⟨some 9, none, .ex (.len) [.s 8]⟩,
      ⟨some 10, none, .ex (.ibin .neq) [.s 7, .s 9]⟩])
    (.cond (.s 10)
     (.seq
      (.region [⟨some 4, none, .ex (.mov) [.k (.bool false)]⟩])
      .ret)
     .skip))
   (.seq
    (.seq
     (.region [⟨some 11, none, .ex (.mov) [.s 0]⟩,
       ⟨some 12, none, .ex (.len) [.s 11]⟩,
       ⟨some 13, none, .ex (.mov) [.k (.int .i64 0)]⟩])
     (.block 0
      (.loop
       (.seq
        (.region [⟨some 14, none, .ex (.ibin .lss) [.s 13, .s 12]⟩])
        (.seq
         (.cond (.s 14)
          .skip
          (.exit 0))
         (.seq
          (.block 1
           (.seq
            (.region [⟨some 15, none, .ex (.mov) [.s 13]⟩,
              ⟨some 5, none, .ex (.mov) [.s 15]⟩])
            (.seq
             (.draw (.op ⟨some 16, none, .ex (.mov) [.s 0]⟩ (.op ⟨some 17, none, .ex (.mov) [.s 5]⟩ (.op ⟨some 18, none, .ex (.ia 6) [.s 16, .s 17]⟩ (.op ⟨some 19, none, .ex (.lda 6) [.s 18]⟩ (.op ⟨some 20, none, .ex (.mov) [.s 1]⟩ (.op ⟨some 21, none, .ex (.mov) [.s 5]⟩ (.op ⟨some 22, none, .ex (.ia 6) [.s 20, .s 21]⟩ (.op ⟨some 23, none, .ex (.lda 6) [.s 22]⟩ (.op ⟨some 24, none, .ex (.eqagg true [0, 1, 0, 0, 0, 2]) [.s 19, .s 23]⟩ .done))))))))))
             (.cond (.s 24)
              (.seq
               (.region [⟨some 4, none, .ex (.mov) [.k (.bool false)]⟩])
               .ret)
              .skip))))
          (.region [⟨some 25, none, .ex (.ibin .add) [.s 13, .k (.int .i64 1)]⟩,
            ⟨some 13, none, .ex (.mov) [.s 25]⟩])))))))
    (.seq
     (.region [⟨some 4, none, .ex (.mov) [.k (.bool true)]⟩])
     .ret)))),
 [.t 4]⟩
theorem c68 : compFn Go.Proofs.Tryd.prog 68 = some fn68 := by kernel_rfl

/-- rubric/patch.Copy -/
def fn71 : AFn := ⟨5,
 (.seq
  (.region [⟨some 2, none, .ex (.mov) [.k .nils]⟩])
  (.seq
   (.region [⟨some 3, none, .ex (.mov) [.s 0]⟩,
     ⟨some 4, none, .callf 96 [.s 3]⟩,
     ⟨some 2, none, .ex (.mov) [.s 4]⟩])
   .ret)),
 [.t 2]⟩
theorem c71 : compFn Go.Proofs.Tryd.prog 71 = some fn71 := by kernel_rfl

/-- rubric/patch.change -/
def fn72 : AFn := ⟨8,
 (.seq
  (.region [⟨some 1, none, .ex (.box) [.s 0]⟩,
    ⟨some 2, none, .ex (.alloc [(.int .i64 0), (.bool false), (.int .u8 0), (.int .i64 0), (.int .u64 0), (.str ⟨#[]⟩)]) []⟩])
  (.seq
   (.region [⟨some 3, none, .ex (.fa 0) [.s 1]⟩,
     ⟨some 4, none, .ex (.ld 1) [.s 3]⟩,
     ⟨some 5, none, .ex (.fa 1) [.s 1]⟩,
     ⟨some 6, none, .ex (.lda 4) [.s 5]⟩,
     ⟨some 7, none, .ex (.build [(.int .i64 0), (.bool false), (.int .u8 0), (.int .i64 0), (.int .u64 0), (.str ⟨#[]⟩)] [(0, 1), (2, 4)]) [.s 4, .s 6]⟩,
     ⟨none, none, .ex (.st 6) [.s 2, .s 7]⟩])
   .ret)),
 [.ca 2 6]⟩
theorem c72 : compFn Go.Proofs.Tryd.prog 72 = some fn72 := by kernel_rfl

/-- slices.Concat[[]rubric/api.Op,rubric/api.Op] -/
def fn73 : AFn := ⟨36,
 (.seq
  (.region [⟨some 2, none, .ex (.mov) [.k .nils]⟩])
  (.seq
   (.region [⟨some 3, none, .ex (.mov) [.k (.int .i64 0)]⟩])
   (.seq
    (.seq
     (.region [⟨some 9, none, .ex (.mov) [.s 0]⟩,
       ⟨some 10, none, .ex (.len) [.s 9]⟩,
       ⟨some 11, none, .ex (.mov) [.k (.int .i64 0)]⟩])
     (.block 0
      (.loop
       (.seq
        (.region [⟨some 12, none, .ex (.ibin .lss) [.s 11, .s 10]⟩])
        (.seq
         (.cond (.s 12)
          .skip
          (.exit 0))
         (.seq
          (.block 1
           (.seq
            (.region [⟨some 13, none, .ex (.ia 1) [.s 9, .s 11]⟩,
              ⟨some 14, none, .ex (.ld 1) [.s 13]⟩,
              ⟨some 5, none, .ex (.mov) [.s 14]⟩])
            (.seq
             (.region [⟨some 15, none, .ex (.mov) [.s 3]⟩,
               ⟨some 16, none, .ex (.mov) [.s 5]⟩,
               ⟨some 17, none, .ex (.len) [.s 16]⟩,
               ⟨some 18, none, .ex (.ibin .add) [.s 15, .s 17]⟩,
               ⟨some 3, none, .ex (.mov) [.s 18]⟩])
             (.seq
              (.region [⟨some 19, none, .ex (.mov) [.s 3]⟩,
                ⟨some 20, none, .ex (.ibin .lss) [.s 19, .k (.int .i64 0)]⟩])
              (.cond (.s 20)
               (.region [⟨some 21, none, .bad⟩,
                 ⟨none, none, .bad⟩])
               .skip)))))
          (.region [⟨some 22, none, .ex (.ibin .add) [.s 11, .k (.int .i64 1)]⟩,
            ⟨some 11, none, .ex (.mov) [.s 22]⟩])))))))
    (.seq
     (.region [⟨some 23, none, .ex (.mov) [.s 3]⟩,
       ⟨some 24, none, .callf 97 [.k .nils, .s 23]⟩,
       ⟨some 6, none, .ex (.mov) [.s 24]⟩])
     (.seq
      (.seq
       (.region [⟨some 25, none, .ex (.mov) [.s 0]⟩,
         ⟨some 26, none, .ex (.len) [.s 25]⟩,
         ⟨some 27, none, .ex (.mov) [.k (.int .i64 0)]⟩])
       (.block 2
        (.loop
         (.seq
          (.region [⟨some 28, none, .ex (.ibin .lss) [.s 27, .s 26]⟩])
          (.seq
           (.cond (.s 28)
            .skip
            (.exit 2))
           (.seq
            (.block 3
             (.seq
              (.region [⟨some 29, none, .ex (.ia 1) [.s 25, .s 27]⟩,
                ⟨some 30, none, .ex (.ld 1) [.s 29]⟩,
                ⟨some 8, none, .ex (.mov) [.s 30]⟩])
              (.region [⟨some 31, none, .ex (.mov) [.s 6]⟩,
                ⟨some 32, none, .ex (.mov) [.s 8]⟩,
                ⟨some 33, none, .ex (.app 5 88) [.s 31, .s 32]⟩,
                ⟨some 6, none, .ex (.mov) [.s 33]⟩])))
            (.region [⟨some 34, none, .ex (.ibin .add) [.s 27, .k (.int .i64 1)]⟩,
              ⟨some 27, none, .ex (.mov) [.s 34]⟩])))))))
      (.seq
       (.region [⟨some 35, none, .ex (.mov) [.s 6]⟩,
         ⟨some 2, none, .ex (.mov) [.s 35]⟩])
       .ret)))))),
 [.t 2]⟩
theorem c73 : compFn Go.Proofs.Tryd.prog 73 = some fn73 := by kernel_rfl

/-- rubric/attrs.Copy -/
def fn94 : AFn := ⟨5,
 (.seq
  (.region [⟨some 2, none, .ex (.mov) [.k .nils]⟩])
  (.seq
   (.region [⟨some 3, none, .ex (.mov) [.s 0]⟩,
     ⟨some 4, none, .callf 60 [.s 3]⟩,
     ⟨some 2, none, .ex (.mov) [.s 4]⟩])
   .ret)),
 [.t 2]⟩
theorem c94 : compFn Go.Proofs.Tryd.prog 94 = some fn94 := by kernel_rfl

/-- slices.Grow[[]rubric/api.Op,rubric/api.Op] -/
def fn97 : AFn := ⟨27,
 (.seq
  (.region [⟨some 4, none, .ex (.mov) [.k .nils]⟩])
  (.seq
   (.seq
    (.region [⟨some 5, none, .ex (.mov) [.s 1]⟩,
      ⟨some 6, none, .ex (.ibin .lss) [.s 5, .k (.int .i64 0)]⟩])
    (.cond (.s 6)
     (.region [⟨some 7, none, .bad⟩,
       ⟨none, none, .bad⟩])
     .skip))
   (.seq
    (.seq
     (.region [⟨some 8, none, .ex (.mov) [.s 1]⟩,
       ⟨some 9, none, .ex (.mov) [.s 0]⟩,
       ⟨some 10, none, .ex (.cap) [.s 9]⟩,
       ⟨some 11, none, .ex (.mov) [.s 0]⟩,
       ⟨some 12, none, .ex (.len) [.s 11]⟩,
       ⟨some 13, none, .ex (.ibin .sub) [.s 10, .s 12]⟩,
       ⟨some 14, none, .ex (.ibin .sub) [.s 8, .s 13]⟩,
       ⟨some 1, none, .ex (.mov) [.s 14]⟩])
     (.seq
      (.region [⟨some 15, none, .ex (.mov) [.s 1]⟩,
        ⟨some 16, none, .ex (.ibin .gtr) [.s 15, .k (.int .i64 0)]⟩])
      (.cond (.s 16)
       (.region [⟨some 17, none, .ex (.mov) [.s 0]⟩,
         ⟨some 18, none, .ex (.mov) [.s 0]⟩,
         ⟨some 19, none, .ex (.cap) [.s 18]⟩,
         ⟨some 20, none, .ex (.slc 5 false true false) [.s 17, .s 19]⟩,
         ⟨some 21, none, .ex (.mov) [.s 1]⟩,
         ⟨some 22, none, .ex (.appz 5 88 [(.int .u8 0), (.int .i64 0), .nils, .nils, .nils]) [.s 20, .s 21]⟩,
         ⟨some 23, none, .ex (.mov) [.s 0]⟩,
         ⟨some 24, none, .ex (.len) [.s 23]⟩,
         ⟨some 25, none, .ex (.slc 5 false true false) [.s 22, .s 24]⟩,
         ⟨some 0, none, .ex (.mov) [.s 25]⟩])
       .skip)))
    (.seq
     (.region [⟨some 26, none, .ex (.mov) [.s 0]⟩,
       ⟨some 4, none, .ex (.mov) [.s 26]⟩])
     .ret)))),
 [.t 4]⟩
theorem c97 : compFn Go.Proofs.Tryd.prog 97 = some fn97 := by kernel_rfl

end Go.Proofs.YtbadbkdpnbacnaaDoor.Fw

/- The abstract code of functions of the program, and that it is theirs. No condition. Printed by a program (wip/Print.lean, wip/mkfns.py). -/
namespace Go.Proofs.YtbadbkdpnbacnaaDoor.Fw
open Go

/-- rubric/rubriclaw18.CellsApart -/
def fn6 : AFn := ⟨66,
 (.seq
  (.region [⟨some 6, none, .ex (.mov) [.k (.bool false)]⟩])
  (.seq
   (.seq
    (.region [⟨some 10, none, .ex (.mov) [.s 0]⟩,
      ⟨some 11, none, .ex (.len) [.s 10]⟩,
      ⟨some 12, none, .ex (.ibin .gtr) [.s 11, .k (.int .i64 64)]⟩,
      ⟨some 13, none, .ex (.mov) [.s 12]⟩,
      ⟨some 14, some (13, false), .ex (.mov) [.s 1]⟩,
      ⟨some 15, some (13, false), .callf 15 [.s 14, .k (.int .i64 500)]⟩,
      ⟨some 16, none, .ex (.pick) [.s 13, .k (.bool true), .s 15]⟩,
      ⟨some 17, none, .ex (.mov) [.s 16]⟩,
      ⟨some 18, some (17, false), .ex (.mov) [.s 2]⟩,
      ⟨some 19, some (17, false), .callf 15 [.s 18, .k (.int .i64 500)]⟩,
      ⟨some 20, none, .ex (.pick) [.s 17, .k (.bool true), .s 19]⟩])
    (.cond (.s 20)
     (.seq
      (.region [⟨some 21, none, .callf 16 []⟩,
        ⟨some 6, none, .ex (.mov) [.s 21]⟩])
      .ret)
     .skip))
   (.seq
    (.region [⟨some 23, none, .ex (.mov) [.s 0]⟩,
      ⟨some 24, none, .callf 9 [.s 23]⟩,
      ⟨some 22, none, .ex (.mov) [.s 24]⟩,
      ⟨some 25, none, .ex (.ext 0) [.s 22]⟩,
      ⟨some 26, none, .ex (.ext 1) [.s 22]⟩,
      ⟨some 7, none, .ex (.mov) [.s 25]⟩,
      ⟨some 8, none, .ex (.mov) [.s 26]⟩])
    (.seq
     (.seq
      (.region [⟨some 27, none, .ex (.mov) [.s 8]⟩,
        ⟨some 28, none, .ex (.ibin .neq) [.s 27, .k (.int .i64 0)]⟩,
        ⟨some 29, none, .ex (.mov) [.s 28]⟩,
        ⟨some 30, some (29, false), .ex (.mov) [.s 7]⟩,
        ⟨some 31, some (29, false), .ex (.mov) [.s 1]⟩,
        ⟨some 32, some (29, false), .callf 17 [.s 30, .s 31]⟩,
        ⟨some 33, some (29, false), .ex (.ibin .neq) [.s 32, .k (.int .i64 0)]⟩,
        ⟨some 34, none, .ex (.pick) [.s 29, .k (.bool true), .s 33]⟩,
        ⟨some 35, none, .ex (.mov) [.s 34]⟩,
        ⟨some 36, some (35, false), .ex (.mov) [.s 7]⟩,
        ⟨some 37, some (35, false), .ex (.mov) [.s 2]⟩,
        ⟨some 38, some (35, false), .callf 17 [.s 36, .s 37]⟩,
        ⟨some 39, some (35, false), .ex (.ibin .neq) [.s 38, .k (.int .i64 0)]⟩,
        ⟨some 40, none, .ex (.pick) [.s 35, .k (.bool true), .s 39]⟩])
      (.cond (.s 40)
       (.seq
        (.region [⟨some 41, none, .callf 16 []⟩,
          ⟨some 6, none, .ex (.mov) [.s 41]⟩])
        .ret)
       .skip))
     (.seq
      (.region [⟨some 42, none, .ex (.mov) [.s 1]⟩,
        ⟨some 43, none, .ex (.mov) [.s 2]⟩,
        ⟨some 44, none, .callf 18 [.s 42, .s 43]⟩,
        ⟨some 9, none, .ex (.mov) [.s 44]⟩])
      (.seq
       (.region [⟨some 45, none, .ex (.mov) [.s 1]⟩,
         ⟨some 46, none, .callf 20 [.s 45]⟩,
         ⟨some 47, none, .ex (.mov) [.s 2]⟩,
         ⟨some 48, none, .callf 20 [.s 47]⟩,
         ⟨some 49, none, .callf 19 [.s 46, .s 48]⟩,
         ⟨some 50, none, .ex (.mov) [.s 9]⟩,
         ⟨some 51, none, .ex (.bbin false) [.s 49, .s 50]⟩,
         ⟨some 52, none, .ex (.mov) [.s 51]⟩,
         ⟨some 53, some (52, true), .ex (.mov) [.s 9]⟩,
         ⟨some 54, some (52, true), .ex (.bnot) [.s 53]⟩,
         ⟨some 55, some (52, true), .ex (.mov) [.s 54]⟩,
         ⟨some 56, some (55, false), .ex (.mov) [.s 1]⟩,
         ⟨some 57, some (55, false), .callf 22 [.s 56]⟩,
         ⟨some 58, some (55, false), .ex (.mov) [.s 2]⟩,
         ⟨some 59, some (55, false), .callf 22 [.s 58]⟩,
         ⟨some 60, some (55, false), .callf 21 [.s 57, .s 59]⟩,
         ⟨some 61, some (52, true), .ex (.pick) [.s 55, .k (.bool true), .s 60]⟩,
         ⟨some 62, none, .ex (.pick) [.s 52, .s 61, .k (.bool false)]⟩,
         ⟨some 63, none, .ex (.mov) [.s 62]⟩,
         ⟨some 64, some (63, true), .callf 16 []⟩,
         ⟨some 65, none, .ex (.pick) [.s 63, .s 64, .k (.bool false)]⟩,
         ⟨some 6, none, .ex (.mov) [.s 65]⟩])
       .ret)))))),
 [.t 6]⟩
theorem c6 : compFn Go.Proofs.Tryd.prog 6 = some fn6 := by kernel_rfl

/-- rubric/rubriclaw18.known -/
def fn16 : AFn := ⟨70,
 (.seq
  (.region [⟨some 0, none, .ex (.mov) [.k (.bool false)]⟩])
  (.seq
   (.region [⟨some 7, none, .ex (.build [(.int .i64 0), (.bool false), (.int .u8 0), (.bool false), (.bool false), (.int .i64 0)] [(0, 1), (2, 1)]) [.k (.int .i64 1), .k (.int .u8 1)]⟩,
     ⟨some 8, none, .ex (.build [(.int .i64 0), (.bool false), (.int .u8 0), (.bool false), (.bool false), (.int .i64 0)] [(0, 1), (1, 1), (2, 1)]) [.k (.int .i64 11), .k (.bool true), .k (.int .u8 2)]⟩,
     ⟨some 9, none, .ex (.bsl 6 2 [(.int .i64 0), (.bool false), (.int .u8 0), (.bool false), (.bool false), (.int .i64 0), (.int .i64 0), (.bool false), (.int .u8 0), (.bool false), (.bool false), (.int .i64 0)] [(0, 6), (6, 6)]) [.s 7, .s 8]⟩,
     ⟨some 10, none, .callf 9 [.s 9]⟩,
     ⟨some 6, none, .ex (.mov) [.s 10]⟩,
     ⟨some 11, none, .ex (.ext 0) [.s 6]⟩,
     ⟨some 12, none, .ex (.ext 1) [.s 6]⟩,
     ⟨some 1, none, .ex (.mov) [.s 11]⟩,
     ⟨some 2, none, .ex (.mov) [.s 12]⟩])
   (.seq
    (.region [⟨some 13, none, .ex (.build [(.int .u8 0), (.int .i64 0), (.int .u64 0), (.str ⟨#[]⟩)] [(0, 1), (1, 1)]) [.k (.int .u8 2), .k (.int .i64 2)]⟩,
      ⟨some 14, none, .ex (.build [(.int .i64 0), (.int .u8 0), (.int .i64 0), (.int .u64 0), (.str ⟨#[]⟩)] [(0, 1), (1, 4)]) [.k (.int .i64 11), .s 13]⟩,
      ⟨some 15, none, .ex (.bsl 5 1 [(.int .i64 0), (.int .u8 0), (.int .i64 0), (.int .u64 0), (.str ⟨#[]⟩)] [(0, 5)]) [.s 14]⟩,
      ⟨some 3, none, .ex (.mov) [.s 15]⟩])
    (.seq
     (.region [⟨some 16, none, .ex (.build [(.int .i32 0), .nils] [(0, 1)]) [.k (.int .i32 97)]⟩,
       ⟨some 17, none, .ex (.build [(.int .i32 0), .nils] [(0, 1)]) [.k (.int .i32 98)]⟩,
       ⟨some 18, none, .ex (.mov) [.s 3]⟩,
       ⟨some 19, none, .ex (.build [(.int .i32 0), .nils] [(0, 1), (1, 1)]) [.k (.int .i32 10), .s 18]⟩,
       ⟨some 20, none, .ex (.bsl 2 3 [(.int .i32 0), .nils, (.int .i32 0), .nils, (.int .i32 0), .nils] [(0, 2), (2, 2), (4, 2)]) [.s 16, .s 17, .s 19]⟩,
       ⟨some 4, none, .ex (.mov) [.s 20]⟩])
     (.seq
      (.region [⟨some 21, none, .ex (.mov) [.s 4]⟩,
        ⟨some 22, none, .callf 20 [.s 21]⟩,
        ⟨some 5, none, .ex (.mov) [.s 22]⟩])
      (.seq
       (.region [⟨some 23, none, .ex (.mov) [.s 2]⟩,
         ⟨some 24, none, .ex (.ibin .eql) [.s 23, .k (.int .i64 0)]⟩,
         ⟨some 25, none, .ex (.mov) [.s 24]⟩,
         ⟨some 26, some (25, true), .ex (.mov) [.s 1]⟩,
         ⟨some 27, some (25, true), .ex (.mov) [.s 4]⟩,
         ⟨some 28, some (25, true), .callf 17 [.s 26, .s 27]⟩,
         ⟨some 29, some (25, true), .ex (.ibin .eql) [.s 28, .k (.int .i64 0)]⟩,
         ⟨some 30, none, .ex (.pick) [.s 25, .s 29, .k (.bool false)]⟩,
         ⟨some 31, none, .ex (.mov) [.s 30]⟩,
         ⟨some 32, some (31, true), .ex (.mov) [.s 1]⟩,
         ⟨some 33, some (31, true), .ex (.mov) [.s 4]⟩,
         ⟨some 34, some (31, true), .ex (.slc 2 false true false) [.s 33, .k (.int .i64 2)]⟩,
         ⟨some 35, some (31, true), .callf 17 [.s 32, .s 34]⟩,
         ⟨some 36, some (31, true), .ex (.ibin .eql) [.s 35, .k (.int .i64 6)]⟩,
         ⟨some 37, none, .ex (.pick) [.s 31, .s 36, .k (.bool false)]⟩,
         ⟨some 38, none, .ex (.mov) [.s 37]⟩,
         ⟨some 39, some (38, true), .ex (.mov) [.s 5]⟩,
         ⟨some 40, some (38, true), .ex (.len) [.s 39]⟩,
         ⟨some 41, some (38, true), .ex (.ibin .eql) [.s 40, .k (.int .i64 2)]⟩,
         ⟨some 42, none, .ex (.pick) [.s 38, .s 41, .k (.bool false)]⟩,
         ⟨some 43, none, .ex (.mov) [.s 42]⟩,
         ⟨some 44, some (43, true), .ex (.mov) [.s 5]⟩,
         ⟨some 45, some (43, true), .ex (.ia 5) [.s 44, .k (.int .i64 0)]⟩,
         ⟨some 46, some (43, true), .ex (.fa 2) [.s 45]⟩,
         ⟨some 47, some (43, true), .ex (.ld 1) [.s 46]⟩,
         ⟨some 48, some (43, true), .ex (.len) [.s 47]⟩,
         ⟨some 49, some (43, true), .ex (.ibin .eql) [.s 48, .k (.int .i64 2)]⟩,
         ⟨some 50, none, .ex (.pick) [.s 43, .s 49, .k (.bool false)]⟩,
         ⟨some 51, none, .ex (.mov) [.s 50]⟩,
         ⟨some 52, some (51, true), .ex (.mov) [.s 5]⟩,
         ⟨some 53, some (51, true), .ex (.ia 5) [.s 52, .k (.int .i64 1)]⟩,
         ⟨some 54, some (51, true), .ex (.fa 1) [.s 53]⟩,
         ⟨some 55, some (51, true), .ex (.ld 1) [.s 54]⟩,
         ⟨some 56, some (51, true), .ex (.ibin .eql) [.s 55, .k (.int .i64 1)]⟩,
         ⟨some 57, none, .ex (.pick) [.s 51, .s 56, .k (.bool false)]⟩,
         ⟨some 58, none, .ex (.mov) [.s 57]⟩,
         ⟨some 59, some (58, true), .callf 34 []⟩,
         ⟨some 60, some (58, true), .ex (.len) [.s 59]⟩,
         ⟨some 61, some (58, true), .ex (.ibin .eql) [.s 60, .k (.int .i64 1)]⟩,
         ⟨some 62, none, .ex (.pick) [.s 58, .s 61, .k (.bool false)]⟩,
         ⟨some 63, none, .ex (.mov) [.s 62]⟩,
         ⟨some 64, some (63, true), .callf 34 []⟩,
         ⟨some 65, some (63, true), .ex (.ia 2) [.s 64, .k (.int .i64 0)]⟩,
         ⟨some 66, some (63, true), .ex (.fa 0) [.s 65]⟩,
         ⟨some 67, some (63, true), .ex (.ld 1) [.s 66]⟩,
         ⟨some 68, some (63, true), .ex (.ibin .eql) [.s 67, .k (.int .i32 10)]⟩,
         ⟨some 69, none, .ex (.pick) [.s 63, .s 68, .k (.bool false)]⟩,
         ⟨some 0, none, .ex (.mov) [.s 69]⟩])
       .ret)))))),
 [.t 0]⟩
theorem c16 : compFn Go.Proofs.Tryd.prog 16 = some fn16 := by kernel_rfl

/-- rubric/cells.Delta -/
def fn20 : AFn := ⟨26,
 (.seq
  (.region [⟨some 2, none, .ex (.mov) [.k .nils]⟩])
  (.seq
   (.region [⟨some 5, none, .callf 49 []⟩,
     ⟨some 3, none, .ex (.mov) [.s 5]⟩])
   (.seq
    (.seq
     (.region [⟨some 6, none, .ex (.mov) [.s 0]⟩,
       ⟨some 7, none, .ex (.len) [.s 6]⟩,
       ⟨some 8, none, .ex (.ibin .sub) [.s 7, .k (.int .i64 1)]⟩,
       ⟨some 4, none, .ex (.mov) [.s 8]⟩])
     (.seq
      (.region [⟨some 9, none, .ex (.mov) [.s 4]⟩,
        ⟨some 10, none, .ex (.ibin .geq) [.s 9, .k (.int .i64 0)]⟩])
      (.cond (.s 10)
       (.seq
        (.region [⟨some 11, none, .ex (.mov) [.s 3]⟩,
          ⟨some 12, none, .ex (.mov) [.s 0]⟩,
          ⟨some 13, none, .ex (.mov) [.s 4]⟩,
          ⟨some 14, none, .ex (.slc 2 false true false) [.s 12, .s 13]⟩,
          ⟨some 15, none, .callf 50 [.s 11, .s 14]⟩])
        (.region [⟨some 16, none, .ex (.mov) [.s 3]⟩,
          ⟨some 17, none, .ex (.mov) [.s 0]⟩,
          ⟨some 18, none, .ex (.mov) [.s 4]⟩,
          ⟨some 19, none, .ex (.ia 2) [.s 17, .s 18]⟩,
          ⟨some 20, none, .ex (.fa 1) [.s 19]⟩,
          ⟨some 21, none, .ex (.ld 1) [.s 20]⟩,
          ⟨some 22, none, .callf 52 [.k .nils, .s 21]⟩,
          ⟨some 23, none, .callf 51 [.s 16, .k (.int .i64 1), .s 22]⟩]))
       .skip)))
    (.seq
     (.region [⟨some 24, none, .ex (.mov) [.s 3]⟩,
       ⟨some 25, none, .callf 53 [.s 24]⟩,
       ⟨some 2, none, .ex (.mov) [.s 25]⟩])
     .ret)))),
 [.t 2]⟩
theorem c20 : compFn Go.Proofs.Tryd.prog 20 = some fn20 := by kernel_rfl

/-- (*rubric/normal.Maker).Retain -/
def fn51 : AFn := ⟨85,
 (.seq
  (.seq
   (.region [⟨some 7, none, .ex (.mov) [.s 0]⟩,
     ⟨some 8, none, .ex (.eqnil 0 false) [.s 7, .k .nilp]⟩,
     ⟨some 9, none, .ex (.mov) [.s 8]⟩,
     ⟨some 10, some (9, false), .ex (.mov) [.s 1]⟩,
     ⟨some 11, some (9, false), .ex (.ibin .lss) [.s 10, .k (.int .i64 1)]⟩,
     ⟨some 12, none, .ex (.pick) [.s 9, .k (.bool true), .s 11]⟩])
   (.cond (.s 12)
    .ret
    .skip))
  (.seq
   (.draw (.op ⟨some 13, none, .ex (.mov) [.s 0]⟩ (.op ⟨some 14, none, .ex (.mov) [.s 0]⟩ (.op ⟨some 15, none, .ex (.nilck) [.s 14]⟩ (.op ⟨some 16, none, .ex (.fa 0) [.s 15]⟩ (.op ⟨some 18, none, .ex (.mov) [.s 0]⟩ (.fork (.op ⟨some 17, none, .ex (.ld 1) [.s 16]⟩ (.op ⟨some 19, none, .callf 70 [.s 18]⟩ (.op ⟨some 20, none, .ex (.app 5 88) [.s 17, .s 19]⟩ (.op ⟨some 21, none, .ex (.nilck) [.s 13]⟩ (.op ⟨some 22, none, .ex (.fa 0) [.s 21]⟩ (.op ⟨none, none, .ex (.st 1) [.s 22, .s 20]⟩ .done)))))) (.op ⟨some 19, none, .callf 70 [.s 18]⟩ (.op ⟨some 17, none, .ex (.ld 1) [.s 16]⟩ (.op ⟨some 20, none, .ex (.app 5 88) [.s 17, .s 19]⟩ (.op ⟨some 21, none, .ex (.nilck) [.s 13]⟩ (.op ⟨some 22, none, .ex (.fa 0) [.s 21]⟩ (.op ⟨none, none, .ex (.st 1) [.s 22, .s 20]⟩ .done)))))))))))))
   (.seq
    (.region [⟨some 23, none, .ex (.mov) [.s 0]⟩,
      ⟨some 24, none, .ex (.mov) [.s 0]⟩,
      ⟨some 25, none, .ex (.nilck) [.s 23]⟩,
      ⟨some 26, none, .ex (.fa 1) [.s 25]⟩,
      ⟨none, none, .ex (.st 1) [.s 26, .k .nils]⟩,
      ⟨some 27, none, .ex (.nilck) [.s 24]⟩,
      ⟨some 28, none, .ex (.fa 2) [.s 27]⟩,
      ⟨none, none, .ex (.st 1) [.s 28, .k (.int .i64 0)]⟩])
    (.seq
     (.region [⟨some 29, none, .ex (.mov) [.s 0]⟩,
       ⟨some 30, none, .ex (.nilck) [.s 29]⟩,
       ⟨some 31, none, .ex (.fa 0) [.s 30]⟩,
       ⟨some 32, none, .ex (.ld 1) [.s 31]⟩,
       ⟨some 33, none, .ex (.len) [.s 32]⟩,
       ⟨some 34, none, .ex (.ibin .sub) [.s 33, .k (.int .i64 1)]⟩,
       ⟨some 6, none, .ex (.mov) [.s 34]⟩])
     (.seq
      (.seq
       (.region [⟨some 35, none, .ex (.mov) [.s 6]⟩,
         ⟨some 36, none, .ex (.ibin .geq) [.s 35, .k (.int .i64 0)]⟩,
         ⟨some 37, none, .ex (.mov) [.s 36]⟩,
         ⟨some 38, some (37, true), .ex (.mov) [.s 0]⟩,
         ⟨some 39, some (37, true), .ex (.nilck) [.s 38]⟩,
         ⟨some 40, some (37, true), .ex (.fa 0) [.s 39]⟩,
         ⟨some 41, some (37, true), .ex (.ld 1) [.s 40]⟩,
         ⟨some 42, some (37, true), .ex (.mov) [.s 6]⟩,
         ⟨some 43, some (37, true), .ex (.ia 5) [.s 41, .s 42]⟩,
         ⟨some 44, some (37, true), .ex (.fa 0) [.s 43]⟩,
         ⟨some 45, some (37, true), .ex (.ld 1) [.s 44]⟩,
         ⟨some 46, some (37, true), .ex (.ibin .eql) [.s 45, .k (.int .u8 1)]⟩,
         ⟨some 47, none, .ex (.pick) [.s 37, .s 46, .k (.bool false)]⟩,
         ⟨some 48, none, .ex (.mov) [.s 47]⟩,
         ⟨some 49, some (48, true), .ex (.mov) [.s 0]⟩,
         ⟨some 50, some (48, true), .ex (.nilck) [.s 49]⟩,
         ⟨some 51, some (48, true), .ex (.fa 0) [.s 50]⟩,
         ⟨some 52, some (48, true), .ex (.ld 1) [.s 51]⟩,
         ⟨some 53, some (48, true), .ex (.mov) [.s 6]⟩,
         ⟨some 54, some (48, true), .ex (.ia 5) [.s 52, .s 53]⟩,
         ⟨some 55, some (48, true), .ex (.fa 4) [.s 54]⟩,
         ⟨some 56, some (48, true), .ex (.ld 1) [.s 55]⟩,
         ⟨some 57, some (48, true), .ex (.mov) [.s 2]⟩,
         ⟨some 58, some (48, true), .callf 48 [.s 56, .s 57]⟩,
         ⟨some 59, none, .ex (.pick) [.s 48, .s 58, .k (.bool false)]⟩])
       (.cond (.s 59)
        (.seq
         (.region [⟨some 60, none, .ex (.mov) [.s 0]⟩,
           ⟨some 61, none, .ex (.nilck) [.s 60]⟩,
           ⟨some 62, none, .ex (.fa 0) [.s 61]⟩,
           ⟨some 63, none, .ex (.ld 1) [.s 62]⟩,
           ⟨some 64, none, .ex (.mov) [.s 6]⟩,
           ⟨some 65, none, .ex (.ia 5) [.s 63, .s 64]⟩,
           ⟨some 66, none, .ex (.fa 1) [.s 65]⟩,
           ⟨some 67, none, .ex (.ld 1) [.s 66]⟩,
           ⟨some 68, none, .ex (.mov) [.s 1]⟩,
           ⟨some 69, none, .ex (.ibin .add) [.s 67, .s 68]⟩,
           ⟨some 70, none, .ex (.ia 5) [.s 63, .s 64]⟩,
           ⟨some 71, none, .ex (.fa 1) [.s 70]⟩,
           ⟨none, none, .ex (.st 1) [.s 71, .s 69]⟩])
         .ret)
        .skip))
      (.draw (.op ⟨some 72, none, .ex (.mov) [.s 0]⟩ (.op ⟨some 73, none, .ex (.mov) [.s 0]⟩ (.op ⟨some 74, none, .ex (.nilck) [.s 73]⟩ (.op ⟨some 75, none, .ex (.fa 0) [.s 74]⟩ (.op ⟨some 77, none, .ex (.mov) [.s 1]⟩ (.op ⟨some 78, none, .ex (.mov) [.s 2]⟩ (.fork (.op ⟨some 76, none, .ex (.ld 1) [.s 75]⟩ (.op ⟨some 79, none, .callf 71 [.s 78]⟩ (.op ⟨some 80, none, .ex (.build [(.int .u8 0), (.int .i64 0), .nils, .nils, .nils] [(0, 1), (1, 1), (4, 1)]) [.k (.int .u8 1), .s 77, .s 79]⟩ (.op ⟨some 81, none, .ex (.bsl 5 1 [(.int .u8 0), (.int .i64 0), .nils, .nils, .nils] [(0, 5)]) [.s 80]⟩ (.op ⟨some 82, none, .ex (.app 5 88) [.s 76, .s 81]⟩ (.op ⟨some 83, none, .ex (.nilck) [.s 72]⟩ (.op ⟨some 84, none, .ex (.fa 0) [.s 83]⟩ (.op ⟨none, none, .ex (.st 1) [.s 84, .s 82]⟩ .done)))))))) (.op ⟨some 79, none, .callf 71 [.s 78]⟩ (.op ⟨some 76, none, .ex (.ld 1) [.s 75]⟩ (.op ⟨some 80, none, .ex (.build [(.int .u8 0), (.int .i64 0), .nils, .nils, .nils] [(0, 1), (1, 1), (4, 1)]) [.k (.int .u8 1), .s 77, .s 79]⟩ (.op ⟨some 81, none, .ex (.bsl 5 1 [(.int .u8 0), (.int .i64 0), .nils, .nils, .nils] [(0, 5)]) [.s 80]⟩ (.op ⟨some 82, none, .ex (.app 5 88) [.s 76, .s 81]⟩ (.op ⟨some 83, none, .ex (.nilck) [.s 72]⟩ (.op ⟨some 84, none, .ex (.fa 0) [.s 83]⟩ (.op ⟨none, none, .ex (.st 1) [.s 84, .s 82]⟩ .done))))))))))))))))))))),
 []⟩
theorem c51 : compFn Go.Proofs.Tryd.prog 51 = some fn51 := by kernel_rfl

/-- (*rubric/normal.Maker).Ops -/
def fn53 : AFn := ⟨42,
 (.seq
  (.region [⟨some 2, none, .ex (.mov) [.k .nils]⟩])
  (.seq
   (.seq
    (.region [⟨some 5, none, .ex (.mov) [.s 0]⟩,
      ⟨some 6, none, .ex (.eqnil 0 false) [.s 5, .k .nilp]⟩])
    (.cond (.s 6)
     (.seq
      (.region [⟨some 2, none, .ex (.mov) [.k .nils]⟩])
      .ret)
     .skip))
   (.seq
    (.draw (.op ⟨some 7, none, .ex (.mov) [.s 0]⟩ (.op ⟨some 8, none, .ex (.nilck) [.s 7]⟩ (.op ⟨some 9, none, .ex (.fa 0) [.s 8]⟩ (.op ⟨some 11, none, .ex (.mov) [.s 0]⟩ (.fork (.op ⟨some 10, none, .ex (.ld 1) [.s 9]⟩ (.op ⟨some 12, none, .callf 70 [.s 11]⟩ (.op ⟨some 13, none, .ex (.bsl 1 2 [.nils, .nils] [(0, 1), (1, 1)]) [.s 10, .s 12]⟩ (.op ⟨some 14, none, .callf 73 [.s 13]⟩ (.op ⟨some 3, none, .ex (.mov) [.s 14]⟩ .done))))) (.op ⟨some 12, none, .callf 70 [.s 11]⟩ (.op ⟨some 10, none, .ex (.ld 1) [.s 9]⟩ (.op ⟨some 13, none, .ex (.bsl 1 2 [.nils, .nils] [(0, 1), (1, 1)]) [.s 10, .s 12]⟩ (.op ⟨some 14, none, .callf 73 [.s 13]⟩ (.op ⟨some 3, none, .ex (.mov) [.s 14]⟩ .done)))))))))))
    (.seq
     (.seq
      (.region [⟨some 15, none, .ex (.mov) [.s 3]⟩,
        ⟨some 16, none, .ex (.len) [.s 15]⟩,
        ⟨some 17, none, .ex (.ibin .sub) [.s 16, .k (.int .i64 1)]⟩,
        ⟨some 4, none, .ex (.mov) [.s 17]⟩])
      (.seq
       (.region [⟨some 18, none, .ex (.mov) [.s 4]⟩,
         ⟨some 19, none, .ex (.ibin .geq) [.s 18, .k (.int .i64 0)]⟩,
         ⟨some 20, none, .ex (.mov) [.s 19]⟩,
         ⟨some 21, some (20, true), .ex (.mov) [.s 3]⟩,
         ⟨some 22, some (20, true), .ex (.mov) [.s 4]⟩,
         ⟨some 23, some (20, true), .ex (.ia 5) [.s 21, .s 22]⟩,
         ⟨some 24, some (20, true), .ex (.fa 0) [.s 23]⟩,
         ⟨some 25, some (20, true), .ex (.ld 1) [.s 24]⟩,
         ⟨some 26, some (20, true), .ex (.ibin .eql) [.s 25, .k (.int .u8 1)]⟩,
         ⟨some 27, none, .ex (.pick) [.s 20, .s 26, .k (.bool false)]⟩,
         ⟨some 28, none, .ex (.mov) [.s 27]⟩,
         ⟨some 29, some (28, true), .ex (.mov) [.s 3]⟩,
         ⟨some 30, some (28, true), .ex (.mov) [.s 4]⟩,
         ⟨some 31, some (28, true), .ex (.ia 5) [.s 29, .s 30]⟩,
         ⟨some 32, some (28, true), .ex (.fa 4) [.s 31]⟩,
         ⟨some 33, some (28, true), .ex (.ld 1) [.s 32]⟩,
         ⟨some 34, some (28, true), .ex (.len) [.s 33]⟩,
         ⟨some 35, some (28, true), .ex (.ibin .eql) [.s 34, .k (.int .i64 0)]⟩,
         ⟨some 36, none, .ex (.pick) [.s 28, .s 35, .k (.bool false)]⟩])
       (.cond (.s 36)
        (.region [⟨some 37, none, .ex (.mov) [.s 3]⟩,
          ⟨some 38, none, .ex (.mov) [.s 4]⟩,
          ⟨some 39, none, .ex (.slc 5 false true false) [.s 37, .s 38]⟩,
          ⟨some 3, none, .ex (.mov) [.s 39]⟩])
        .skip)))
     (.seq
      (.region [⟨some 40, none, .ex (.mov) [.s 3]⟩,
        ⟨some 41, none, .callf 74 [.s 40]⟩,
        ⟨some 2, none, .ex (.mov) [.s 41]⟩])
      .ret))))),
 [.t 2]⟩
theorem c53 : compFn Go.Proofs.Tryd.prog 53 = some fn53 := by kernel_rfl

/-- (*rubric/normal.Maker).Insert -/
def fn69 : AFn := ⟨65,
 (.seq
  (.seq
   (.region [⟨some 7, none, .ex (.mov) [.s 0]⟩,
     ⟨some 8, none, .ex (.eqnil 0 false) [.s 7, .k .nilp]⟩,
     ⟨some 9, none, .ex (.mov) [.s 8]⟩,
     ⟨some 10, some (9, false), .ex (.mov) [.s 1]⟩,
     ⟨some 11, some (9, false), .ex (.len) [.s 10]⟩,
     ⟨some 12, some (9, false), .ex (.ibin .eql) [.s 11, .k (.int .i64 0)]⟩,
     ⟨some 13, none, .ex (.pick) [.s 9, .k (.bool true), .s 12]⟩])
   (.cond (.s 13)
    .ret
    .skip))
  (.seq
   (.region [⟨some 14, none, .ex (.mov) [.s 0]⟩,
     ⟨some 15, none, .ex (.nilck) [.s 14]⟩,
     ⟨some 16, none, .ex (.fa 1) [.s 15]⟩,
     ⟨some 17, none, .ex (.ld 1) [.s 16]⟩,
     ⟨some 18, none, .ex (.len) [.s 17]⟩,
     ⟨some 19, none, .ex (.ibin .sub) [.s 18, .k (.int .i64 1)]⟩,
     ⟨some 6, none, .ex (.mov) [.s 19]⟩])
   (.seq
    (.seq
     (.region [⟨some 20, none, .ex (.mov) [.s 6]⟩,
       ⟨some 21, none, .ex (.ibin .geq) [.s 20, .k (.int .i64 0)]⟩,
       ⟨some 22, none, .ex (.mov) [.s 21]⟩,
       ⟨some 23, some (22, true), .ex (.mov) [.s 0]⟩,
       ⟨some 24, some (22, true), .ex (.nilck) [.s 23]⟩,
       ⟨some 25, some (22, true), .ex (.fa 1) [.s 24]⟩,
       ⟨some 26, some (22, true), .ex (.ld 1) [.s 25]⟩,
       ⟨some 27, some (22, true), .ex (.mov) [.s 6]⟩,
       ⟨some 28, some (22, true), .ex (.ia 5) [.s 26, .s 27]⟩,
       ⟨some 29, some (22, true), .ex (.fa 3) [.s 28]⟩,
       ⟨some 30, some (22, true), .ex (.ld 1) [.s 29]⟩,
       ⟨some 31, some (22, true), .ex (.mov) [.s 2]⟩,
       ⟨some 32, some (22, true), .callf 44 [.s 30, .s 31]⟩,
       ⟨some 33, none, .ex (.pick) [.s 22, .s 32, .k (.bool false)]⟩])
     (.cond (.s 33)
      (.seq
       (.draw (.op ⟨some 34, none, .ex (.mov) [.s 0]⟩ (.op ⟨some 35, none, .ex (.nilck) [.s 34]⟩ (.op ⟨some 36, none, .ex (.fa 1) [.s 35]⟩ (.op ⟨some 38, none, .ex (.mov) [.s 6]⟩ (.op ⟨some 39, none, .ex (.mov) [.s 0]⟩ (.op ⟨some 40, none, .ex (.nilck) [.s 39]⟩ (.op ⟨some 41, none, .ex (.fa 1) [.s 40]⟩ (.op ⟨some 42, none, .ex (.ld 1) [.s 41]⟩ (.op ⟨some 43, none, .ex (.mov) [.s 6]⟩ (.op ⟨some 44, none, .ex (.ia 5) [.s 42, .s 43]⟩ (.op ⟨some 45, none, .ex (.fa 2) [.s 44]⟩ (.op ⟨some 46, none, .ex (.ld 1) [.s 45]⟩ (.op ⟨some 47, none, .ex (.mov) [.s 1]⟩ (.fork (.op ⟨some 37, none, .ex (.ld 1) [.s 36]⟩ (.op ⟨some 48, none, .ex (.app 1 4) [.s 46, .s 47]⟩ (.op ⟨some 49, none, .ex (.ia 5) [.s 37, .s 38]⟩ (.op ⟨some 50, none, .ex (.fa 2) [.s 49]⟩ (.op ⟨none, none, .ex (.st 1) [.s 50, .s 48]⟩ .done))))) (.op ⟨some 48, none, .ex (.app 1 4) [.s 46, .s 47]⟩ (.op ⟨some 37, none, .ex (.ld 1) [.s 36]⟩ (.op ⟨some 49, none, .ex (.ia 5) [.s 37, .s 38]⟩ (.op ⟨some 50, none, .ex (.fa 2) [.s 49]⟩ (.op ⟨none, none, .ex (.st 1) [.s 50, .s 48]⟩ .done))))))))))))))))))))
       .ret)
      .skip))
    (.draw (.op ⟨some 51, none, .ex (.mov) [.s 0]⟩ (.op ⟨some 52, none, .ex (.mov) [.s 0]⟩ (.op ⟨some 53, none, .ex (.nilck) [.s 52]⟩ (.op ⟨some 54, none, .ex (.fa 1) [.s 53]⟩ (.op ⟨some 56, none, .ex (.mov) [.s 1]⟩ (.op ⟨some 58, none, .ex (.mov) [.s 2]⟩ (.fork (.op ⟨some 55, none, .ex (.ld 1) [.s 54]⟩ (.op ⟨some 57, none, .callf 93 [.s 56]⟩ (.op ⟨some 59, none, .callf 94 [.s 58]⟩ (.op ⟨some 60, none, .ex (.build [(.int .u8 0), (.int .i64 0), .nils, .nils, .nils] [(0, 1), (2, 1), (3, 1)]) [.k (.int .u8 2), .s 57, .s 59]⟩ (.op ⟨some 61, none, .ex (.bsl 5 1 [(.int .u8 0), (.int .i64 0), .nils, .nils, .nils] [(0, 5)]) [.s 60]⟩ (.op ⟨some 62, none, .ex (.app 5 88) [.s 55, .s 61]⟩ (.op ⟨some 63, none, .ex (.nilck) [.s 51]⟩ (.op ⟨some 64, none, .ex (.fa 1) [.s 63]⟩ (.op ⟨none, none, .ex (.st 1) [.s 64, .s 62]⟩ .done))))))))) (.op ⟨some 57, none, .callf 93 [.s 56]⟩ (.fork (.op ⟨some 55, none, .ex (.ld 1) [.s 54]⟩ (.op ⟨some 59, none, .callf 94 [.s 58]⟩ (.op ⟨some 60, none, .ex (.build [(.int .u8 0), (.int .i64 0), .nils, .nils, .nils] [(0, 1), (2, 1), (3, 1)]) [.k (.int .u8 2), .s 57, .s 59]⟩ (.op ⟨some 61, none, .ex (.bsl 5 1 [(.int .u8 0), (.int .i64 0), .nils, .nils, .nils] [(0, 5)]) [.s 60]⟩ (.op ⟨some 62, none, .ex (.app 5 88) [.s 55, .s 61]⟩ (.op ⟨some 63, none, .ex (.nilck) [.s 51]⟩ (.op ⟨some 64, none, .ex (.fa 1) [.s 63]⟩ (.op ⟨none, none, .ex (.st 1) [.s 64, .s 62]⟩ .done)))))))) (.op ⟨some 59, none, .callf 94 [.s 58]⟩ (.op ⟨some 55, none, .ex (.ld 1) [.s 54]⟩ (.op ⟨some 60, none, .ex (.build [(.int .u8 0), (.int .i64 0), .nils, .nils, .nils] [(0, 1), (2, 1), (3, 1)]) [.k (.int .u8 2), .s 57, .s 59]⟩ (.op ⟨some 61, none, .ex (.bsl 5 1 [(.int .u8 0), (.int .i64 0), .nils, .nils, .nils] [(0, 5)]) [.s 60]⟩ (.op ⟨some 62, none, .ex (.app 5 88) [.s 55, .s 61]⟩ (.op ⟨some 63, none, .ex (.nilck) [.s 51]⟩ (.op ⟨some 64, none, .ex (.fa 1) [.s 63]⟩ (.op ⟨none, none, .ex (.st 1) [.s 64, .s 62]⟩ .done))))))))))))))))))))),
 []⟩
theorem c69 : compFn Go.Proofs.Tryd.prog 69 = some fn69 := by kernel_rfl

/-- (*rubric/normal.Maker).gap -/
def fn70 : AFn := ⟨23,
 (.seq
  (.region [⟨some 2, none, .ex (.mov) [.k .nils]⟩])
  (.seq
   (.region [⟨some 4, none, .ex (.mov) [.s 0]⟩,
     ⟨some 5, none, .ex (.nilck) [.s 4]⟩,
     ⟨some 6, none, .ex (.fa 1) [.s 5]⟩,
     ⟨some 7, none, .ex (.ld 1) [.s 6]⟩,
     ⟨some 8, none, .callf 95 [.s 7]⟩,
     ⟨some 3, none, .ex (.mov) [.s 8]⟩])
   (.seq
    (.seq
     (.region [⟨some 9, none, .ex (.mov) [.s 0]⟩,
       ⟨some 10, none, .ex (.nilck) [.s 9]⟩,
       ⟨some 11, none, .ex (.fa 2) [.s 10]⟩,
       ⟨some 12, none, .ex (.ld 1) [.s 11]⟩,
       ⟨some 13, none, .ex (.ibin .gtr) [.s 12, .k (.int .i64 0)]⟩])
     (.cond (.s 13)
      (.region [⟨some 14, none, .ex (.mov) [.s 3]⟩,
        ⟨some 15, none, .ex (.mov) [.s 0]⟩,
        ⟨some 16, none, .ex (.nilck) [.s 15]⟩,
        ⟨some 17, none, .ex (.fa 2) [.s 16]⟩,
        ⟨some 18, none, .ex (.ld 1) [.s 17]⟩,
        ⟨some 19, none, .ex (.build [(.int .u8 0), (.int .i64 0), .nils, .nils, .nils] [(0, 1), (1, 1)]) [.k (.int .u8 3), .s 18]⟩,
        ⟨some 20, none, .ex (.bsl 5 1 [(.int .u8 0), (.int .i64 0), .nils, .nils, .nils] [(0, 5)]) [.s 19]⟩,
        ⟨some 21, none, .ex (.app 5 88) [.s 14, .s 20]⟩,
        ⟨some 3, none, .ex (.mov) [.s 21]⟩])
      .skip))
    (.seq
     (.region [⟨some 22, none, .ex (.mov) [.s 3]⟩,
       ⟨some 2, none, .ex (.mov) [.s 22]⟩])
     .ret)))),
 [.t 2]⟩
theorem c70 : compFn Go.Proofs.Tryd.prog 70 = some fn70 := by kernel_rfl

/-- rubric/ops.Copy -/
def fn74 : AFn := ⟨44,
 (.seq
  (.region [⟨some 2, none, .ex (.mov) [.k .nils]⟩])
  (.seq
   (.region [⟨some 5, none, .ex (.mov) [.s 0]⟩,
     ⟨some 6, none, .callf 95 [.s 5]⟩,
     ⟨some 3, none, .ex (.mov) [.s 6]⟩])
   (.seq
    (.seq
     (.region [⟨some 7, none, .ex (.mov) [.s 3]⟩,
       ⟨some 8, none, .ex (.len) [.s 7]⟩,
       ⟨some 9, none, .ex (.mov) [.k (.int .i64 0)]⟩])
     (.block 0
      (.loop
       (.seq
        (.region [⟨some 10, none, .ex (.ibin .lss) [.s 9, .s 8]⟩])
        (.seq
         (.cond (.s 10)
          .skip
          (.exit 0))
         (.seq
          (.block 1
           (.seq
            (.region [⟨some 11, none, .ex (.mov) [.s 9]⟩,
              ⟨some 4, none, .ex (.mov) [.s 11]⟩])
            (.draw (.op ⟨some 12, none, .ex (.mov) [.s 3]⟩ (.op ⟨some 13, none, .ex (.mov) [.s 4]⟩ (.op ⟨some 14, none, .ex (.mov) [.s 3]⟩ (.op ⟨some 15, none, .ex (.mov) [.s 4]⟩ (.op ⟨some 16, none, .ex (.mov) [.s 3]⟩ (.op ⟨some 17, none, .ex (.mov) [.s 4]⟩ (.op ⟨some 18, none, .ex (.mov) [.s 3]⟩ (.op ⟨some 19, none, .ex (.mov) [.s 4]⟩ (.op ⟨some 20, none, .ex (.ia 5) [.s 18, .s 19]⟩ (.op ⟨some 21, none, .ex (.fa 2) [.s 20]⟩ (.op ⟨some 22, none, .ex (.ld 1) [.s 21]⟩ (.op ⟨some 24, none, .ex (.mov) [.s 3]⟩ (.op ⟨some 25, none, .ex (.mov) [.s 4]⟩ (.op ⟨some 26, none, .ex (.ia 5) [.s 24, .s 25]⟩ (.op ⟨some 27, none, .ex (.fa 3) [.s 26]⟩ (.op ⟨some 30, none, .ex (.mov) [.s 3]⟩ (.op ⟨some 31, none, .ex (.mov) [.s 4]⟩ (.op ⟨some 32, none, .ex (.ia 5) [.s 30, .s 31]⟩ (.op ⟨some 33, none, .ex (.fa 4) [.s 32]⟩ (.fork (.op ⟨some 23, none, .callf 93 [.s 22]⟩ (.op ⟨some 28, none, .ex (.ld 1) [.s 27]⟩ (.fork (.op ⟨some 29, none, .callf 94 [.s 28]⟩ (.op ⟨some 34, none, .ex (.ld 1) [.s 33]⟩ (.op ⟨some 35, none, .callf 71 [.s 34]⟩ (.op ⟨some 36, none, .ex (.ia 5) [.s 12, .s 13]⟩ (.op ⟨some 37, none, .ex (.fa 2) [.s 36]⟩ (.op ⟨none, none, .ex (.st 1) [.s 37, .s 23]⟩ (.op ⟨some 38, none, .ex (.ia 5) [.s 14, .s 15]⟩ (.op ⟨some 39, none, .ex (.fa 3) [.s 38]⟩ (.op ⟨none, none, .ex (.st 1) [.s 39, .s 29]⟩ (.op ⟨some 40, none, .ex (.ia 5) [.s 16, .s 17]⟩ (.op ⟨some 41, none, .ex (.fa 4) [.s 40]⟩ (.op ⟨none, none, .ex (.st 1) [.s 41, .s 35]⟩ .done)))))))))))) (.op ⟨some 34, none, .ex (.ld 1) [.s 33]⟩ (.op ⟨some 29, none, .callf 94 [.s 28]⟩ (.op ⟨some 35, none, .callf 71 [.s 34]⟩ (.op ⟨some 36, none, .ex (.ia 5) [.s 12, .s 13]⟩ (.op ⟨some 37, none, .ex (.fa 2) [.s 36]⟩ (.op ⟨none, none, .ex (.st 1) [.s 37, .s 23]⟩ (.op ⟨some 38, none, .ex (.ia 5) [.s 14, .s 15]⟩ (.op ⟨some 39, none, .ex (.fa 3) [.s 38]⟩ (.op ⟨none, none, .ex (.st 1) [.s 39, .s 29]⟩ (.op ⟨some 40, none, .ex (.ia 5) [.s 16, .s 17]⟩ (.op ⟨some 41, none, .ex (.fa 4) [.s 40]⟩ (.op ⟨none, none, .ex (.st 1) [.s 41, .s 35]⟩ .done))))))))))))))) (.fork (.op ⟨some 28, none, .ex (.ld 1) [.s 27]⟩ (.fork (.op ⟨some 23, none, .callf 93 [.s 22]⟩ (.fork (.op ⟨some 29, none, .callf 94 [.s 28]⟩ (.op ⟨some 34, none, .ex (.ld 1) [.s 33]⟩ (.op ⟨some 35, none, .callf 71 [.s 34]⟩ (.op ⟨some 36, none, .ex (.ia 5) [.s 12, .s 13]⟩ (.op ⟨some 37, none, .ex (.fa 2) [.s 36]⟩ (.op ⟨none, none, .ex (.st 1) [.s 37, .s 23]⟩ (.op ⟨some 38, none, .ex (.ia 5) [.s 14, .s 15]⟩ (.op ⟨some 39, none, .ex (.fa 3) [.s 38]⟩ (.op ⟨none, none, .ex (.st 1) [.s 39, .s 29]⟩ (.op ⟨some 40, none, .ex (.ia 5) [.s 16, .s 17]⟩ (.op ⟨some 41, none, .ex (.fa 4) [.s 40]⟩ (.op ⟨none, none, .ex (.st 1) [.s 41, .s 35]⟩ .done)))))))))))) (.op ⟨some 34, none, .ex (.ld 1) [.s 33]⟩ (.op ⟨some 29, none, .callf 94 [.s 28]⟩ (.op ⟨some 35, none, .callf 71 [.s 34]⟩ (.op ⟨some 36, none, .ex (.ia 5) [.s 12, .s 13]⟩ (.op ⟨some 37, none, .ex (.fa 2) [.s 36]⟩ (.op ⟨none, none, .ex (.st 1) [.s 37, .s 23]⟩ (.op ⟨some 38, none, .ex (.ia 5) [.s 14, .s 15]⟩ (.op ⟨some 39, none, .ex (.fa 3) [.s 38]⟩ (.op ⟨none, none, .ex (.st 1) [.s 39, .s 29]⟩ (.op ⟨some 40, none, .ex (.ia 5) [.s 16, .s 17]⟩ (.op ⟨some 41, none, .ex (.fa 4) [.s 40]⟩ (.op ⟨none, none, .ex (.st 1) [.s 41, .s 35]⟩ .done)))))))))))))) (.op ⟨some 34, none, .ex (.ld 1) [.s 33]⟩ (.op ⟨some 23, none, .callf 93 [.s 22]⟩ (.op ⟨some 29, none, .callf 94 [.s 28]⟩ (.op ⟨some 35, none, .callf 71 [.s 34]⟩ (.op ⟨some 36, none, .ex (.ia 5) [.s 12, .s 13]⟩ (.op ⟨some 37, none, .ex (.fa 2) [.s 36]⟩ (.op ⟨none, none, .ex (.st 1) [.s 37, .s 23]⟩ (.op ⟨some 38, none, .ex (.ia 5) [.s 14, .s 15]⟩ (.op ⟨some 39, none, .ex (.fa 3) [.s 38]⟩ (.op ⟨none, none, .ex (.st 1) [.s 39, .s 29]⟩ (.op ⟨some 40, none, .ex (.ia 5) [.s 16, .s 17]⟩ (.op ⟨some 41, none, .ex (.fa 4) [.s 40]⟩ (.op ⟨none, none, .ex (.st 1) [.s 41, .s 35]⟩ .done))))))))))))))) (.op ⟨some 34, none, .ex (.ld 1) [.s 33]⟩ (.fork (.op ⟨some 23, none, .callf 93 [.s 22]⟩ (.op ⟨some 28, none, .ex (.ld 1) [.s 27]⟩ (.op ⟨some 29, none, .callf 94 [.s 28]⟩ (.op ⟨some 35, none, .callf 71 [.s 34]⟩ (.op ⟨some 36, none, .ex (.ia 5) [.s 12, .s 13]⟩ (.op ⟨some 37, none, .ex (.fa 2) [.s 36]⟩ (.op ⟨none, none, .ex (.st 1) [.s 37, .s 23]⟩ (.op ⟨some 38, none, .ex (.ia 5) [.s 14, .s 15]⟩ (.op ⟨some 39, none, .ex (.fa 3) [.s 38]⟩ (.op ⟨none, none, .ex (.st 1) [.s 39, .s 29]⟩ (.op ⟨some 40, none, .ex (.ia 5) [.s 16, .s 17]⟩ (.op ⟨some 41, none, .ex (.fa 4) [.s 40]⟩ (.op ⟨none, none, .ex (.st 1) [.s 41, .s 35]⟩ .done))))))))))))) (.op ⟨some 28, none, .ex (.ld 1) [.s 27]⟩ (.op ⟨some 23, none, .callf 93 [.s 22]⟩ (.op ⟨some 29, none, .callf 94 [.s 28]⟩ (.op ⟨some 35, none, .callf 71 [.s 34]⟩ (.op ⟨some 36, none, .ex (.ia 5) [.s 12, .s 13]⟩ (.op ⟨some 37, none, .ex (.fa 2) [.s 36]⟩ (.op ⟨none, none, .ex (.st 1) [.s 37, .s 23]⟩ (.op ⟨some 38, none, .ex (.ia 5) [.s 14, .s 15]⟩ (.op ⟨some 39, none, .ex (.fa 3) [.s 38]⟩ (.op ⟨none, none, .ex (.st 1) [.s 39, .s 29]⟩ (.op ⟨some 40, none, .ex (.ia 5) [.s 16, .s 17]⟩ (.op ⟨some 41, none, .ex (.fa 4) [.s 40]⟩ (.op ⟨none, none, .ex (.st 1) [.s 41, .s 35]⟩ .done)))))))))))))))))))))))))))))))))))))))
          (.region [⟨some 42, none, .ex (.ibin .add) [.s 9, .k (.int .i64 1)]⟩,
            ⟨some 9, none, .ex (.mov) [.s 42]⟩])))))))
    (.seq
     (.region [⟨some 43, none, .ex (.mov) [.s 3]⟩,
       ⟨some 2, none, .ex (.mov) [.s 43]⟩])
     .ret)))),
 [.t 2]⟩
theorem c74 : compFn Go.Proofs.Tryd.prog 74 = some fn74 := by kernel_rfl

/-- slices.Clone[[]int32,int32] -/
def fn93 : AFn := ⟨8,
 (.seq
  (.region [⟨some 2, none, .ex (.mov) [.k .nils]⟩])
  (.seq
   (.seq
    (.region [⟨some 3, none, .ex (.mov) [.s 0]⟩,
      ⟨some 4, none, .ex (.eqnil 1 false) [.s 3, .k .nils]⟩])
    (.cond (.s 4)
     (.seq
      (.region [⟨some 2, none, .ex (.mov) [.k .nils]⟩])
      .ret)
     .skip))
   (.seq
    (.region [⟨some 5, none, .ex (.bsl 1 0 [] []) []⟩,
      ⟨some 6, none, .ex (.mov) [.s 0]⟩,
      ⟨some 7, none, .ex (.app 1 4) [.s 5, .s 6]⟩,
      ⟨some 2, none, .ex (.mov) [.s 7]⟩])
    .ret))),
 [.t 2]⟩
theorem c93 : compFn Go.Proofs.Tryd.prog 93 = some fn93 := by kernel_rfl

/-- slices.Clone[[]rubric/api.Op,rubric/api.Op] -/
def fn95 : AFn := ⟨8,
 (.seq
  (.region [⟨some 2, none, .ex (.mov) [.k .nils]⟩])
  (.seq
   (.seq
    (.region [⟨some 3, none, .ex (.mov) [.s 0]⟩,
      ⟨some 4, none, .ex (.eqnil 1 false) [.s 3, .k .nils]⟩])
    (.cond (.s 4)
     (.seq
      (.region [⟨some 2, none, .ex (.mov) [.k .nils]⟩])
      .ret)
     .skip))
   (.seq
    (.region [⟨some 5, none, .ex (.bsl 5 0 [] []) []⟩,
      ⟨some 6, none, .ex (.mov) [.s 0]⟩,
      ⟨some 7, none, .ex (.app 5 88) [.s 5, .s 6]⟩,
      ⟨some 2, none, .ex (.mov) [.s 7]⟩])
    .ret))),
 [.t 2]⟩
theorem c95 : compFn Go.Proofs.Tryd.prog 95 = some fn95 := by kernel_rfl

/-- slices.Clone[[]rubric/api.Change,rubric/api.Change] -/
def fn96 : AFn := ⟨8,
 (.seq
  (.region [⟨some 2, none, .ex (.mov) [.k .nils]⟩])
  (.seq
   (.seq
    (.region [⟨some 3, none, .ex (.mov) [.s 0]⟩,
      ⟨some 4, none, .ex (.eqnil 1 false) [.s 3, .k .nils]⟩])
    (.cond (.s 4)
     (.seq
      (.region [⟨some 2, none, .ex (.mov) [.k .nils]⟩])
      .ret)
     .skip))
   (.seq
    (.region [⟨some 5, none, .ex (.bsl 6 0 [] []) []⟩,
      ⟨some 6, none, .ex (.mov) [.s 0]⟩,
      ⟨some 7, none, .ex (.app 6 56) [.s 5, .s 6]⟩,
      ⟨some 2, none, .ex (.mov) [.s 7]⟩])
    .ret))),
 [.t 2]⟩
theorem c96 : compFn Go.Proofs.Tryd.prog 96 = some fn96 := by kernel_rfl

end Go.Proofs.YtbadbkdpnbacnaaDoor.Fw

/- slices.Equal, slices.EqualFunc; what is alike. No condition. -/
namespace Go.Proofs.YtbadbkdpnbacnaaDoor.Fw
open Go
set_option linter.unusedSimpArgs false
set_option linter.unusedVariables false

def listEq {α : Type} (eq : α → α → Bool) : List α → List α → Bool
  | [], [] => true
  | a :: us, b :: bs => eq a b && listEq eq us bs
  | _, _ => false
theorem listEq_iff {α : Type} {eq : α → α → Bool} : ∀ {us bs : List α}, (∀ a ∈ us, ∀ b ∈ bs, eq a b = true ↔ a = b) → (listEq eq us bs = true ↔ us = bs)
  | [], [], _ => by simp [listEq]
  | [], b :: bs, _ => by simp [listEq]
  | a :: us, [], _ => by simp [listEq]
  | a :: us, b :: bs, h => by
    have ih := listEq_iff (us := us) (bs := bs) fun x hx y hy => h x (List.mem_cons_of_mem _ hx) y (List.mem_cons_of_mem _ hy)
    simp only [listEq, Bool.and_eq_true, ih, h a (by simp) b (by simp), List.cons.injEq]
theorem listEq_len {α : Type} {eq : α → α → Bool} : ∀ {us bs : List α}, us.length ≠ bs.length → listEq eq us bs = false
  | [], [], h => absurd rfl h
  | [], b :: bs, _ => rfl
  | a :: us, [], _ => rfl
  | a :: us, b :: bs, h => by simp only [listEq, listEq_len (us := us) (bs := bs) (by simpa using h), Bool.and_false]

def equalFn (sz : Nat) (ld cmp : AK) : AFn := ⟨26,
 (.seq
  (.region [⟨some 4, none, .ex (.mov) [.k (.bool false)]⟩])
  (.seq
   (.seq
    (.region [⟨some 6, none, .ex (.mov) [.s 0]⟩,
      ⟨some 7, none, .ex (.len) [.s 6]⟩,
      ⟨some 8, none, .ex (.mov) [.s 1]⟩,
      ⟨some 9, none, .ex (.len) [.s 8]⟩,
      ⟨some 10, none, .ex (.ibin .neq) [.s 7, .s 9]⟩])
    (.cond (.s 10)
     (.seq
      (.region [⟨some 4, none, .ex (.mov) [.k (.bool false)]⟩])
      .ret)
     .skip))
   (.seq
    (.seq
     (.region [⟨some 11, none, .ex (.mov) [.s 0]⟩,
       ⟨some 12, none, .ex (.len) [.s 11]⟩,
       ⟨some 13, none, .ex (.mov) [.k (.int .i64 0)]⟩])
     (.block 0
      (.loop
       (.seq
        (.region [⟨some 14, none, .ex (.ibin .lss) [.s 13, .s 12]⟩])
        (.seq
         (.cond (.s 14)
          .skip
          (.exit 0))
         (.seq
          (.block 1
           (.seq
            (.region [⟨some 15, none, .ex (.mov) [.s 13]⟩,
              ⟨some 5, none, .ex (.mov) [.s 15]⟩])
            (.seq
             (.draw (.op ⟨some 16, none, .ex (.mov) [.s 0]⟩ (.op ⟨some 17, none, .ex (.mov) [.s 5]⟩ (.op ⟨some 18, none, .ex (.ia sz) [.s 16, .s 17]⟩ (.op ⟨some 19, none, .ex ld [.s 18]⟩ (.op ⟨some 20, none, .ex (.mov) [.s 1]⟩ (.op ⟨some 21, none, .ex (.mov) [.s 5]⟩ (.op ⟨some 22, none, .ex (.ia sz) [.s 20, .s 21]⟩ (.op ⟨some 23, none, .ex ld [.s 22]⟩ (.op ⟨some 24, none, .ex cmp [.s 19, .s 23]⟩ .done))))))))))
             (.cond (.s 24)
              (.seq
               (.region [⟨some 4, none, .ex (.mov) [.k (.bool false)]⟩])
               .ret)
              .skip))))
          (.region [⟨some 25, none, .ex (.ibin .add) [.s 13, .k (.int .i64 1)]⟩,
            ⟨some 13, none, .ex (.mov) [.s 25]⟩])))))))
    (.seq
     (.region [⟨some 4, none, .ex (.mov) [.k (.bool true)]⟩])
     .ret)))),
 [.t 4]⟩
set_option maxRecDepth 20000 in
set_option maxHeartbeats 1000000 in
theorem equal_gen {f : FuncId} {sz : Nat} {ld cmp : AK} {α : Type} {enc : α → List V} {ldv : α → V} {eq : α → α → Bool} (hc : compFn PP f = some (equalFn sz ld cmp))
    (hld : ∀ a H id o, At H id o (enc a) → exec ld [.ptr id o] H = some (ldv a, H)) {x y : V} {H : Heap} {us bs : List α} (hcmp : ∀ a ∈ us, ∀ b ∈ bs, ∀ H, exec cmp [ldv a, ldv b] H = some (.bool (!eq a b), H))
    (hx : SL H x sz (us.map enc)) (hy : SL H y sz (bs.map enc)) (hl : us.length ≤ big) : SCalls PP f [x, y] H fun r H' => H' = H ∧ r = .bool (listEq eq us bs) := by
  refine SCalls.go hc (by simp [equalFn]) fun hw => ?_
  unfold big at hl
  have hlx : ∀ G, exec .len [x] G = some (.int .i64 us.length, G) := fun G => by have := hx.len (H' := G); rwa [List.length_map] at this
  have hly : ∀ G, exec .len [y] G = some (.int .i64 bs.length, G) := fun G => by have := hy.len (H' := G); rwa [List.length_map] at this
  by_cases hne : (us.length : Int) = bs.length
  rotate_left
  · simp (maxSteps := 1000000) (implicitDefEqProofs := false) only [stp, if_true, if_false, Int.reduceEq, Int.reduceLT, Int.reduceLE, Int.reduceGT, Int.reduceGE, reduceCtorEq, Nat.reduceEqDiff, List.getElem?_cons_zero, List.getElem?_cons_succ, Option.map_some, equalFn, enterFr, List.length, List.range, List.range.loop, List.zip, List.zipWith, hlx, hly, hne]
    exact ⟨by trivial, by rw [listEq_len (by omega)]⟩
  have hne' : us.length = bs.length := by omega
  simp (maxSteps := 1000000) (implicitDefEqProofs := false) only [stp, if_true, if_false, Int.reduceEq, Int.reduceLT, Int.reduceLE, Int.reduceGT, Int.reduceGE, reduceCtorEq, Nat.reduceEqDiff, List.getElem?_cons_zero, List.getElem?_cons_succ, Option.map_some, equalFn, enterFr, List.length, List.range, List.range.loop, List.zip, List.zipWith, hlx, hly, hne]
  refine wp_range (len := us.length) SCalls.scMono (by omega) (fun _ : Unit => [(0, x), (1, y)]) (fun k _ H' => H' = H ∧ listEq eq (us.drop k) (bs.drop k) = listEq eq us bs) () ⟨rfl, rfl⟩
    (.cons rfl (.cons (by rw [← hne]; rfl) (.cons rfl (.cons rfl .nil)))) (by decide) (fun s => ⟨rfl, rfl, rfl⟩) ?_ ?_
  · rintro k _ H' hk ⟨rfl, hacc⟩
    have hk2 : k < bs.length := by omega
    obtain ⟨i1, o1, ha1, ht1⟩ := hx.ia (H' := H') (i := k) (e := enc us[k]) (by rw [List.getElem?_map, List.getElem?_eq_getElem hk]; rfl) .i64
    obtain ⟨i2, o2, ha2, ht2⟩ := hy.ia (H' := H') (i := k) (e := enc bs[k]) (by rw [List.getElem?_map, List.getElem?_eq_getElem hk2]; rfl) .i64
    rw [List.drop_eq_getElem_cons hk, List.drop_eq_getElem_cons hk2] at hacc
    simp only [listEq] at hacc
    have hcm := hcmp us[k] (List.getElem_mem hk) bs[k] (List.getElem_mem hk2) H'
    cases he : eq us[k] bs[k] with
    | true =>
      rw [he] at hacc hcm
      simp (maxSteps := 1000000) (implicitDefEqProofs := false) only [stp, if_true, if_false, Int.reduceEq, Int.reduceLT, Int.reduceLE, Int.reduceGT, Int.reduceGE, reduceCtorEq, Nat.reduceEqDiff, List.getElem?_cons_zero, List.getElem?_cons_succ, Option.map_some, ha1, ha2, hld _ _ _ _ ht1, hld _ _ _ _ ht2, hcm]
      exact ⟨(), ⟨by trivial, by simpa using hacc⟩, .cons rfl (.cons rfl (.cons rfl (.cons rfl .nil)))⟩
    | false =>
      rw [he] at hacc hcm
      simp (maxSteps := 1000000) (implicitDefEqProofs := false) only [stp, if_true, if_false, Int.reduceEq, Int.reduceLT, Int.reduceLE, Int.reduceGT, Int.reduceGE, reduceCtorEq, Nat.reduceEqDiff, List.getElem?_cons_zero, List.getElem?_cons_succ, Option.map_some, ha1, ha2, hld _ _ _ _ ht1, hld _ _ _ _ ht2, hcm]
      exact ⟨by trivial, by rw [← hacc]; rfl⟩
  · rintro _ H' ⟨rfl, hacc⟩
    simp (maxSteps := 1000000) (implicitDefEqProofs := false) only [stp, if_true, if_false, Int.reduceEq, Int.reduceLT, Int.reduceLE, Int.reduceGT, Int.reduceGE, reduceCtorEq, Nat.reduceEqDiff, List.getElem?_cons_zero, List.getElem?_cons_succ, Option.map_some, if_true]
    rw [List.drop_length, List.drop_of_length_le (by omega)] at hacc
    exact ⟨by trivial, by rw [← hacc]; rfl⟩

def equalFuncFn (sz : Nat) (z : List V) : AFn := ⟨32,
 (.seq
  (.region [⟨some 6, none, .ex (.mov) [.k (.bool false)]⟩])
  (.seq
   (.seq
    (.region [⟨some 10, none, .ex (.mov) [.s 0]⟩,
      ⟨some 11, none, .ex (.len) [.s 10]⟩,
      ⟨some 12, none, .ex (.mov) [.s 1]⟩,
      ⟨some 13, none, .ex (.len) [.s 12]⟩,
      ⟨some 14, none, .ex (.ibin .neq) [.s 11, .s 13]⟩])
    (.cond (.s 14)
     (.seq
      (.region [⟨some 6, none, .ex (.mov) [.k (.bool false)]⟩])
      .ret)
     .skip))
   (.seq
    (.seq
     (.region [⟨some 15, none, .ex (.mov) [.s 0]⟩,
       ⟨some 16, none, .ex (.len) [.s 15]⟩,
       ⟨some 17, none, .ex (.mov) [.k (.int .i64 0)]⟩])
     (.block 0
      (.loop
       (.seq
        (.region [⟨some 18, none, .ex (.ibin .lss) [.s 17, .s 16]⟩])
        (.seq
         (.cond (.s 18)
          .skip
          (.exit 0))
         (.seq
          (.block 1
           (.seq
            (.region [⟨some 19, none, .ex (.mov) [.s 17]⟩,
              ⟨some 20, none, .ex (.ia sz) [.s 15, .s 17]⟩,
              ⟨some 21, none, .ex (.lda sz) [.s 20]⟩,
              ⟨some 8, none, .ex (.alloc z) []⟩,
              ⟨some 7, none, .ex (.mov) [.s 19]⟩,
              ⟨none, none, .ex (.st sz) [.s 8, .s 21]⟩])
            (.seq
             (.region [⟨some 22, none, .ex (.mov) [.s 1]⟩,
               ⟨some 23, none, .ex (.mov) [.s 7]⟩,
               ⟨some 24, none, .ex (.ia sz) [.s 22, .s 23]⟩,
               ⟨some 25, none, .ex (.lda sz) [.s 24]⟩,
               ⟨some 9, none, .ex (.alloc z) []⟩,
               ⟨none, none, .ex (.st sz) [.s 9, .s 25]⟩])
             (.seq
              (.region [⟨some 26, none, .ex (.mov) [.s 2]⟩,
                ⟨some 27, none, .ex (.lda sz) [.s 8]⟩,
                ⟨some 28, none, .ex (.lda sz) [.s 9]⟩,
                ⟨some 29, none, .callv (.s 26) [.s 27, .s 28]⟩,
                ⟨some 30, none, .ex (.bnot) [.s 29]⟩])
              (.cond (.s 30)
               (.seq
                (.region [⟨some 6, none, .ex (.mov) [.k (.bool false)]⟩])
                .ret)
               .skip)))))
          (.region [⟨some 31, none, .ex (.ibin .add) [.s 17, .k (.int .i64 1)]⟩,
            ⟨some 17, none, .ex (.mov) [.s 31]⟩])))))))
    (.seq
     (.region [⟨some 6, none, .ex (.mov) [.k (.bool true)]⟩])
     .ret)))),
 [.t 6]⟩
set_option maxRecDepth 20000 in
set_option maxHeartbeats 1000000 in
theorem equalFunc_gen {f g : FuncId} {sz : Nat} {z : List V} {α : Type} {enc : α → List V} {eq : α → α → Bool} (hc : compFn PP f = some (equalFuncFn sz z)) (hz : z.length = sz) (hzo : z.all V.one = true)
    {x y : V} {H : Heap} {us bs : List α} (hcall : ∀ H', Ext H H' → ∀ a ∈ us, ∀ b ∈ bs, SCalls PP g [.agg (enc a), .agg (enc b)] H' fun r H'' => H'' = H' ∧ r = .bool (eq a b))
    (hx : SL H x sz (us.map enc)) (hy : SL H y sz (bs.map enc)) (hl : us.length ≤ big) : SCalls PP f [x, y, .fn (.func g) [] []] H fun r H' => H' = H ∧ r = .bool (listEq eq us bs) := by
  refine SCalls.keep (R := fun r => r = .bool (listEq eq us bs)) (SCalls.go hc (by simp [equalFuncFn]) fun hw => ?_)
  unfold big at hl
  have hlx : ∀ G, exec .len [x] G = some (.int .i64 us.length, G) := fun G => by have := hx.len (H' := G); rwa [List.length_map] at this
  have hly : ∀ G, exec .len [y] G = some (.int .i64 bs.length, G) := fun G => by have := hy.len (H' := G); rwa [List.length_map] at this
  by_cases hne : (us.length : Int) = bs.length
  rotate_left
  · simp (maxSteps := 1000000) (implicitDefEqProofs := false) only [stp, if_true, if_false, Int.reduceEq, Int.reduceLT, Int.reduceLE, Int.reduceGT, Int.reduceGE, reduceCtorEq, Nat.reduceEqDiff, List.getElem?_cons_zero, List.getElem?_cons_succ, Option.map_some, equalFuncFn, enterFr, List.length, List.range, List.range.loop, List.zip, List.zipWith, hlx, hly, hne]
    exact ⟨Ext.refl H, by rw [listEq_len (by omega)], rfl⟩
  have hne' : us.length = bs.length := by omega
  simp (maxSteps := 1000000) (implicitDefEqProofs := false) only [stp, if_true, if_false, Int.reduceEq, Int.reduceLT, Int.reduceLE, Int.reduceGT, Int.reduceGE, reduceCtorEq, Nat.reduceEqDiff, List.getElem?_cons_zero, List.getElem?_cons_succ, Option.map_some, equalFuncFn, enterFr, List.length, List.range, List.range.loop, List.zip, List.zipWith, hlx, hly, hne]
  refine wp_range (len := us.length) SCalls.scMono (by omega) (fun _ : Unit => [(15, x), (0, x), (1, y), (2, .fn (.func g) [] [])]) (fun k _ H' => Ext H H' ∧ WF H' ∧ listEq eq (us.drop k) (bs.drop k) = listEq eq us bs) () ⟨Ext.refl H, hw, rfl⟩
    (.cons rfl (.cons (by rw [← hne]; rfl) (.cons rfl (.cons rfl (.cons rfl (.cons rfl .nil)))))) (by decide) (fun s => ⟨rfl, rfl, rfl⟩) ?_ ?_
  · rintro k _ H' hk ⟨hxx, hw', hacc⟩
    have hk2 : k < bs.length := by omega
    obtain ⟨i1, o1, ha1, ht1⟩ := (hx.ext hxx).ia (H' := H') (i := k) (e := enc us[k]) (by rw [List.getElem?_map, List.getElem?_eq_getElem hk]; rfl) .i64
    have e1 := hx.1 (enc us[k]) (List.mem_map_of_mem (List.getElem_mem hk))
    have e2 := hy.1 (enc bs[k]) (List.mem_map_of_mem (List.getElem_mem hk2))
    obtain ⟨H2, hx2, hw2, hat2, hal2, hst2⟩ := x_copy (Ext.refl H') hw' (z := z) (e := enc us[k]) (n := sz) hz hzo e1.1 e1.2
    obtain ⟨i2, o2, ha2, ht2⟩ := (hy.ext (hxx.trans hx2)).ia (H' := H2) (i := k) (e := enc bs[k]) (by rw [List.getElem?_map, List.getElem?_eq_getElem hk2]; rfl) .i64
    obtain ⟨H3, hx3, hw3, hat3, hal3, hst3⟩ := x_copy (Ext.refl H2) hw2 (z := z) (e := enc bs[k]) (n := sz) hz hzo e2.1 e2.2
    have la := (hat2.ext hx3).lda (n := sz) e1.1.symm
    have lb := hat3.lda (n := sz) e2.1.symm
    have hx03 := hxx.trans (hx2.trans hx3)
    rw [List.drop_eq_getElem_cons hk, List.drop_eq_getElem_cons hk2] at hacc
    simp only [listEq] at hacc
    have hne9 : ¬ (8 = 9) := by decide
    simp (maxSteps := 1000000) (implicitDefEqProofs := false) only [stp, if_true, if_false, Int.reduceEq, Int.reduceLT, Int.reduceLE, Int.reduceGT, Int.reduceGE, reduceCtorEq, Nat.reduceEqDiff, List.getElem?_cons_zero, List.getElem?_cons_succ, Option.map_some, ha1, ht1.lda (n := sz) e1.1.symm, hal2, hst2, ha2, ht2.lda (n := sz) e2.1.symm, hal3, hst3, la, lb, List.nil_append, List.append_nil]
    refine SCalls.mono (hcall H3 hx03 us[k] (List.getElem_mem hk) bs[k] (List.getElem_mem hk2)) ?_
    rintro r H4 ⟨rfl, rfl⟩
    cases he : eq us[k] bs[k] with
    | true =>
      rw [he] at hacc
      simp (maxSteps := 1000000) (implicitDefEqProofs := false) only [stp, if_true, if_false, Int.reduceEq, Int.reduceLT, Int.reduceLE, Int.reduceGT, Int.reduceGE, reduceCtorEq, Nat.reduceEqDiff, List.getElem?_cons_zero, List.getElem?_cons_succ, Option.map_some, he]
      exact ⟨(), ⟨hx03, hw3, by simpa using hacc⟩, .cons rfl (.cons rfl (.cons rfl (.cons rfl (.cons rfl (.cons rfl .nil)))))⟩
    | false =>
      rw [he] at hacc
      simp (maxSteps := 1000000) (implicitDefEqProofs := false) only [stp, if_true, if_false, Int.reduceEq, Int.reduceLT, Int.reduceLE, Int.reduceGT, Int.reduceGE, reduceCtorEq, Nat.reduceEqDiff, List.getElem?_cons_zero, List.getElem?_cons_succ, Option.map_some, he]
      exact ⟨hx03, by rw [← hacc]; rfl, rfl⟩
  · rintro _ H' ⟨hxx, hw', hacc⟩
    simp (maxSteps := 1000000) (implicitDefEqProofs := false) only [stp, if_true, if_false, Int.reduceEq, Int.reduceLT, Int.reduceLE, Int.reduceGT, Int.reduceGE, reduceCtorEq, Nat.reduceEqDiff, List.getElem?_cons_zero, List.getElem?_cons_succ, Option.map_some, if_true]
    rw [List.drop_length, List.drop_of_length_le (by omega)] at hacc
    exact ⟨hxx, by rw [← hacc]; rfl, rfl⟩

/-! ### The program's data -/
def valEq (a b : ValA) : Bool := (a.kind == b.kind) && ((a.n == b.n) && ((a.f == b.f) && (a.s.toList == b.s.toList)))
def attrEq (a b : AttrA) : Bool := (a.key == b.key) && valEq a.val b.val
def chgEq (a b : ChgA) : Bool := (a.key == b.key) && ((a.gone == b.gone) && valEq a.val b.val)
theorem valEq_iff {a b : ValA} : valEq a b = true ↔ a = b := by
  cases a; cases b
  simp only [valEq, Bool.and_eq_true, beq_iff_eq, ValA.mk.injEq]
  constructor
  · rintro ⟨h1, h2, h3, h4⟩
    refine ⟨h1, h2, h3, ?_⟩
    rename_i s _ _ _ s'
    cases s; cases s'
    rw [ByteArray.toList_eq, ByteArray.toList_eq] at h4
    congr 1
    exact Array.toList_inj.1 h4
  · rintro ⟨h1, h2, h3, h4⟩
    exact ⟨h1, h2, h3, by rw [h4]⟩
theorem attrEq_iff {a b : AttrA} : attrEq a b = true ↔ a = b := by
  cases a; cases b
  simp only [attrEq, Bool.and_eq_true, beq_iff_eq, valEq_iff, AttrA.mk.injEq]
theorem chgEq_iff {a b : ChgA} : chgEq a b = true ↔ a = b := by
  cases a; cases b
  simp only [chgEq, Bool.and_eq_true, beq_iff_eq, valEq_iff, ChgA.mk.injEq]
theorem x_eqattr (a b : AttrA) (H : Heap) : exec (.eqagg true [0, 0, 0, 0, 2]) [.agg a.cells, .agg b.cells] H = some (.bool (!attrEq a b), H) := by
  simp only [exec, AttrA.cells, ValA.cells, sameL, V.sameK, if_true, Option.map_some, attrEq, valEq, Bool.and_true]
  simp only [Bool.bne_true, Option.getD_some, Bool.and_true]
theorem x_eqchg (a b : ChgA) (H : Heap) : exec (.eqagg true [0, 1, 0, 0, 0, 2]) [.agg a.cells, .agg b.cells] H = some (.bool (!chgEq a b), H) := by
  simp only [exec, ChgA.cells, ValA.cells, sameL, V.sameK, if_true, Option.map_some, chgEq, valEq, Bool.and_true]
  simp only [Bool.bne_true, Option.getD_some, Bool.and_true]

def runeEq (a b : Int) : Bool := decide (a = b)
theorem equalR_calls {x y : V} {H : Heap} {us bs : List Int} (hx : SL H x 1 (us.map fun r => [V.int .i32 r])) (hy : SL H y 1 (bs.map fun r => [V.int .i32 r])) (hl : us.length ≤ big) :
    SCalls PP 47 [x, y] H fun r H' => H' = H ∧ r = .bool (listEq runeEq us bs) :=
  equal_gen (enc := fun r => [V.int .i32 r]) (ldv := fun r => V.int .i32 r) (ld := .ld 1) (cmp := .ibin .neq) (show compFn PP 47 = some (equalFn 1 (.ld 1) (.ibin .neq)) from c47) (fun a H id o h => by have := h.ld (j := 0) (v := .int .i32 a) rfl 1; rwa [Nat.add_zero] at this) (fun a _ b _ H => by rw [x_neq]; rfl) hx hy hl
theorem equalA_calls {x y : V} {H : Heap} {us bs : List AttrA} (hx : SL H x 5 (us.map AttrA.cells)) (hy : SL H y 5 (bs.map AttrA.cells)) (hl : us.length ≤ big) :
    SCalls PP 67 [x, y] H fun r H' => H' = H ∧ r = .bool (listEq attrEq us bs) :=
  equal_gen (enc := AttrA.cells) (ldv := fun a => V.agg a.cells) (show compFn PP 67 = some (equalFn 5 (.lda 5) (.eqagg true [0, 0, 0, 0, 2])) from c67) (fun a H id o h => h.lda (n := 5) rfl) (fun a _ b _ H => x_eqattr a b H) hx hy hl
theorem equalC_calls {x y : V} {H : Heap} {us bs : List ChgA} (hx : SL H x 6 (us.map ChgA.cells)) (hy : SL H y 6 (bs.map ChgA.cells)) (hl : us.length ≤ big) :
    SCalls PP 68 [x, y] H fun r H' => H' = H ∧ r = .bool (listEq chgEq us bs) :=
  equal_gen (enc := ChgA.cells) (ldv := fun a => V.agg a.cells) (show compFn PP 68 = some (equalFn 6 (.lda 6) (.eqagg true [0, 1, 0, 0, 0, 2])) from c68) (fun a H id o h => h.lda (n := 6) rfl) (fun a _ b _ H => x_eqchg a b H) hx hy hl
theorem attrsSame_calls {x y : V} {H : Heap} {us bs : List AttrA} (hx : SL H x 5 (us.map AttrA.cells)) (hy : SL H y 5 (bs.map AttrA.cells)) (hl : us.length ≤ big) :
    SCalls PP 44 [x, y] H fun r H' => H' = H ∧ r = .bool (listEq attrEq us bs) := by
  refine SCalls.go c44 (by simp [fn44]) fun hw => ?_
  simp (maxSteps := 1000000) (implicitDefEqProofs := false) only [stp, if_true, if_false, Int.reduceEq, Int.reduceLT, Int.reduceLE, Int.reduceGT, Int.reduceGE, reduceCtorEq, Nat.reduceEqDiff, List.getElem?_cons_zero, List.getElem?_cons_succ, Option.map_some, fn44, enterFr, List.length, List.range, List.range.loop, List.zip, List.zipWith]
  refine SCalls.mono (equalA_calls hx hy hl) ?_
  rintro r H' ⟨rfl, rfl⟩
  simp (maxSteps := 1000000) (implicitDefEqProofs := false) only [stp, if_true, if_false, Int.reduceEq, Int.reduceLT, Int.reduceLE, Int.reduceGT, Int.reduceGE, reduceCtorEq, Nat.reduceEqDiff, List.getElem?_cons_zero, List.getElem?_cons_succ, Option.map_some, if_true]
  exact ⟨by trivial, by trivial⟩
theorem patchSame_calls {x y : V} {H : Heap} {us bs : List ChgA} (hx : SL H x 6 (us.map ChgA.cells)) (hy : SL H y 6 (bs.map ChgA.cells)) (hl : us.length ≤ big) :
    SCalls PP 48 [x, y] H fun r H' => H' = H ∧ r = .bool (listEq chgEq us bs) := by
  refine SCalls.go c48 (by simp [fn48]) fun hw => ?_
  simp (maxSteps := 1000000) (implicitDefEqProofs := false) only [stp, if_true, if_false, Int.reduceEq, Int.reduceLT, Int.reduceLE, Int.reduceGT, Int.reduceGE, reduceCtorEq, Nat.reduceEqDiff, List.getElem?_cons_zero, List.getElem?_cons_succ, Option.map_some, fn48, enterFr, List.length, List.range, List.range.loop, List.zip, List.zipWith]
  refine SCalls.mono (equalC_calls hx hy hl) ?_
  rintro r H' ⟨rfl, rfl⟩
  simp (maxSteps := 1000000) (implicitDefEqProofs := false) only [stp, if_true, if_false, Int.reduceEq, Int.reduceLT, Int.reduceLE, Int.reduceGT, Int.reduceGE, reduceCtorEq, Nat.reduceEqDiff, List.getElem?_cons_zero, List.getElem?_cons_succ, Option.map_some, if_true]
  exact ⟨by trivial, by trivial⟩
end Go.Proofs.YtbadbkdpnbacnaaDoor.Fw

/- A maker of normal deltas as it lies. No condition. -/
namespace Go.Proofs.YtbadbkdpnbacnaaDoor.Fw
open Go
set_option linter.unusedSimpArgs false
set_option linter.unusedVariables false

/-! ### Content -/
structure OpC where
  kind : Int
  n : Int
  rs : List Int
  ats : List AttrA
  chs : List ChgA
def OpA.con (o : OpA) : OpC := ⟨o.kind, o.n, o.rs, o.ats, o.chs⟩
structure OpC.Ok (c : OpC) : Prop where
  rl : c.rs.length ≤ big
  al : c.ats.length ≤ big
  cl : c.chs.length ≤ big
  sa : ∀ a ∈ c.ats, a.val.s.size ≤ big
  sc : ∀ a ∈ c.chs, a.val.s.size ≤ big
  nlo : -9223372036854775808 ≤ c.n
  nhi : c.n ≤ 9223372036854775807
theorem OpA.In.ok {H : Heap} {o : OpA} (h : o.In H) : o.con.Ok := ⟨h.rl, h.al, h.cl, h.sa, h.sc, h.nlo, h.nhi⟩

theorem st_cell {H : Heap} {p esz k : Nat} {cells : List V} {v : V} (hg : H.get p = some (.row false esz cells)) (hk : k < cells.length) (hv : v.cells = [v]) (ho : v.one = true) : exec (.st 1) [.ptr p k, v] H = some (.undef, H.set p (.row false esz (cells.set k v))) := by
  have hs : splice cells k [v] = cells.set k v := by
    unfold splice
    rw [List.set_eq_take_append_cons_drop, if_pos hk]
    simp
  have hw : writeAt H p k [v] = some (H.set p (.row false esz (cells.set k v))) := by
    unfold writeAt
    rw [hg]
    simp only
    rw [if_pos ⟨by simp; omega, by simp [ho]⟩, hs]
  show (if v.cells.length = 1 then (writeAt H p k v.cells).map (V.undef, ·) else none) = _
  rw [hv, if_pos (show [v].length = 1 from rfl), hw]
  rfl
theorem SL.empty {H H' : Heap} {x : V} {sz : Nat} (h : SL H x sz []) (hn : H.next ≤ H'.next) : SL H' x sz [] := by
  obtain ⟨h0, ⟨rfl, _⟩ | ⟨id, off, cap, e1, e2, e3⟩⟩ := h
  · exact ⟨h0, .inl ⟨rfl, rfl⟩⟩
  · exact ⟨h0, .inr ⟨id, off, cap, e1, Nat.lt_of_lt_of_le e2 hn, fun i e he => by simp at he⟩⟩
/-- A fresh vector stays. -/
theorem Vec.fz {M : Nat → Prop} {G H : Heap} {r : V} {sz : Nat} {es : List (List V)} {k : Option Nat} (h : Vec G r sz es k) (h0 : k = none → es = []) (hn : G.next ≤ H.next) (hk : ∀ j, k = some j → ¬ M j ∧ H.get j = G.get j) : Fz M H fun H' => SL H' r sz es := by
  intro H' hx
  cases k with
  | none =>
    have := h0 rfl
    subst this
    exact h.sl.empty (Nat.le_trans hn hx.next)
  | some j =>
    obtain ⟨h1, h2⟩ := hk j rfl
    exact (h.keep (H' := H') (Nat.le_trans hn hx.next) (fun i e => by cases e; rw [hx.get j (Nat.lt_of_lt_of_le h.lt hn) h1, h2]) (fun e => by cases e)).sl

/-! ### Ops as they lie -/
/-- An op that stays. -/
def OpZ (M : Nat → Prop) (H : Heap) (e : List V) (c : OpC) : Prop := ∃ o : OpA, e = o.cells ∧ o.con = c ∧ Fz M H fun H' => o.In H'
theorem OpZ.step {M M' : Nat → Prop} {H H' : Heap} {e : List V} {c : OpC} (h : OpZ M H e c) (k : ExtM M H H') (g : MGrow M M' H) : OpZ M' H' e c := by
  obtain ⟨o, h1, h2, h3⟩ := h
  exact ⟨o, h1, h2, h3.step k g⟩
/-- The last insert: its runes may grow. -/
structure LastZ (M : Nat → Prop) (H : Heap) (e : List V) (c : OpC) (r : Nat) : Prop where
  sh : ∃ sv, e = [.int .u8 2, .int .i64 0, .slice r 0 c.rs.length none, sv, .nils] ∧ Fz M H fun H' => SL H' sv 5 (c.ats.map AttrA.cells)
  own : Own H r 1 (c.rs.map fun x => [V.int .i32 x])
  mr : M r
  ok : c.Ok
  ne : c.rs ≠ []
  is : c.kind = 2 ∧ c.n = 0 ∧ c.chs = []
theorem LastZ.to {M M' : Nat → Prop} {H : Heap} {e : List V} {c : OpC} {r : Nat} (h : LastZ M H e c r) (hm : ∀ j, M' j → M j ∨ H.next ≤ j) (hr : ¬ M' r) : OpZ M' H e c := by
  obtain ⟨sv, he, hs⟩ := h.sh
  obtain ⟨k1, k2, k3⟩ := h.is
  refine ⟨⟨2, 0, .slice r 0 c.rs.length none, sv, .nils, c.rs, c.ats, []⟩, he, ?_, fun H' hx => ?_⟩
  · cases c; simp_all [OpA.con]
  · have hown := h.own.extM hx hr
    refine ⟨?_, hs _ ((ExtM.refl M H).step hm hx), ⟨by simp, .inl ⟨rfl, rfl⟩⟩, h.ok.rl, h.ok.al, by simp, h.ok.sa, by simp, by simp, by simp⟩
    have := hown.sl none
    rwa [List.length_map] at this
theorem LastZ.step {M M' : Nat → Prop} {H H' : Heap} {e : List V} {c : OpC} {r : Nat} (h : LastZ M H e c r) (k : ExtM M H H') (g : MGrow M M' H) (hr : H'.get r = H.get r) (hm : M' r) : LastZ M' H' e c r := by
  obtain ⟨sv, he, hs⟩ := h.sh
  exact ⟨⟨sv, he, hs.step k g⟩, ⟨Nat.lt_of_lt_of_le h.own.lt k.next, by rw [hr]; exact h.own.get, h.own.len⟩, hm, h.ok, h.ne, h.is⟩
theorem LastZ.sl {M : Nat → Prop} {H : Heap} {e : List V} {c : OpC} {r : Nat} (h : LastZ M H e c r) : ∃ o : OpA, e = o.cells ∧ o.con = c ∧ o.In H := by
  obtain ⟨sv, he, hs⟩ := h.sh
  obtain ⟨k1, k2, k3⟩ := h.is
  refine ⟨⟨2, 0, .slice r 0 c.rs.length none, sv, .nils, c.rs, c.ats, []⟩, he, ?_, ?_⟩
  · cases c; simp_all [OpA.con]
  · refine ⟨?_, hs.here, ⟨by simp, .inl ⟨rfl, rfl⟩⟩, h.ok.rl, h.ok.al, by simp, h.ok.sa, by simp, by simp, by simp⟩
    have := h.own.sl none
    rwa [List.length_map] at this

def All2 {α β : Type} (R : α → β → Prop) : List α → List β → Prop
  | [], [] => True
  | a :: l, b :: k => R a b ∧ All2 R l k
  | _, _ => False
theorem All2.imp {α β : Type} {R S : α → β → Prop} (h : ∀ a b, R a b → S a b) : ∀ {l : List α} {k : List β}, All2 R l k → All2 S l k
  | [], [], _ => trivial
  | a :: l, b :: k, ⟨h1, h2⟩ => ⟨h a b h1, All2.imp h h2⟩
  | [], b :: k, q => q.elim
  | a :: l, [], q => q.elim
theorem All2.append {α β : Type} {R : α → β → Prop} : ∀ {l l' : List α} {k k' : List β}, All2 R l k → All2 R l' k' → All2 R (l ++ l') (k ++ k')
  | [], l', [], k', _, q => q
  | a :: l, l', b :: k, k', ⟨h1, h2⟩, q => ⟨h1, All2.append h2 q⟩
  | [], _, b :: k, _, q, _ => q.elim
  | a :: l, _, [], _, q, _ => q.elim
theorem All2.length {α β : Type} {R : α → β → Prop} : ∀ {l : List α} {k : List β}, All2 R l k → l.length = k.length
  | [], [], _ => rfl
  | a :: l, b :: k, ⟨_, h2⟩ => by simp [All2.length h2]
  | [], b :: k, q => q.elim
  | a :: l, [], q => q.elim

/-- The maker's content. -/
structure MkC where
  done : List OpC
  ins : List OpC
  gone : Int
/-- The inserts of the gap. -/
def InsZ (M : Nat → Prop) (H : Heap) (ics : List (List V)) (ins : List OpC) (rk : Option Nat) : Prop :=
  (ics = [] ∧ ins = [] ∧ rk = none) ∨ ∃ ei el ci cl r, ics = ei ++ [el] ∧ ins = ci ++ [cl] ∧ rk = some r ∧ All2 (OpZ M H) ei ci ∧ LastZ M H el cl r
structure MkP (H : Heap) (M : Nat → Prop) (p : Nat) (m : MkC) (dv iv : V) (dcs ics : List (List V)) (dk ik rk : Option Nat) : Prop where
  lt : p < H.next
  mp : M p
  mb : ∀ j, M j → j < H.next
  at' : H.get p = some (.row false 3 [dv, iv, .int .i64 m.gone])
  dvec : Vec H dv 5 dcs dk
  ivec : Vec H iv 5 ics ik
  md : ∀ j, dk = some j → M j ∧ j ≠ p
  mi : ∀ j, ik = some j → M j ∧ j ≠ p
  di : ∀ j, dk = some j → ik ≠ some j
  mr : ∀ j, rk = some j → j ≠ p ∧ dk ≠ some j ∧ ik ≠ some j
  done : All2 (OpZ M H) dcs m.done
  ins : InsZ M H ics m.ins rk
  dn : dk = none → dcs = []
  inn : ik = none → ics = []
def MkI (H : Heap) (M : Nat → Prop) (p : Nat) (m : MkC) : Prop := ∃ dv iv dcs ics dk ik rk, MkP H M p m dv iv dcs ics dk ik rk
theorem MkP.at3 {H : Heap} {M : Nat → Prop} {p : Nat} {m : MkC} {dv iv : V} {dcs ics : List (List V)} {dk ik rk : Option Nat} (h : MkP H M p m dv iv dcs ics dk ik rk) : At H p 0 [dv, iv, .int .i64 m.gone] :=
  ⟨h.lt, false, 3, _, h.at', by simp, fun j v hj => by rw [Nat.zero_add]; exact hj⟩

/-- A new insert behind. -/
theorem insert_new {H G : Heap} {M : Nat → Prop} {p : Nat} {m : MkC} {dv iv : V} {dcs ics : List (List V)} {dk ik rk : Option Nat} (h : MkP H M p m dv iv dcs ics dk ik rk) (hx : Ext H G) (hw : WF G) {rj : Nat} {sv : V} {rs : List Int} {ats : List AttrA} {sk : Option Nat}
    (hr : Own G rj 1 (rs.map fun x => [V.int .i32 x])) (hrj : H.next ≤ rj) (hs : Vec G sv 5 (ats.map AttrA.cells) sk) (hs0 : sk = none → ats = []) (hsj : ∀ j, sk = some j → H.next ≤ j ∧ j ≠ rj) (hne : rs ≠ [])
    (hok : OpC.Ok ⟨2, 0, rs, ats, []⟩) (hl : m.ins.length + 1 ≤ big) :
    ∃ iv' H3 H4 H5 M', exec (.bsl 5 1 [.int .u8 0, .int .i64 0, .nils, .nils, .nils] [(0, 5)]) [.agg [.int .u8 2, .int .i64 0, .slice rj 0 rs.length none, sv, .nils]] G = some (.slice G.next 0 1 (some 1), H3) ∧
      exec (.app 5 88) [iv, .slice G.next 0 1 (some 1)] H3 = some (iv', H4) ∧ exec (.st 1) [.ptr p (0 + 1), iv'] H4 = some (.undef, H5) ∧
      MkI H5 M' p ⟨m.done, m.ins ++ [⟨2, 0, rs, ats, []⟩], m.gone⟩ ∧ ExtM M H H5 ∧ MGrow M M' H ∧ WF H5 := by
  unfold big at hl
  have hso := hs.one
  have hcell : ([.int .u8 2, .int .i64 0, .slice rj 0 rs.length none, sv, .nils] : List V).all V.one = true := by
    simp only [List.all_cons, List.all_nil, Bool.and_true, hso.1]
    rfl
  have hb : exec (.bsl 5 1 [.int .u8 0, .int .i64 0, .nils, .nils, .nils] [(0, 5)]) [.agg [.int .u8 2, .int .i64 0, .slice rj 0 rs.length none, sv, .nils]] G = some (.slice G.next 0 1 (some 1), G.new (.row false 5 [.int .u8 2, .int .i64 0, .slice rj 0 rs.length none, sv, .nils])) := by
    have hf : fillA [V.int .u8 0, .int .i64 0, .nils, .nils, .nils] [((0, 5), .agg [.int .u8 2, .int .i64 0, .slice rj 0 rs.length none, sv, .nils])] = some [.int .u8 2, .int .i64 0, .slice rj 0 rs.length none, sv, .nils] := by
      simp only [fillA]
      rfl
    simp only [exec, List.length_cons, List.length_nil, if_true, List.zip_cons_cons, List.zip_nil_right, hf, Option.bind_some, hcell]
  generalize hel : ([.int .u8 2, .int .i64 0, .slice rj 0 rs.length none, sv, .nils] : List V) = el at *
  have hell : el.length = 5 := by rw [← hel]; rfl
  have hx3 : Ext G (G.new (.row false 5 el)) := (Ext.refl G).new _
  have hw3 : WF (G.new (.row false 5 el)) := hw.new _
  have hown3 : Own (G.new (.row false 5 el)) G.next 5 [el] := ⟨Nat.lt_succ_self _, by rw [new_get]; simp, by simpa using ⟨hell, by simpa using hcell⟩⟩
  obtain ⟨s1, s2⟩ := (hown3.sl (some 1)).src (by simp)
  have hg3 := new_get G (.row false 5 el)
  have hn3 : (G.new (.row false 5 el)).next = G.next + 1 := rfl
  generalize hG3 : G.new (.row false 5 el) = G3 at *
  have hiv3 := (h.ivec.ext hx).ext hx3
  have hil : ics.length = m.ins.length := by
    rcases h.ins with ⟨rfl, e, _⟩ | ⟨ei, el', ci, cl, r, rfl, e, _, ha, _⟩
    · rw [e]; rfl
    · rw [e, List.length_append, List.length_append, ha.length]; rfl
  obtain ⟨H4, ha, hv4, ho4, hw4, hn4, hgn4, hk4⟩ := hiv3.app (bytes := 88) (n := 1) (news := [el]) hw3 (by decide) rfl (by decide) (by simpa using s1) (by simpa using s2) (fun e he => by simp at he; subst he; exact ⟨hell, hcell⟩) (by omega) (by omega)
  have hpG : G.get p = H.get p := hx.get p h.lt
  have hxn := hx.next
  have hp4 : H4.get p = some (.row false 3 [dv, iv, .int .i64 m.gone]) := by
    rw [hk4 p (by have := h.lt; omega) (fun e => (h.mi p e).2 rfl), hx3.get p (by have := h.lt; omega), hpG]; exact h.at'
  have hst := st_cell (v := .slice G3.next 0 (ics.length + 1) none) hp4 (k := 1) (by simp) rfl rfl
  have hxx : ∀ j, j < G.next → ik ≠ some j → j ≠ p → (H4.set p (.row false 3 ([dv, iv, V.int .i64 m.gone].set 1 (.slice G3.next 0 (ics.length + 1) none)))).get j = G.get j := fun j hj h1 h2 => by
    rw [Heap.set_get, if_neg h2, hk4 j (by omega) h1, hx3.get j hj]
  have hM : ExtM M H (H4.set p (.row false 3 ([dv, iv, V.int .i64 m.gone].set 1 (.slice G3.next 0 (ics.length + 1) none)))) := by
    refine ⟨by rw [Heap.set_gn, hgn4, hx3.gn, hx.gn], by rw [Heap.set_next]; omega, fun j hj hm => ?_⟩
    rw [hxx j (by omega) (fun e => hm (h.mi j e).1) (fun e => hm (by rw [e]; exact h.mp))]
    exact hx.get j hj
  have hG : MGrow M (fun j => (M j ∧ rk ≠ some j) ∨ j = G3.next ∨ j = rj) H := fun j hj => by
    rcases hj with ⟨q, _⟩ | q | q
    · exact .inl q
    · exact .inr (by omega)
    · exact .inr (by omega)
  refine ⟨_, _, H4, _, fun j => (M j ∧ rk ≠ some j) ∨ j = G3.next ∨ j = rj, hb, ha, hst, ?_, hM, hG, hw4.set hp4 _⟩
  have hp5 : (H4.set p (.row false 3 ([dv, iv, V.int .i64 m.gone].set 1 (.slice G3.next 0 (ics.length + 1) none)))).get p = some (.row false 3 [dv, .slice G3.next 0 (ics.length + 1) none, .int .i64 m.gone]) := set_get' _ _ _
  have hi5 : (H4.set p (.row false 3 ([dv, iv, V.int .i64 m.gone].set 1 (.slice G3.next 0 (ics.length + 1) none)))).get G3.next = H4.get G3.next := by rw [Heap.set_get, if_neg (by have := h.lt; omega)]
  have hn5 : (H4.set p (.row false 3 ([dv, iv, V.int .i64 m.gone].set 1 (.slice G3.next 0 (ics.length + 1) none)))).next = H4.next := rfl
  generalize H4.set p (.row false 3 ([dv, iv, V.int .i64 m.gone].set 1 (.slice G3.next 0 (ics.length + 1) none))) = H5 at *
  have hrlt := hr.lt
  have hpl := h.lt
  have hdl : ∀ j, dk = some j → j < H.next := fun j e => by have := h.dvec; rw [e] at this; exact this.lt
  have hil' : ∀ j, ik = some j → j < H.next := fun j e => by have := h.ivec; rw [e] at this; exact this.lt
  have hrl' : ∀ j, rk = some j → j < H.next := fun j e => by
    rcases h.ins with ⟨_, _, q⟩ | ⟨_, _, _, _, r, _, _, q, _, hz⟩
    · rw [q] at e; cases e
    · rw [q] at e; cases e; exact hz.own.lt
  refine ⟨dv, .slice G3.next 0 (ics.length + 1) none, dcs, ics ++ [el], dk, some G3.next, some rj, by omega, .inl ⟨h.mp, fun e => (h.mr p e).1 rfl⟩, fun j hj => ?_, hp5, ?_, ?_, ?_, ?_, ?_, ?_, ?_, ?_, h.dn, by simp⟩
  · rcases hj with ⟨q, _⟩ | q | q
    · have := h.mb j q; omega
    · omega
    · omega
  · -- done's vector
    refine h.dvec.keep (by omega) (fun j e => ?_) (fun e s => ?_)
    · rw [hxx j (by have := hdl j e; omega) (h.di j e) (h.md j e).2]
      exact hx.get j (hdl j e)
    · rw [h.dn e] at s ⊢
      exact s.empty (by omega)
  · refine hv4.keep (by omega) (fun j e => ?_) (fun e => by cases e)
    cases e
    exact hi5
  · intro j e
    exact ⟨.inl ⟨(h.md j e).1, fun q => (h.mr j q).2.1 e⟩, (h.md j e).2⟩
  · intro j e
    cases e
    exact ⟨.inr (.inl rfl), by omega⟩
  · intro j e q
    cases q
    have := hdl _ e
    omega
  · intro j e
    cases e
    refine ⟨by omega, fun q => ?_, fun q => ?_⟩
    · have := hdl _ q; omega
    · cases q; omega
  · exact All2.imp (fun a b q => q.step hM hG) h.done
  · -- the inserts
    refine .inr ?_
    have hfr : Fz (fun j => (M j ∧ rk ≠ some j) ∨ j = G3.next ∨ j = rj) H5 fun H' => SL H' sv 5 (ats.map AttrA.cells) := by
      refine hs.fz (fun e => by rw [hs0 e]; rfl) (by omega) fun j e => ?_
      have hjl : j < G.next := by rw [e] at hs; exact hs.lt
      obtain ⟨q1, q2⟩ := hsj j e
      refine ⟨?_, hxx j hjl (fun q => ?_) (by omega)⟩
      · rintro (⟨q, _⟩ | q | q)
        · have := h.mb j q; omega
        · omega
        · exact q2 q
      · have := hil' j q; omega
    have hlast : LastZ (fun j => (M j ∧ rk ≠ some j) ∨ j = G3.next ∨ j = rj) H5 el ⟨2, 0, rs, ats, []⟩ rj :=
      ⟨⟨sv, hel.symm, hfr⟩, ⟨by omega, by rw [hxx rj hrlt (fun q => by have := hil' rj q; omega) (by omega)]; exact hr.get, hr.len⟩, .inr (.inr rfl), hok, hne, rfl, rfl, rfl⟩
    rcases h.ins with ⟨rfl, e, _⟩ | ⟨ei, el', ci, cl, r, rfl, e, er, ha2, hz⟩
    · exact ⟨[], el, [], _, rj, rfl, by rw [e], rfl, trivial, hlast⟩
    · refine ⟨ei ++ [el'], el, ci ++ [cl], _, rj, rfl, by rw [e], rfl, All2.append (All2.imp (fun a b q => q.step hM hG) ha2) ⟨?_, trivial⟩, hlast⟩
      have hr5 : H5.get r = H.get r := by
        rw [hxx r (by have := hrl' r er; omega) (h.mr r er).2.2 (h.mr r er).1]
        exact hx.get r (hrl' r er)
      have hz2 : OpZ (fun j => M j ∧ rk ≠ some j) H el' cl := hz.to (fun j hj => .inl hj.1) (fun hj => hj.2 er)
      refine hz2.step ⟨hM.gn, hM.next, fun j hj hm => ?_⟩ (fun j hj => ?_)
      · by_cases hjr : rk = some j
        · rw [er] at hjr; cases hjr; exact hr5
        · exact hM.get j hj fun q => hm ⟨q, hjr⟩
      · rcases hj with q | q | q
        · exact .inl q
        · exact .inr (by omega)
        · exact .inr (by omega)
end Go.Proofs.YtbadbkdpnbacnaaDoor.Fw

/- The maker's Insert. No condition. -/
namespace Go.Proofs.YtbadbkdpnbacnaaDoor.Fw
open Go
set_option linter.unusedSimpArgs false
set_option linter.unusedVariables false

theorem flat_set {sz : Nat} (v : V) : ∀ {es : List (List V)} (_ : ∀ e ∈ es, e.length = sz) {k c : Nat} (hk : k < es.length), c < sz → es.flatten.set (k * sz + c) v = (es.set k (es[k].set c v)).flatten
  | [], h, k, c, hk, hc => by simp at hk
  | x :: es, h, 0, c, hk, hc => by
    have hx := h x (by simp)
    simp only [List.flatten_cons, Nat.zero_mul, Nat.zero_add, List.set_cons_zero, List.getElem_cons_zero]
    rw [List.set_append_left _ _ (by omega)]
  | x :: es, h, k + 1, c, hk, hc => by
    have hx := h x (by simp)
    have ih := flat_set v (es := es) (fun y hy => h y (List.mem_cons_of_mem _ hy)) (k := k) (c := c) (by simpa using hk) hc
    simp only [List.flatten_cons, List.set_cons_succ, List.getElem_cons_succ]
    rw [List.set_append_right _ _ (by rw [hx, Nat.add_mul]; omega), hx, ← ih]
    congr 2
    rw [Nat.add_mul]; omega
theorem Own.cell {H : Heap} {id sz : Nat} {es : List (List V)} (h : Own H id sz es) {k c : Nat} (hk : k < es.length) (hc : c < sz) {v : V} (hv : v.cells = [v]) (ho : v.one = true) :
    exec (.st 1) [.ptr id (0 + k * sz + c), v] H = some (.undef, H.set id (.row false sz (es.set k (es[k].set c v)).flatten)) ∧ Own (H.set id (.row false sz (es.set k (es[k].set c v)).flatten)) id sz (es.set k (es[k].set c v)) := by
  have hf := flatLen fun e he => (h.len e he).1
  have hm : (k + 1) * sz ≤ es.length * sz := Nat.mul_le_mul_right _ (by omega)
  rw [Nat.add_mul] at hm
  have h1 := st_cell (v := v) h.get (k := k * sz + c) (by omega) hv ho
  rw [Nat.zero_add, h1, flat_set v (fun e he => (h.len e he).1) hk hc]
  refine ⟨rfl, h.lt, set_get' _ _ _, fun y hy => ?_⟩
  rcases List.mem_or_eq_of_mem_set hy with hy | rfl
  · exact h.len y hy
  · obtain ⟨q1, q2⟩ := h.len es[k] (List.getElem_mem hk)
    refine ⟨by simpa using q1, List.all_eq_true.2 fun u hu => ?_⟩
    rcases List.mem_or_eq_of_mem_set hu with hu | rfl
    · exact List.all_eq_true.1 q2 u hu
    · exact ho

theorem Vec.some {H : Heap} {r : V} {sz : Nat} {es : List (List V)} {k : Option Nat} (h : Vec H r sz es k) (h0 : k = none → es = []) (hne : es ≠ []) : ∃ i, k = some i ∧ r = .slice i 0 es.length none ∧ Own H i sz es := by
  obtain ⟨_, ⟨_, e, _⟩ | ⟨_, _, _, _, e⟩ | ⟨id, e1, e2, e3⟩ | ⟨e, _⟩⟩ := h
  · exact absurd e hne
  · exact absurd (h0 e) hne
  · exact ⟨id, e3, e1, e2⟩
  · exact absurd e hne

/-- The last insert grows. -/
theorem insert_grow {H : Heap} (hw : WF H) {M : Nat → Prop} {p : Nat} {m : MkC} {dv iv : V} {dcs : List (List V)} {dk ik rk : Option Nat} {ei : List (List V)} {el : List V} (h : MkP H M p m dv iv dcs (ei ++ [el]) dk ik rk) {ci' : List OpC} {cl' : OpC} {r : Nat} (er : rk = some r)
    (ha2 : All2 (OpZ M H) ei ci') (hz : LastZ M H el cl' r) {lv : V} {ls : List Int} (hlv : SL H lv 1 (ls.map fun x => [V.int .i32 x])) (hne : ls ≠ []) (hb : cl'.rs.length + ls.length ≤ big) {i : Nat} (hiv0 : iv = .slice i 0 (ei.length + 1) none) :
    ∃ rv H1 H2 M', exec (.app 1 4) [.slice r 0 cl'.rs.length none, lv] H = some (rv, H1) ∧
      exec (.ld 1) [.ptr p (0 + 1)] H1 = some (iv, H1) ∧ exec (.st 1) [.ptr i (0 + ei.length * 5 + 2), rv] H1 = some (.undef, H2) ∧
      MkI H2 M' p ⟨m.done, ci' ++ [⟨cl'.kind, cl'.n, cl'.rs ++ ls, cl'.ats, cl'.chs⟩], m.gone⟩ ∧ ExtM M H H2 ∧ MGrow M M' H ∧ WF H2 := by
  unfold big at hb
  obtain ⟨i', hik, hiv, hio⟩ := h.ivec.some h.inn (by simp)
  rw [List.length_append] at hiv
  obtain rfl : i = i' := by
    rw [hiv0] at hiv
    simp only [V.slice.injEq] at hiv
    exact hiv.1
  have hrl := hz.own.lt
  have hrn : cl'.rs ≠ [] := hz.ne
  obtain ⟨s1, s2⟩ := hlv.src (by simpa using hne)
  rw [List.length_map] at s1 s2
  have hvr : Vec H (.slice r 0 cl'.rs.length none) 1 (cl'.rs.map fun x => [V.int .i32 x]) (some r) := ⟨hz.own.len, .inr (.inr (.inl ⟨r, by rw [List.length_map], hz.own, rfl⟩))⟩
  obtain ⟨H1, ha, hv1, ho1, hw1, hn1, hgn1, hk1⟩ := hvr.app (bytes := 4) (n := ls.length) (news := ls.map fun x => [V.int .i32 x]) hw (by decide) (by simp) (fun q => hne (List.length_eq_zero_iff.1 q)) s1 s2 hlv.1 (by rw [List.length_map]; omega) (by rw [List.length_map]; omega)
  rw [List.length_map] at ha hv1
  rw [← List.map_append] at hv1 ho1
  have hdl : ∀ j, dk = some j → j < H.next := fun j e => by have := h.dvec; rw [e] at this; exact this.lt
  have hil := hio.lt
  have hpl := h.lt
  have hri : r ≠ i := fun q => (h.mr r er).2.2 (by rw [hik, q])
  have hrp := (h.mr r er).1
  have hip : i ≠ p := (h.mi i hik).2
  have hp1 : H1.get p = some (.row false 3 [dv, iv, .int .i64 m.gone]) := by rw [hk1 p hpl (fun q => hrp (by cases q; rfl))]; exact h.at'
  have hat1 : At H1 p 0 [dv, iv, .int .i64 m.gone] := ⟨by omega, false, 3, _, hp1, by simp, fun j v hj => by rw [Nat.zero_add]; exact hj⟩
  have hio1 : Own H1 i 5 (ei ++ [el]) := ⟨by omega, by rw [hk1 i hil (fun q => hri (by cases q; rfl))]; exact hio.get, hio.len⟩
  obtain ⟨q1, q2⟩ := hio1.cell (k := ei.length) (c := 2) (by simp) (by decide) (v := .slice H.next 0 (cl'.rs.length + ls.length) none) rfl rfl
  have hset : (ei ++ [el]).set ei.length ((ei ++ [el])[ei.length].set 2 (.slice H.next 0 (cl'.rs.length + ls.length) none)) = ei ++ [el.set 2 (.slice H.next 0 (cl'.rs.length + ls.length) none)] := by simp
  rw [hset] at q1 q2
  refine ⟨_, H1, _, fun j => M j ∨ j = H.next, ha, hat1.ld (j := 1) rfl 1, q1, ?_, ?_, ?_, ?_⟩
  rotate_left
  · refine ⟨by rw [Heap.set_gn, hgn1], by rw [Heap.set_next]; omega, fun j hj hm => ?_⟩
    rw [Heap.set_get, if_neg (fun q => hm (by rw [q]; exact (h.mi i hik).1)), hk1 j hj (fun q => hm (by cases q; exact hz.mr))]
  · intro j hj
    rcases hj with q | q
    · exact .inl q
    · exact .inr (by omega)
  · exact hw1.set hio1.get _
  have hM : ExtM M H (H1.set i (.row false 5 (ei ++ [el.set 2 (.slice H.next 0 (cl'.rs.length + ls.length) none)]).flatten)) := by
    refine ⟨by rw [Heap.set_gn, hgn1], by rw [Heap.set_next]; omega, fun j hj hm => ?_⟩
    rw [Heap.set_get, if_neg (fun q => hm (by rw [q]; exact (h.mi i hik).1)), hk1 j hj (fun q => hm (by cases q; exact hz.mr))]
  have hG : MGrow M (fun j => M j ∨ j = H.next) H := fun j hj => by
    rcases hj with q | q
    · exact .inl q
    · exact .inr (by omega)
  have hxx : ∀ j, j < H1.next → j ≠ i → (H1.set i (.row false 5 (ei ++ [el.set 2 (.slice H.next 0 (cl'.rs.length + ls.length) none)]).flatten)).get j = H1.get j := fun j hj hi => by rw [Heap.set_get, if_neg hi]
  have hn2 : (H1.set i (.row false 5 (ei ++ [el.set 2 (.slice H.next 0 (cl'.rs.length + ls.length) none)]).flatten)).next = H1.next := rfl
  generalize H1.set i (.row false 5 (ei ++ [el.set 2 (.slice H.next 0 (cl'.rs.length + ls.length) none)]).flatten) = H2 at *
  refine ⟨dv, iv, dcs, ei ++ [el.set 2 (.slice H.next 0 (cl'.rs.length + ls.length) none)], dk, ik, some H.next, by omega, .inl h.mp, fun j hj => ?_, ?_, ?_, ?_, fun j e => ⟨.inl (h.md j e).1, (h.md j e).2⟩, fun j e => ⟨.inl (h.mi j e).1, (h.mi j e).2⟩, h.di, ?_, ?_, ?_, h.dn, fun e => by rw [hik] at e; cases e⟩
  · rcases hj with q | q
    · have := h.mb j q; omega
    · omega
  · rw [hxx p (by omega) (Ne.symm hip)]; exact hp1
  · refine h.dvec.keep (by omega) (fun j e => ?_) (fun e s => ?_)
    · have := hdl j e
      rw [hxx j (by omega) (fun q => h.di j e (by rw [hik, q])), hk1 j this (fun q => (h.mr r er).2.1 (by cases q; exact e))]
    · rw [h.dn e] at s ⊢
      exact s.empty (by omega)
  · exact ⟨q2.len, .inr (.inr (.inl ⟨i, by rw [hiv]; simp, q2, hik⟩))⟩
  · intro j e
    cases e
    refine ⟨by omega, fun q => ?_, fun q => ?_⟩
    · have := hdl _ q; omega
    · rw [hik] at q; cases q; omega
  · exact All2.imp (fun a b q => q.step hM hG) h.done
  · refine .inr ⟨ei, _, ci', _, H.next, rfl, rfl, rfl, All2.imp (fun a b q => q.step hM hG) ha2, ?_⟩
    obtain ⟨sv, hel, hsv⟩ := hz.sh
    refine ⟨⟨sv, by rw [hel]; simp, hsv.step hM hG⟩, ⟨by omega, by rw [hxx _ (by omega) (by omega)]; exact ho1.get, ho1.len⟩, .inr rfl, ?_, by simp [hrn], hz.is⟩
    have ok := hz.ok
    exact ⟨by rw [List.length_append]; unfold big; omega, ok.al, ok.cl, ok.sa, ok.sc, ok.nlo, ok.nhi⟩

def insLast (ins : List OpC) (ls : List Int) (ats : List AttrA) : List OpC :=
  match ins.getLast? with
  | some cl => if listEq attrEq cl.ats ats then ins.dropLast ++ [⟨cl.kind, cl.n, cl.rs ++ ls, cl.ats, cl.chs⟩] else ins ++ [⟨2, 0, ls, ats, []⟩]
  | none => ins ++ [⟨2, 0, ls, ats, []⟩]
def MkC.insert (m : MkC) (ls : List Int) (ats : List AttrA) : MkC := if ls = [] then m else ⟨m.done, insLast m.ins ls ats, m.gone⟩

def insNew : ACode :=
 (.draw (.op ⟨some 51, none, .ex (.mov) [.s 0]⟩ (.op ⟨some 52, none, .ex (.mov) [.s 0]⟩ (.op ⟨some 53, none, .ex (.nilck) [.s 52]⟩ (.op ⟨some 54, none, .ex (.fa 1) [.s 53]⟩ (.op ⟨some 56, none, .ex (.mov) [.s 1]⟩ (.op ⟨some 58, none, .ex (.mov) [.s 2]⟩ (.fork (.op ⟨some 55, none, .ex (.ld 1) [.s 54]⟩ (.op ⟨some 57, none, .callf 93 [.s 56]⟩ (.op ⟨some 59, none, .callf 94 [.s 58]⟩ (.op ⟨some 60, none, .ex (.build [(.int .u8 0), (.int .i64 0), .nils, .nils, .nils] [(0, 1), (2, 1), (3, 1)]) [.k (.int .u8 2), .s 57, .s 59]⟩ (.op ⟨some 61, none, .ex (.bsl 5 1 [(.int .u8 0), (.int .i64 0), .nils, .nils, .nils] [(0, 5)]) [.s 60]⟩ (.op ⟨some 62, none, .ex (.app 5 88) [.s 55, .s 61]⟩ (.op ⟨some 63, none, .ex (.nilck) [.s 51]⟩ (.op ⟨some 64, none, .ex (.fa 1) [.s 63]⟩ (.op ⟨none, none, .ex (.st 1) [.s 64, .s 62]⟩ .done))))))))) (.op ⟨some 57, none, .callf 93 [.s 56]⟩ (.fork (.op ⟨some 55, none, .ex (.ld 1) [.s 54]⟩ (.op ⟨some 59, none, .callf 94 [.s 58]⟩ (.op ⟨some 60, none, .ex (.build [(.int .u8 0), (.int .i64 0), .nils, .nils, .nils] [(0, 1), (2, 1), (3, 1)]) [.k (.int .u8 2), .s 57, .s 59]⟩ (.op ⟨some 61, none, .ex (.bsl 5 1 [(.int .u8 0), (.int .i64 0), .nils, .nils, .nils] [(0, 5)]) [.s 60]⟩ (.op ⟨some 62, none, .ex (.app 5 88) [.s 55, .s 61]⟩ (.op ⟨some 63, none, .ex (.nilck) [.s 51]⟩ (.op ⟨some 64, none, .ex (.fa 1) [.s 63]⟩ (.op ⟨none, none, .ex (.st 1) [.s 64, .s 62]⟩ .done)))))))) (.op ⟨some 59, none, .callf 94 [.s 58]⟩ (.op ⟨some 55, none, .ex (.ld 1) [.s 54]⟩ (.op ⟨some 60, none, .ex (.build [(.int .u8 0), (.int .i64 0), .nils, .nils, .nils] [(0, 1), (2, 1), (3, 1)]) [.k (.int .u8 2), .s 57, .s 59]⟩ (.op ⟨some 61, none, .ex (.bsl 5 1 [(.int .u8 0), (.int .i64 0), .nils, .nils, .nils] [(0, 5)]) [.s 60]⟩ (.op ⟨some 62, none, .ex (.app 5 88) [.s 55, .s 61]⟩ (.op ⟨some 63, none, .ex (.nilck) [.s 51]⟩ (.op ⟨some 64, none, .ex (.fa 1) [.s 63]⟩ (.op ⟨none, none, .ex (.st 1) [.s 64, .s 62]⟩ .done))))))))))))))))))

def fn69' : AFn := ⟨65,
 (.seq
  (.seq
   (.region [⟨some 7, none, .ex (.mov) [.s 0]⟩,
     ⟨some 8, none, .ex (.eqnil 0 false) [.s 7, .k .nilp]⟩,
     ⟨some 9, none, .ex (.mov) [.s 8]⟩,
     ⟨some 10, some (9, false), .ex (.mov) [.s 1]⟩,
     ⟨some 11, some (9, false), .ex (.len) [.s 10]⟩,
     ⟨some 12, some (9, false), .ex (.ibin .eql) [.s 11, .k (.int .i64 0)]⟩,
     ⟨some 13, none, .ex (.pick) [.s 9, .k (.bool true), .s 12]⟩])
   (.cond (.s 13)
    .ret
    .skip))
  (.seq
   (.region [⟨some 14, none, .ex (.mov) [.s 0]⟩,
     ⟨some 15, none, .ex (.nilck) [.s 14]⟩,
     ⟨some 16, none, .ex (.fa 1) [.s 15]⟩,
     ⟨some 17, none, .ex (.ld 1) [.s 16]⟩,
     ⟨some 18, none, .ex (.len) [.s 17]⟩,
     ⟨some 19, none, .ex (.ibin .sub) [.s 18, .k (.int .i64 1)]⟩,
     ⟨some 6, none, .ex (.mov) [.s 19]⟩])
   (.seq
    (.seq
     (.region [⟨some 20, none, .ex (.mov) [.s 6]⟩,
       ⟨some 21, none, .ex (.ibin .geq) [.s 20, .k (.int .i64 0)]⟩,
       ⟨some 22, none, .ex (.mov) [.s 21]⟩,
       ⟨some 23, some (22, true), .ex (.mov) [.s 0]⟩,
       ⟨some 24, some (22, true), .ex (.nilck) [.s 23]⟩,
       ⟨some 25, some (22, true), .ex (.fa 1) [.s 24]⟩,
       ⟨some 26, some (22, true), .ex (.ld 1) [.s 25]⟩,
       ⟨some 27, some (22, true), .ex (.mov) [.s 6]⟩,
       ⟨some 28, some (22, true), .ex (.ia 5) [.s 26, .s 27]⟩,
       ⟨some 29, some (22, true), .ex (.fa 3) [.s 28]⟩,
       ⟨some 30, some (22, true), .ex (.ld 1) [.s 29]⟩,
       ⟨some 31, some (22, true), .ex (.mov) [.s 2]⟩,
       ⟨some 32, some (22, true), .callf 44 [.s 30, .s 31]⟩,
       ⟨some 33, none, .ex (.pick) [.s 22, .s 32, .k (.bool false)]⟩])
     (.cond (.s 33)
      (.seq
       (.draw (.op ⟨some 34, none, .ex (.mov) [.s 0]⟩ (.op ⟨some 35, none, .ex (.nilck) [.s 34]⟩ (.op ⟨some 36, none, .ex (.fa 1) [.s 35]⟩ (.op ⟨some 38, none, .ex (.mov) [.s 6]⟩ (.op ⟨some 39, none, .ex (.mov) [.s 0]⟩ (.op ⟨some 40, none, .ex (.nilck) [.s 39]⟩ (.op ⟨some 41, none, .ex (.fa 1) [.s 40]⟩ (.op ⟨some 42, none, .ex (.ld 1) [.s 41]⟩ (.op ⟨some 43, none, .ex (.mov) [.s 6]⟩ (.op ⟨some 44, none, .ex (.ia 5) [.s 42, .s 43]⟩ (.op ⟨some 45, none, .ex (.fa 2) [.s 44]⟩ (.op ⟨some 46, none, .ex (.ld 1) [.s 45]⟩ (.op ⟨some 47, none, .ex (.mov) [.s 1]⟩ (.fork (.op ⟨some 37, none, .ex (.ld 1) [.s 36]⟩ (.op ⟨some 48, none, .ex (.app 1 4) [.s 46, .s 47]⟩ (.op ⟨some 49, none, .ex (.ia 5) [.s 37, .s 38]⟩ (.op ⟨some 50, none, .ex (.fa 2) [.s 49]⟩ (.op ⟨none, none, .ex (.st 1) [.s 50, .s 48]⟩ .done))))) (.op ⟨some 48, none, .ex (.app 1 4) [.s 46, .s 47]⟩ (.op ⟨some 37, none, .ex (.ld 1) [.s 36]⟩ (.op ⟨some 49, none, .ex (.ia 5) [.s 37, .s 38]⟩ (.op ⟨some 50, none, .ex (.fa 2) [.s 49]⟩ (.op ⟨none, none, .ex (.st 1) [.s 50, .s 48]⟩ .done))))))))))))))))))))
       .ret)
      .skip))
    insNew))),
 []⟩
theorem c69' : compFn Go.Proofs.Tryd.prog 69 = some fn69' := c69

theorem x_buildI {rv sv : V} (hr : rv.cells = [rv]) (hs : sv.cells = [sv]) (H : Heap) : exec (.build [.int .u8 0, .int .i64 0, .nils, .nils, .nils] [(0, 1), (2, 1), (3, 1)]) [.int .u8 2, rv, sv] H = some (.agg [.int .u8 2, .int .i64 0, rv, sv, .nils], H) := by
  have hf : fillA [V.int .u8 0, .int .i64 0, .nils, .nils, .nils] [((0, 1), .int .u8 2), ((2, 1), rv), ((3, 1), sv)] = some [.int .u8 2, .int .i64 0, rv, sv, .nils] := by
    simp only [fillA, hr, hs]
    rfl
  show (fillA [V.int .u8 0, .int .i64 0, .nils, .nils, .nils] [((0, 1), .int .u8 2), ((2, 1), rv), ((3, 1), sv)]).map (fun cs => (V.agg cs, H)) = _
  rw [hf]
  rfl
theorem cloneR_calls {x : V} {H : Heap} {rs : List Int} (hx : SL H x 1 (rs.map fun r => [V.int .i32 r])) (hl : rs.length ≤ big) :
    SCalls PP 93 [x] H fun r H' => Ext H H' ∧ WF H' ∧ ∃ k, Vec H' r 1 (rs.map fun r => [V.int .i32 r]) k ∧ (∀ j, k = some j → H.next ≤ j) ∧ (rs.map (fun r => [V.int .i32 r]) ≠ [] → ∃ j, k = some j ∧ Own H' j 1 (rs.map fun r => [V.int .i32 r]) ∧ r = .slice j 0 (rs.map fun r => [V.int .i32 r]).length none) ∧ (k = none → rs.map (fun r => [V.int .i32 r]) = []) :=
  clone_gen (show compFn PP 93 = some (cloneFn 1 4) from c93) (by decide) (by decide) hx (by simpa using hl)
theorem attrsCopy_calls {x : V} {H : Heap} {ats : List AttrA} (hx : SL H x 5 (ats.map AttrA.cells)) (hl : ats.length ≤ big) :
    SCalls PP 94 [x] H fun r H' => Ext H H' ∧ WF H' ∧ ∃ k, Vec H' r 5 (ats.map AttrA.cells) k ∧ (∀ j, k = some j → H.next ≤ j) ∧ (k = none → ats = []) := by
  refine SCalls.go c94 (by simp [fn94]) fun hw => ?_
  simp (maxSteps := 1000000) (implicitDefEqProofs := false) only [stp, if_true, if_false, Int.reduceEq, Int.reduceLT, Int.reduceLE, Int.reduceGT, Int.reduceGE, reduceCtorEq, Nat.reduceEqDiff, List.getElem?_cons_zero, List.getElem?_cons_succ, Option.map_some, fn94, enterFr, List.length, List.range, List.range.loop, List.zip, List.zipWith]
  refine SCalls.mono (clone_gen (show compFn PP 60 = some (cloneFn 5 48) from c60) (by decide) (by decide) hx (by simpa using hl)) ?_
  rintro r H' ⟨h1, h2, k, h3, h4, _, h5⟩
  simp (maxSteps := 1000000) (implicitDefEqProofs := false) only [stp, if_true, if_false, Int.reduceEq, Int.reduceLT, Int.reduceLE, Int.reduceGT, Int.reduceGE, reduceCtorEq, Nat.reduceEqDiff, List.getElem?_cons_zero, List.getElem?_cons_succ, Option.map_some, if_true]
  exact ⟨h1, h2, k, h3, h4, fun e => by simpa using h5 e⟩

set_option maxRecDepth 20000 in
set_option maxHeartbeats 4000000 in
theorem insert_calls {H : Heap} {M : Nat → Prop} {p : Nat} {m : MkC} (h : MkI H M p m) {lv sv : V} {ls : List Int} {ats : List AttrA} (hlv : SL H lv 1 (ls.map fun x => [V.int .i32 x])) (hsv : SL H sv 5 (ats.map AttrA.cells))
    (hll : ls.length ≤ big) (hal : ats.length ≤ big) (hsa : ∀ a ∈ ats, a.val.s.size ≤ big) (hin : m.ins.length + 1 ≤ big) (hrb : ∀ c ∈ m.ins, c.rs.length + ls.length ≤ big) :
    SCalls PP 69 [.ptr p 0, lv, sv] H fun _ H' => ∃ M', MkI H' M' p (m.insert ls ats) ∧ ExtM M H H' ∧ MGrow M M' H ∧ WF H' := by
  refine SCalls.go c69' (by simp [fn69']) fun hw => ?_
  obtain ⟨dv, iv, dcs, ics, dk, ik, rk, h⟩ := h
  have hnp : exec (.eqnil 0 false) [.ptr p 0, .nilp] H = some (.bool false, H) := rfl
  have hlen : ∀ G, exec .len [lv] G = some (.int .i64 ls.length, G) := fun G => by have := hlv.len (H' := G); rwa [List.length_map] at this
  have l1 := h.at3.ld (j := 1) (v := iv) rfl 1
  have hivl := h.ivec.len H
  by_cases hl0 : ls = []
  · subst hl0
    simp (maxSteps := 1000000) (implicitDefEqProofs := false) only [stp, if_true, if_false, Int.reduceEq, Int.reduceLT, Int.reduceLE, Int.reduceGT, Int.reduceGE, reduceCtorEq, Nat.reduceEqDiff, List.getElem?_cons_zero, List.getElem?_cons_succ, Option.map_some, fn69', enterFr, List.length, List.range, List.range.loop, List.zip, List.zipWith, hnp, hlen, List.length_nil, Int.natCast_zero]
    exact ⟨M, by simpa [MkC.insert] using ⟨dv, iv, dcs, ics, dk, ik, rk, h⟩, ExtM.refl M H, MGrow.refl M H, hw⟩
  have hl0' : ¬ ((ls.length : Int) = 0) := fun q => hl0 (List.length_eq_zero_iff.1 (by omega))
  have hil : ics.length = m.ins.length := by
    rcases h.ins with ⟨rfl, e, _⟩ | ⟨ei, el', ci, cl, r, rfl, e, _, ha, _⟩
    · rw [e]; rfl
    · rw [e, List.length_append, List.length_append, ha.length]; rfl
  unfold big at hin
  have hw1 : IntKind.i64.wrap ((ics.length : Int) - 1) = (ics.length : Int) - 1 := wrap_i64 (by omega) (by omega)
  -- a new insert
  have tail : insLast m.ins ls ats = m.ins ++ [⟨2, 0, ls, ats, []⟩] → ∀ (G : Heap) (rj : Nat) (sv' : V) (sk : Option Nat), Ext H G → WF G → Own G rj 1 (ls.map fun x => [V.int .i32 x]) → H.next ≤ rj → Vec G sv' 5 (ats.map AttrA.cells) sk → (sk = none → ats = []) → (∀ j, sk = some j → H.next ≤ j ∧ j ≠ rj) →
      ∃ iv' H3 H4 H5, exec (.bsl 5 1 [.int .u8 0, .int .i64 0, .nils, .nils, .nils] [(0, 5)]) [.agg [.int .u8 2, .int .i64 0, .slice rj 0 ls.length none, sv', .nils]] G = some (.slice G.next 0 1 (some 1), H3) ∧
        exec (.app 5 88) [iv, .slice G.next 0 1 (some 1)] H3 = some (iv', H4) ∧ exec (.st 1) [.ptr p (0 + 1), iv'] H4 = some (.undef, H5) ∧ ∃ M', MkI H5 M' p (m.insert ls ats) ∧ ExtM M H H5 ∧ MGrow M M' H ∧ WF H5 := by
    intro hil2 G rj sv' sk hx hwG hr hrj hs hs0 hsj
    obtain ⟨iv', H3, H4, H5, M', e1, e2, e3, e4, e5⟩ := insert_new h hx hwG hr hrj hs hs0 hsj hl0 ⟨hll, hal, by simp, hsa, by simp, by simp, by simp⟩ (by unfold big; omega)
    refine ⟨iv', H3, H4, H5, e1, e2, e3, M', ?_, e5⟩
    rw [MkC.insert, if_neg hl0, hil2]
    exact e4
  have new12 : ∀ (G1 G2 : Heap) (rv sv' : V) (sk : Option Nat) (rj : Nat), insLast m.ins ls ats = m.ins ++ [⟨2, 0, ls, ats, []⟩] → Ext H G2 → WF G2 → Own G2 rj 1 (ls.map fun x => [V.int .i32 x]) → rv = .slice rj 0 ls.length none → H.next ≤ rj → Vec G2 sv' 5 (ats.map AttrA.cells) sk → (sk = none → ats = []) → (∀ j, sk = some j → H.next ≤ j ∧ j ≠ rj) →
      ∃ iv' H3 H4 H5, exec (.build [.int .u8 0, .int .i64 0, .nils, .nils, .nils] [(0, 1), (2, 1), (3, 1)]) [.int .u8 2, rv, sv'] G2 = some (.agg [.int .u8 2, .int .i64 0, rv, sv', .nils], G2) ∧ exec (.bsl 5 1 [.int .u8 0, .int .i64 0, .nils, .nils, .nils] [(0, 5)]) [.agg [.int .u8 2, .int .i64 0, rv, sv', .nils]] G2 = some (.slice G2.next 0 1 (some 1), H3) ∧
        exec (.app 5 88) [iv, .slice G2.next 0 1 (some 1)] H3 = some (iv', H4) ∧ exec (.st 1) [.ptr p (0 + 1), iv'] H4 = some (.undef, H5) ∧ ∃ M', MkI H5 M' p (m.insert ls ats) ∧ ExtM M H H5 ∧ MGrow M M' H ∧ WF H5 := by
    intro G1 G2 rv sv' sk rj hi hx hwG hr hrv hrj hs hs0 hsj
    subst hrv
    obtain ⟨iv', H3, H4, H5, e1, e2, e3, e4⟩ := tail hi G2 rj sv' sk hx hwG hr hrj hs hs0 hsj
    exact ⟨iv', H3, H4, H5, x_buildI rfl hs.one.2 _, e1, e2, e3, e4⟩
  have ldx : ∀ G, Ext H G → exec (.ld 1) [.ptr p (0 + 1)] G = some (iv, G) := fun G hx => (h.at3.ext hx).ld (j := 1) (v := iv) rfl 1
  have finish : insLast m.ins ls ats = m.ins ++ [⟨2, 0, ls, ats, []⟩] → ∀ fr : Fr, fr.get 0 = some (.ptr p 0) → fr.get 1 = some lv → fr.get 2 = some sv →
      wpC (SCalls PP) insNew fr H (kend [] fun _ H' => ∃ M', MkI H' M' p (m.insert ls ats) ∧ ExtM M H H' ∧ MGrow M M' H ∧ WF H') := by
    intro hi fr g0 g1 g2
    have crs : ∀ G, Ext H G → WF G → SCalls PP 93 [lv] G fun r H' => ∃ rj, Ext G H' ∧ WF H' ∧ Own H' rj 1 (ls.map fun x => [V.int .i32 x]) ∧ r = .slice rj 0 ls.length none ∧ G.next ≤ rj := fun G hx hwG =>
      SCalls.mono (cloneR_calls (hlv.ext hx) hll) fun r H' ⟨q1, q2, k, q3, q4, q5, _⟩ => by
        obtain ⟨j, e1, e2, e3⟩ := q5 (by simpa using hl0)
        exact ⟨j, q1, q2, e2, by rw [e3, List.length_map], q4 j e1⟩
    have cas : ∀ G, Ext H G → SCalls PP 94 [sv] G fun r H' => Ext G H' ∧ WF H' ∧ ∃ k, Vec H' r 5 (ats.map AttrA.cells) k ∧ (∀ j, k = some j → G.next ≤ j) ∧ (k = none → ats = []) := fun G hx => attrsCopy_calls (hsv.ext hx) hal
    have l0 := ldx H (Ext.refl H)
    simp (maxSteps := 1000000) (implicitDefEqProofs := false) only [stp, if_true, if_false, Int.reduceEq, Int.reduceLT, Int.reduceLE, Int.reduceGT, Int.reduceGE, reduceCtorEq, Nat.reduceEqDiff, List.getElem?_cons_zero, List.getElem?_cons_succ, Option.map_some, insNew, g0, g1, g2, l0]
    refine ⟨?_, ?_⟩
    · refine SCalls.mono (crs H (Ext.refl H) hw) ?_
      rintro rv G1 ⟨rj, hx1, hw1', hro, hrv, hrj⟩
      have hrlt := hro.lt
      simp (maxSteps := 1000000) (implicitDefEqProofs := false) only [stp, if_true, if_false, Int.reduceEq, Int.reduceLT, Int.reduceLE, Int.reduceGT, Int.reduceGE, reduceCtorEq, Nat.reduceEqDiff, List.getElem?_cons_zero, List.getElem?_cons_succ, Option.map_some, g0, g1, g2]
      refine SCalls.mono (cas G1 hx1) ?_
      rintro sv' G2 ⟨hx2, hw2, sk, hs, hsk, hs0⟩
      obtain ⟨iv', H3, H4, H5, e0, e1, e2, e3, e4⟩ := new12 G1 G2 rv sv' sk rj hi (hx1.trans hx2) hw2 (hro.ext hx2) hrv hrj hs hs0 (fun j e => by have := hsk j e; have := hx1.next; omega)
      simp (maxSteps := 1000000) (implicitDefEqProofs := false) only [stp, if_true, if_false, Int.reduceEq, Int.reduceLT, Int.reduceLE, Int.reduceGT, Int.reduceGE, reduceCtorEq, Nat.reduceEqDiff, List.getElem?_cons_zero, List.getElem?_cons_succ, Option.map_some, g0, e0, e1, e2, e3]
      exact e4
    · refine SCalls.mono (crs H (Ext.refl H) hw) ?_
      rintro rv G1 ⟨rj, hx1, hw1', hro, hrv, hrj⟩
      have hrlt := hro.lt
      have l1' := ldx G1 hx1
      simp (maxSteps := 1000000) (implicitDefEqProofs := false) only [stp, if_true, if_false, Int.reduceEq, Int.reduceLT, Int.reduceLE, Int.reduceGT, Int.reduceGE, reduceCtorEq, Nat.reduceEqDiff, List.getElem?_cons_zero, List.getElem?_cons_succ, Option.map_some, g0, g1, g2, l1']
      refine ⟨?_, ?_⟩
      all_goals
        refine SCalls.mono (cas G1 hx1) ?_
        rintro sv' G2 ⟨hx2, hw2, sk, hs, hsk, hs0⟩
        obtain ⟨iv', H3, H4, H5, e0, e1, e2, e3, e4⟩ := new12 G1 G2 rv sv' sk rj hi (hx1.trans hx2) hw2 (hro.ext hx2) hrv hrj hs hs0 (fun j e => by have := hsk j e; have := hx1.next; omega)
        have l2' := ldx G2 (hx1.trans hx2)
        simp (maxSteps := 1000000) (implicitDefEqProofs := false) only [stp, if_true, if_false, Int.reduceEq, Int.reduceLT, Int.reduceLE, Int.reduceGT, Int.reduceGE, reduceCtorEq, Nat.reduceEqDiff, List.getElem?_cons_zero, List.getElem?_cons_succ, Option.map_some, g0, l2', e0, e1, e2, e3]
        exact e4
  rcases hins : h.ins with ⟨hie, hne, _⟩ | ⟨ei, el, ci, cl, r, hie, hne, hrk, ha2, hz⟩
  · subst hie
    have hlt : ¬ ((([] : List (List V)).length : Int) - 1 ≥ 0) := by simp
    simp only [List.length_nil, Int.natCast_zero] at hlt hw1 hivl
    simp (maxSteps := 1000000) (implicitDefEqProofs := false) only [stp, if_true, if_false, Int.reduceEq, Int.reduceLT, Int.reduceLE, Int.reduceGT, Int.reduceGE, reduceCtorEq, Nat.reduceEqDiff, List.getElem?_cons_zero, List.getElem?_cons_succ, Option.map_some, fn69', enterFr, List.length, List.range, List.range.loop, List.zip, List.zipWith, hnp, hlen, hl0', l1, hivl, hw1, hlt]
    refine finish (by rw [hne]; rfl) _ ?_ ?_ ?_ <;> rfl
  · obtain ⟨i, hik, hiv, hio⟩ := h.ivec.some h.inn (by rw [hie]; simp)
    have hicl : ics.length = ei.length + 1 := by rw [hie, List.length_append]; rfl
    have hw1' : IntKind.i64.wrap ((ics.length : Int) - 1) = ((ei.length : Nat) : Int) := by rw [hw1]; omega
    have hge : ((ei.length : Nat) : Int) ≥ 0 := by omega
    have hia := x_iax (H := H) (id := i) (n := ics.length) (i := ei.length) (sz := 5) (by omega)
    rw [← hiv] at hia
    have hat : At H i (0 + ei.length * 5) el := by
      have hs := h.ivec.sl
      rw [hie] at hs
      obtain ⟨_, ⟨e, _⟩ | ⟨id', off', cap', e1, e2, e3⟩⟩ := hs
      · rw [hiv] at e; cases e
      · rw [hiv] at e1
        simp only [V.slice.injEq] at e1
        obtain ⟨rfl, rfl, _, _⟩ := e1
        exact e3 ei.length el (by simp)
    obtain ⟨o, ho1, ho2, ho3⟩ := hz.sl
    have l3 := hat.ld (j := 3) (v := o.set) (by rw [ho1]; rfl) 1
    have l2 := hat.ld (j := 2) (v := o.runes) (by rw [ho1]; rfl) 1
    have hoa : o.ats = cl.ats := by rw [← ho2]; rfl
    simp (maxSteps := 1000000) (implicitDefEqProofs := false) only [stp, if_true, if_false, Int.reduceEq, Int.reduceLT, Int.reduceLE, Int.reduceGT, Int.reduceGE, reduceCtorEq, Nat.reduceEqDiff, List.getElem?_cons_zero, List.getElem?_cons_succ, Option.map_some, fn69', enterFr, List.length, List.range, List.range.loop, List.zip, List.zipWith, hnp, hlen, hl0', l1, hivl, hw1', hge, hia, l3]
    refine SCalls.mono (attrsSame_calls ho3.set hsv (by rw [hoa]; exact hz.ok.al)) ?_
    rintro r' H' ⟨rfl, rfl⟩
    rw [hoa]
    have hgl : m.ins.getLast? = some cl := by rw [hne]; simp
    cases heq : listEq attrEq cl.ats ats with
    | false =>
      simp (maxSteps := 1000000) (implicitDefEqProofs := false) only [stp, if_true, if_false, Int.reduceEq, Int.reduceLT, Int.reduceLE, Int.reduceGT, Int.reduceGE, reduceCtorEq, Nat.reduceEqDiff, List.getElem?_cons_zero, List.getElem?_cons_succ, Option.map_some, heq]
      refine finish (by rw [insLast, hgl]; simp [heq]) _ ?_ ?_ ?_ <;> rfl
    | true =>
      have hil2 : insLast m.ins ls ats = ci ++ [⟨cl.kind, cl.n, cl.rs ++ ls, cl.ats, cl.chs⟩] := by
        rw [insLast, hgl]
        simp only [heq, if_true]
        rw [hne, List.dropLast_concat]
      subst hie
      obtain ⟨rv, H1, H2, M', f1, f3, f4, f5⟩ := insert_grow hw h hrk ha2 hz hlv hl0 (hrb cl (by rw [hne]; simp)) (by rw [hiv, hicl])
      have hrun : o.runes = .slice r 0 cl.rs.length none := by
        obtain ⟨sv2, hs2, _⟩ := hz.sh
        rw [ho1] at hs2
        simp [OpA.cells] at hs2
        exact hs2.2.2.1
      rw [hrun] at l2
      have hia1 := x_iax (H := H1) (id := i) (n := (ei ++ [el]).length) (i := ei.length) (sz := 5) (by omega)
      rw [← hiv] at hia1
      simp (maxSteps := 1000000) (implicitDefEqProofs := false) only [stp, if_true, if_false, Int.reduceEq, Int.reduceLT, Int.reduceLE, Int.reduceGT, Int.reduceGE, reduceCtorEq, Nat.reduceEqDiff, List.getElem?_cons_zero, List.getElem?_cons_succ, Option.map_some, heq, l1, hia, l2, f1]
      refine ⟨?_, ?_⟩
      all_goals
        simp (maxSteps := 1000000) (implicitDefEqProofs := false) only [stp, if_true, if_false, Int.reduceEq, Int.reduceLT, Int.reduceLE, Int.reduceGT, Int.reduceGE, reduceCtorEq, Nat.reduceEqDiff, List.getElem?_cons_zero, List.getElem?_cons_succ, Option.map_some, f1, f3, hia1, f4]
        exact ⟨M', by rw [MkC.insert, if_neg hl0, hil2]; exact f5.1, f5.2⟩
end Go.Proofs.YtbadbkdpnbacnaaDoor.Fw

/- The maker's gap and Retain. No condition. -/
namespace Go.Proofs.YtbadbkdpnbacnaaDoor.Fw
open Go
set_option linter.unusedSimpArgs false
set_option linter.unusedVariables false

abbrev zo : List V := [.int .u8 0, .int .i64 0, .nils, .nils, .nils]
theorem wrap_bd (n : Int) : -9223372036854775808 ≤ IntKind.i64.wrap n ∧ IntKind.i64.wrap n ≤ 9223372036854775807 := by
  simp only [IntKind.wrap, IntKind.bits, IntKind.signed, Bool.true_and]
  split
  · rename_i e; simp at e; omega
  · rename_i e; simp at e; omega
/-- The gap's delete. -/
def delO (g : Int) : List OpC := if g > 0 then [⟨3, g, [], [], []⟩] else []
def delC (g : Int) : List (List V) := if g > 0 then [[.int .u8 3, .int .i64 g, .nils, .nils, .nils]] else []
theorem cloneO_calls {x : V} {H : Heap} {es : List (List V)} (hx : SL H x 5 es) (hl : es.length ≤ big) :
    SCalls PP 95 [x] H fun r H' => Ext H H' ∧ WF H' ∧ ∃ k, Vec H' r 5 es k ∧ (∀ j, k = some j → H.next ≤ j) ∧ (es ≠ [] → ∃ j, k = some j ∧ Own H' j 5 es ∧ r = .slice j 0 es.length none) ∧ (k = none → es = []) :=
  clone_gen (show compFn PP 95 = some (cloneFn 5 88) from c95) (by decide) (by decide) hx hl
theorem bsl1 {H : Heap} {e : List V} (he : e.length = 5) (ho : e.all V.one = true) : ∃ H', exec (.bsl 5 1 zo [(0, 5)]) [.agg e] H = some (.slice H.next 0 1 (some 1), H') ∧ Ext H H' ∧ (WF H → WF H') ∧ SL H' (.slice H.next 0 1 (some 1)) 5 [e] ∧ H'.next = H.next + 1 := by
  refine ⟨H.new (.row false 5 e), ?_, (Ext.refl H).new _, fun hw => hw.new _, ?_, rfl⟩
  · match e, he with
    | [a, b, c, d, f], _ =>
      have hf : fillA zo [((0, 5), .agg [a, b, c, d, f])] = some [a, b, c, d, f] := by
        simp only [fillA]
        rfl
      simp only [exec, List.length_cons, List.length_nil, if_true, List.zip_cons_cons, List.zip_nil_right, hf, Option.bind_some, ho]
  · have ow : Own (H.new (.row false 5 e)) H.next 5 [e] := ⟨Nat.lt_succ_self _, by rw [new_get]; simp, by simpa using ⟨he, by simpa using ho⟩⟩
    exact ow.sl (some 1)
theorem app1 {H : Heap} (hw : WF H) {r : V} {es : List (List V)} {k : Option Nat} (h : Vec H r 5 es k) {x : V} {e : List V} (hx : SL H x 5 [e]) (hl : es.length + 1 ≤ big) :
    ∃ H', exec (.app 5 88) [r, x] H = some (.slice H.next 0 (es.length + 1) none, H') ∧ Vec H' (.slice H.next 0 (es.length + 1) none) 5 (es ++ [e]) (some H.next) ∧ Own H' H.next 5 (es ++ [e]) ∧
      WF H' ∧ H'.next = H.next + 1 ∧ H'.gn = H.gn ∧ ∀ j, j < H.next → k ≠ some j → H'.get j = H.get j := by
  unfold big at hl
  obtain ⟨s1, s2⟩ := hx.src (by simp)
  exact h.app (bytes := 88) (n := 1) (news := [e]) hw (by decide) rfl (by decide) (by simpa using s1) (by simpa using s2) hx.1 (by omega) (by omega)
theorem x_buildD (k : Int) (kk : Int) (H : Heap) : exec (.build [.int .u8 0, .int .i64 0, .nils, .nils, .nils] [(0, 1), (1, 1)]) [.int .u8 kk, .int .i64 k] H = some (.agg [.int .u8 kk, .int .i64 k, .nils, .nils, .nils], H) := rfl

set_option maxRecDepth 20000 in
set_option maxHeartbeats 1000000 in
theorem gap_calls {H : Heap} {M : Nat → Prop} {p : Nat} {m : MkC} {dv iv : V} {dcs ics : List (List V)} {dk ik rk : Option Nat} (h : MkP H M p m dv iv dcs ics dk ik rk) (hl : ics.length + 1 ≤ big) :
    SCalls PP 70 [.ptr p 0] H fun r H' => Ext H H' ∧ WF H' ∧ ∃ k, Vec H' r 5 (ics ++ delC m.gone) k ∧ (∀ j, k = some j → H.next ≤ j) ∧ (k = none → ics ++ delC m.gone = []) := by
  refine SCalls.go c70 (by simp [fn70]) fun hw => ?_
  have l1 := h.at3.ld (j := 1) (v := iv) rfl 1
  simp (maxSteps := 1000000) (implicitDefEqProofs := false) only [stp, if_true, if_false, Int.reduceEq, Int.reduceLT, Int.reduceLE, Int.reduceGT, Int.reduceGE, reduceCtorEq, Nat.reduceEqDiff, List.getElem?_cons_zero, List.getElem?_cons_succ, Option.map_some, fn70, enterFr, List.length, List.range, List.range.loop, List.zip, List.zipWith, l1]
  refine SCalls.mono (cloneO_calls h.ivec.sl (by omega)) ?_
  rintro r G ⟨hx, hwG, k, hv, hk, _, h0⟩
  have l2 := (h.at3.ext hx).ld (j := 2) (v := .int .i64 m.gone) rfl 1
  by_cases hg : m.gone > 0
  · obtain ⟨G2, b1, b2, b3, b4, b5⟩ := bsl1 (H := G) (e := [.int .u8 3, .int .i64 m.gone, .nils, .nils, .nils]) rfl rfl
    obtain ⟨G3, a1, a2, a3, a4, a5, a6, a7⟩ := app1 (b3 hwG) (hv.ext b2) b4 hl
    simp (maxSteps := 1000000) (implicitDefEqProofs := false) only [stp, if_true, if_false, Int.reduceEq, Int.reduceLT, Int.reduceLE, Int.reduceGT, Int.reduceGE, reduceCtorEq, Nat.reduceEqDiff, List.getElem?_cons_zero, List.getElem?_cons_succ, Option.map_some, l2, hg, x_buildD, b1, a1]
    have hn := hx.next
    have hn2 := b2.next
    refine ⟨⟨by rw [a6, b2.gn, hx.gn], by omega, fun j hj => ?_⟩, a4, _, by rw [delC, if_pos hg]; exact a2, fun j e => by cases e; omega, fun e => by cases e⟩
    rw [a7 j (by omega) (fun q => by have := hk j q; omega), b2.get j (by omega), hx.get j hj]
  · simp (maxSteps := 1000000) (implicitDefEqProofs := false) only [stp, if_true, if_false, Int.reduceEq, Int.reduceLT, Int.reduceLE, Int.reduceGT, Int.reduceGE, reduceCtorEq, Nat.reduceEqDiff, List.getElem?_cons_zero, List.getElem?_cons_succ, Option.map_some, l2, hg]
    refine ⟨hx, hwG, k, by rw [delC, if_neg hg, List.append_nil]; exact hv, hk, fun e => by rw [delC, if_neg hg, List.append_nil]; exact h0 e⟩

/-- Stores into the maker. -/
theorem mk_st {H : Heap} {p : Nat} {a b c : V} (hg : H.get p = some (.row false 3 [a, b, c])) {k : Nat} (hk : k < 3) {v : V} (hv : v.cells = [v]) (ho : v.one = true) : exec (.st 1) [.ptr p (0 + k), v] H = some (.undef, H.set p (.row false 3 ([a, b, c].set k v))) := by
  rw [Nat.zero_add]
  exact st_cell hg (by simpa using hk) hv ho
theorem set_set (H : Heap) (p : Nat) (a b : Ob) : (H.set p a).set p b = H.set p b := by
  unfold Heap.set
  congr 1
  funext j
  by_cases h : j = p <;> simp [h]

theorem delO_z (M : Nat → Prop) (H : Heap) (g : Int) (hg : g ≤ 9223372036854775807) : All2 (OpZ M H) (delC g) (delO g) := by
  unfold delC delO
  split
  · exact ⟨⟨⟨3, g, .nils, .nils, .nils, [], [], []⟩, rfl, rfl, fun H' _ => ⟨⟨by simp, .inl ⟨rfl, rfl⟩⟩, ⟨by simp, .inl ⟨rfl, rfl⟩⟩, ⟨by simp, .inl ⟨rfl, rfl⟩⟩, by simp, by simp, by simp, by simp, by simp, by simp only; omega, hg⟩⟩, trivial⟩
  · trivial
theorem InsZ.len {M : Nat → Prop} {H : Heap} {ics : List (List V)} {ins : List OpC} {rk : Option Nat} (h : InsZ M H ics ins rk) : ics.length = ins.length := by
  rcases h with ⟨rfl, rfl, _⟩ | ⟨ei, el', ci, cl, r, rfl, rfl, _, ha, _⟩
  · rfl
  · rw [List.length_append, List.length_append, ha.length]; rfl
/-- The gap's inserts, once they no longer grow. -/
theorem InsZ.to {M M' : Nat → Prop} {H : Heap} {ics : List (List V)} {ins : List OpC} {rk : Option Nat} (h : InsZ M H ics ins rk) (hm : MGrow M M' H) (hr : ∀ j, rk = some j → ¬ M' j) : All2 (OpZ M' H) ics ins := by
  rcases h with ⟨rfl, rfl, _⟩ | ⟨ei, el, ci, cl, r, rfl, rfl, q, ha, hz⟩
  · trivial
  · exact All2.append (All2.imp (fun a b z => z.step (ExtM.refl M H) hm) ha) ⟨hz.to hm (hr r q), trivial⟩

/-- What was told ahead of the gap: all of it done. -/
theorem flush {H G : Heap} {M : Nat → Prop} {p : Nat} {m : MkC} {dv iv : V} {dcs ics : List (List V)} {dk ik rk : Option Nat} (h : MkP H M p m dv iv dcs ics dk ik rk) (hx : Ext H G) (hwG : WF G) {gv : V} {gcs : List (List V)} {gk : Option Nat} (hg : Vec G gv 5 gcs gk)
    (hgc : gcs = ics ++ delC m.gone) (hb : dcs.length + gcs.length ≤ big) (hgo : m.gone ≤ 9223372036854775807) :
    ∃ dv' dk' H1 H2 H3 H4 M', exec (.app 5 88) [dv, gv] G = some (dv', H1) ∧ exec (.st 1) [.ptr p (0 + 0), dv'] H1 = some (.undef, H2) ∧ exec (.st 1) [.ptr p (0 + 1), .nils] H2 = some (.undef, H3) ∧ exec (.st 1) [.ptr p (0 + 2), .int .i64 0] H3 = some (.undef, H4) ∧
      MkP H4 M' p ⟨m.done ++ (m.ins ++ delO m.gone), [], 0⟩ dv' .nils (dcs ++ gcs) [] dk' none none ∧ ExtM M H H4 ∧ MGrow M M' H ∧ WF H4 := by
  unfold big at hb
  have hpl := h.lt
  have hdl : ∀ j, dk = some j → j < H.next := fun j e => by have := h.dvec; rw [e] at this; exact this.lt
  have hrl' : ∀ j, rk = some j → j < H.next := fun j e => by
    rcases h.ins with ⟨_, _, q⟩ | ⟨_, _, _, _, r, _, _, q, _, hz⟩
    · rw [q] at e; cases e
    · rw [q] at e; cases e; exact hz.own.lt
  have hxn := hx.next
  -- the append
  have hap : ∃ dv' dk' H1, exec (.app 5 88) [dv, gv] G = some (dv', H1) ∧ Vec H1 dv' 5 (dcs ++ gcs) dk' ∧ WF H1 ∧ G.next ≤ H1.next ∧ H1.gn = G.gn ∧ (∀ j, j < G.next → dk ≠ some j → H1.get j = G.get j) ∧ (dk' = dk ∧ H1 = G ∨ dk' = some G.next ∧ G.next < H1.next) ∧ (dk' = none → dcs ++ gcs = []) := by
    by_cases hz : gcs = []
    · subst hz
      obtain ⟨s1, s2⟩ := hg.sl.src0
      exact ⟨dv, dk, G, x_app0 h.dvec.shape s1 s2 (by decide), by rw [List.append_nil]; exact h.dvec.ext hx, hwG, Nat.le_refl _, rfl, fun _ _ _ => rfl, .inl ⟨rfl, rfl⟩, fun e => by rw [List.append_nil]; exact h.dn e⟩
    · obtain ⟨s1, s2⟩ := hg.sl.src hz
      obtain ⟨H1, a1, a2, a3, a4, a5, a6, a7⟩ := (h.dvec.ext hx).app (bytes := 88) (n := gcs.length) (news := gcs) hwG (by decide) rfl (fun q => hz (List.length_eq_zero_iff.1 q)) s1 s2 hg.1 (by omega) (by omega)
      exact ⟨_, _, H1, a1, a2, a4, by omega, a6, a7, .inr ⟨rfl, by omega⟩, fun e => by cases e⟩
  obtain ⟨dv', dk', H1, a1, a2, a4, a5, a6, a7, a8, a9⟩ := hap
  have hp1 : H1.get p = some (.row false 3 [dv, iv, .int .i64 m.gone]) := by
    rw [a7 p (by omega) (fun e => (h.md p e).2 rfl), hx.get p hpl]; exact h.at'
  have e1 := mk_st (k := 0) hp1 (by decide) a2.one.2 a2.one.1
  have g2 : (H1.set p (.row false 3 ([dv, iv, .int .i64 m.gone].set 0 dv'))).get p = some (.row false 3 [dv', iv, .int .i64 m.gone]) := set_get' _ _ _
  have e2 := mk_st (k := 1) g2 (by decide) (v := .nils) rfl rfl
  have g3 : ((H1.set p (.row false 3 ([dv, iv, .int .i64 m.gone].set 0 dv'))).set p (.row false 3 ([dv', iv, .int .i64 m.gone].set 1 .nils))).get p = some (.row false 3 [dv', .nils, .int .i64 m.gone]) := set_get' _ _ _
  have e3 := mk_st (k := 2) g3 (by decide) (v := .int .i64 0) rfl rfl
  rw [set_set, set_set] at e3
  rw [set_set] at e2
  have hp4 : (H1.set p (.row false 3 ([dv', .nils, .int .i64 m.gone].set 2 (.int .i64 0)))).get p = some (.row false 3 [dv', .nils, .int .i64 0]) := set_get' _ _ _
  have hxx : ∀ j, j < G.next → dk ≠ some j → j ≠ p → (H1.set p (.row false 3 ([dv', .nils, .int .i64 m.gone].set 2 (.int .i64 0)))).get j = G.get j := fun j hj h1 h2 => by
    rw [Heap.set_get, if_neg h2, a7 j hj h1]
  have hn4 : (H1.set p (.row false 3 ([dv', .nils, .int .i64 m.gone].set 2 (.int .i64 0)))).next = H1.next := rfl
  have hM : ExtM M H (H1.set p (.row false 3 ([dv', .nils, .int .i64 m.gone].set 2 (.int .i64 0)))) := by
    refine ⟨by rw [Heap.set_gn, a6, hx.gn], by rw [Heap.set_next]; omega, fun j hj hm => ?_⟩
    rw [hxx j (by omega) (fun e => hm (h.md j e).1) (fun e => hm (by rw [e]; exact h.mp))]
    exact hx.get j hj
  have hG : MGrow M (fun j => (M j ∧ rk ≠ some j) ∨ (dk' = some j)) H := fun j hj => by
    rcases hj with ⟨q, _⟩ | q
    · exact .inl q
    · rcases a8 with ⟨e, _⟩ | ⟨e, _⟩
      · rw [e] at q; exact .inl (h.md j q).1
      · rw [e] at q; cases q; exact .inr (by omega)
  have hwf4 := a4.set hp1 (.row false 3 ([dv', .nils, .int .i64 m.gone].set 2 (.int .i64 0)))
  have hdk5 : ∀ j, dk' = some j → j ≠ p ∧ j < H1.next ∧ (H1.set p (.row false 3 ([dv', .nils, .int .i64 m.gone].set 2 (.int .i64 0)))).get j = H1.get j := fun j q => by
    have hjp : j ≠ p := by
      rcases a8 with ⟨e, _⟩ | ⟨e, _⟩
      · rw [e] at q; exact (h.md j q).2
      · rw [e] at q; cases q; omega
    exact ⟨hjp, by have := a2; rw [q] at this; exact this.lt, by rw [Heap.set_get, if_neg hjp]⟩
  refine ⟨dv', dk', H1, _, _, _, fun j => (M j ∧ rk ≠ some j) ∨ (dk' = some j), a1, e1, e2, e3, ?_, hM, hG, hwf4⟩
  generalize H1.set p (.row false 3 ([dv', .nils, .int .i64 m.gone].set 2 (.int .i64 0))) = H4 at *
  have hrd : ∀ j, rk = some j → dk' ≠ some j := fun j e q => by
    rcases a8 with ⟨e', _⟩ | ⟨e', _⟩
    · rw [e'] at q; exact (h.mr j e).2.1 q
    · rw [e'] at q; cases q; have := hrl' _ e; omega
  refine ⟨by omega, .inl ⟨h.mp, fun e => (h.mr p e).1 rfl⟩, fun j hj => ?_, hp4, ?_, Vec.nil _ _, fun j e => ⟨.inr e, (hdk5 j e).1⟩, fun j e => (by cases e), fun j _ q => (by cases q), fun j e => (by cases e), ?_, .inl ⟨rfl, rfl, rfl⟩, a9, fun _ => rfl⟩
  · rcases hj with ⟨q, _⟩ | q
    · have := h.mb j q; omega
    · have := (hdk5 j q).2.1; omega
  · refine a2.keep (by omega) (fun j e => (hdk5 j e).2.2) (fun e s => ?_)
    rw [a9 e] at s ⊢
    exact s.empty (by omega)
  · refine All2.append (All2.imp (fun a b q => q.step hM hG) h.done) ?_
    rw [hgc]
    refine All2.append ?_ (delO_z _ _ _ hgo)
    have hz := h.ins.to (M' := fun j => M j ∧ rk ≠ some j) (fun j hj => .inl hj.1) (fun j e q => q.2 e)
    refine All2.imp (fun a b q => q.step ⟨hM.gn, hM.next, fun j hj hm => ?_⟩ (fun j hj => ?_)) hz
    · by_cases hjr : rk = some j
      · rw [hxx j (by omega) (h.mr j hjr).2.1 (h.mr j hjr).1]
        exact hx.get j hj
      · exact hM.get j hj fun q => hm ⟨q, hjr⟩
    · rcases hj with q | q
      · exact .inl q
      · rcases a8 with ⟨e, _⟩ | ⟨e, _⟩
        · rw [e] at q; exact .inl ⟨(h.md j q).1, fun q2 => (h.mr j q2).2.1 q⟩
        · rw [e] at q; cases q; exact .inr (by omega)

def isRetain (c : OpC) (ps : List ChgA) : Bool := decide (c.kind = 1) && listEq chgEq c.chs ps
/-- A retain is told. -/
def retainDone (done : List OpC) (n : Int) (ps : List ChgA) : List OpC :=
  match done.getLast? with
  | some c => if isRetain c ps then done.dropLast ++ [⟨c.kind, IntKind.i64.wrap (c.n + n), c.rs, c.ats, c.chs⟩] else done ++ [⟨1, n, [], [], ps⟩]
  | none => done ++ [⟨1, n, [], [], ps⟩]
def MkC.retain (m : MkC) (n : Int) (ps : List ChgA) : MkC := if n < 1 then m else ⟨retainDone (m.done ++ (m.ins ++ delO m.gone)) n ps, [], 0⟩

/-- The last done op grows. -/
theorem grow_done {H : Heap} (hw : WF H) {M : Nat → Prop} {p : Nat} {m : MkC} {dv iv : V} {dcs : List (List V)} {dk ik rk : Option Nat} {ei : List (List V)} {el : List V} (h : MkP H M p m dv iv (ei ++ [el]) dcs dk ik rk) {cd : List OpC} {c : OpC} (hd : m.done = cd ++ [c]) (n : Int) :
    ∃ i, dv = .slice i 0 (ei.length + 1) none ∧ At H i (0 + ei.length * 5) el ∧ OpZ M H el c ∧ ∃ H1, exec (.st 1) [.ptr i (0 + ei.length * 5 + 1), .int .i64 (IntKind.i64.wrap n)] H = some (.undef, H1) ∧
      MkI H1 M p ⟨cd ++ [⟨c.kind, IntKind.i64.wrap n, c.rs, c.ats, c.chs⟩], m.ins, m.gone⟩ ∧ ExtM M H H1 ∧ WF H1 := by
  obtain ⟨i, hdk, hdv, hio⟩ := h.dvec.some h.dn (by simp)
  rw [List.length_append] at hdv
  have hat : At H i (0 + ei.length * 5) el := by
    have hs := hio.sl none
    obtain ⟨_, ⟨e, _⟩ | ⟨id', off', cap', e1, e2, e3⟩⟩ := hs
    · cases e
    · simp only [V.slice.injEq] at e1
      obtain ⟨rfl, rfl, _, _⟩ := e1
      exact e3 ei.length el (by simp)
  have hall : ∀ {l : List (List V)} {k : List OpC} {x : List V} {y : OpC}, All2 (OpZ M H) (l ++ [x]) (k ++ [y]) → All2 (OpZ M H) l k ∧ OpZ M H x y := by
    intro l
    induction l with
    | nil =>
      intro k x y h
      cases k with
      | nil => exact ⟨trivial, h.1⟩
      | cons b k => cases k <;> exact h.2.elim
    | cons a l ih =>
      intro k x y h
      cases k with
      | nil => cases l <;> exact h.2.elim
      | cons b k =>
        obtain ⟨h1, h2⟩ := h
        obtain ⟨q1, q2⟩ := ih h2
        exact ⟨⟨h1, q1⟩, q2⟩
  have hdz := h.done
  rw [hd] at hdz
  obtain ⟨z1, z2⟩ := hall hdz
  obtain ⟨q1, q2⟩ := hio.cell (k := ei.length) (c := 1) (by simp) (by decide) (v := .int .i64 (IntKind.i64.wrap n)) rfl rfl
  have hset : (ei ++ [el]).set ei.length ((ei ++ [el])[ei.length].set 1 (.int .i64 (IntKind.i64.wrap n))) = ei ++ [el.set 1 (.int .i64 (IntKind.i64.wrap n))] := by simp
  rw [hset] at q1 q2
  have hip : i ≠ p := (h.md i hdk).2
  have hM : ExtM M H (H.set i (.row false 5 (ei ++ [el.set 1 (.int .i64 (IntKind.i64.wrap n))]).flatten)) :=
    ⟨rfl, Nat.le_refl _, fun j hj hm => by rw [Heap.set_get, if_neg (fun q => hm (by rw [q]; exact (h.md i hdk).1))]⟩
  refine ⟨i, hdv, hat, z2, _, q1, ?_, hM, hw.set hio.get _⟩
  have hxx : ∀ j, j ≠ i → (H.set i (.row false 5 (ei ++ [el.set 1 (.int .i64 (IntKind.i64.wrap n))]).flatten)).get j = H.get j := fun j hj => by rw [Heap.set_get, if_neg hj]
  have hn1 : (H.set i (.row false 5 (ei ++ [el.set 1 (.int .i64 (IntKind.i64.wrap n))]).flatten)).next = H.next := rfl
  generalize H.set i (.row false 5 (ei ++ [el.set 1 (.int .i64 (IntKind.i64.wrap n))]).flatten) = H1 at *
  have hstep : ∀ a b, OpZ M H a b → OpZ M H1 a b := fun a b q => q.step hM (MGrow.refl M H)
  have hil' : ∀ j, ik = some j → j ≠ i := fun j e q => by rw [q] at e; exact h.di i hdk e
  refine ⟨dv, iv, ei ++ [el.set 1 (.int .i64 (IntKind.i64.wrap n))], dcs, dk, ik, rk, by rw [hn1]; exact h.lt, h.mp, fun j hj => by rw [hn1]; exact h.mb j hj, by rw [hxx p (Ne.symm hip)]; exact h.at', ?_, ?_, h.md, h.mi, h.di, h.mr, ?_, ?_, fun e => (by rw [hdk] at e; cases e), h.inn⟩
  · exact ⟨q2.len, .inr (.inr (.inl ⟨i, by rw [hdv]; simp, q2, hdk⟩))⟩
  · refine h.ivec.keep (by omega) (fun j e => hxx j (hil' j e)) (fun e s => ?_)
    rw [h.inn e] at s ⊢
    exact s.empty (by omega)
  · refine All2.append (All2.imp hstep z1) ⟨?_, trivial⟩
    obtain ⟨o, ho1, ho2, ho3⟩ := hstep _ _ z2
    refine ⟨⟨o.kind, IntKind.i64.wrap n, o.runes, o.set, o.patch, o.rs, o.ats, o.chs⟩, by rw [ho1]; rfl, by rw [← ho2]; rfl, fun H' hx => ?_⟩
    have q := ho3 H' hx
    exact ⟨q.runes, q.set, q.patch, q.rl, q.al, q.cl, q.sa, q.sc, (wrap_bd n).1, (wrap_bd n).2⟩
  · rcases h.ins with q | ⟨e1, e2, e3, e4, r, q1, q2, q3, q4, q5⟩
    · exact .inl q
    · exact .inr ⟨e1, e2, e3, e4, r, q1, q2, q3, All2.imp hstep q4, q5.step hM (MGrow.refl M H) (hxx r (fun q => (h.mr r q3).2.1 (by rw [hdk, q]))) q5.mr⟩
end Go.Proofs.YtbadbkdpnbacnaaDoor.Fw

/- The maker's Retain. No condition. Parts printed. -/
namespace Go.Proofs.YtbadbkdpnbacnaaDoor.Fw
open Go
set_option linter.unusedSimpArgs false
set_option linter.unusedVariables false

def retNew : ACode :=
 (.draw (.op ⟨some 72, none, .ex (.mov) [.s 0]⟩ (.op ⟨some 73, none, .ex (.mov) [.s 0]⟩ (.op ⟨some 74, none, .ex (.nilck) [.s 73]⟩ (.op ⟨some 75, none, .ex (.fa 0) [.s 74]⟩ (.op ⟨some 77, none, .ex (.mov) [.s 1]⟩ (.op ⟨some 78, none, .ex (.mov) [.s 2]⟩ (.fork (.op ⟨some 76, none, .ex (.ld 1) [.s 75]⟩ (.op ⟨some 79, none, .callf 71 [.s 78]⟩ (.op ⟨some 80, none, .ex (.build [(.int .u8 0), (.int .i64 0), .nils, .nils, .nils] [(0, 1), (1, 1), (4, 1)]) [.k (.int .u8 1), .s 77, .s 79]⟩ (.op ⟨some 81, none, .ex (.bsl 5 1 [(.int .u8 0), (.int .i64 0), .nils, .nils, .nils] [(0, 5)]) [.s 80]⟩ (.op ⟨some 82, none, .ex (.app 5 88) [.s 76, .s 81]⟩ (.op ⟨some 83, none, .ex (.nilck) [.s 72]⟩ (.op ⟨some 84, none, .ex (.fa 0) [.s 83]⟩ (.op ⟨none, none, .ex (.st 1) [.s 84, .s 82]⟩ .done)))))))) (.op ⟨some 79, none, .callf 71 [.s 78]⟩ (.op ⟨some 76, none, .ex (.ld 1) [.s 75]⟩ (.op ⟨some 80, none, .ex (.build [(.int .u8 0), (.int .i64 0), .nils, .nils, .nils] [(0, 1), (1, 1), (4, 1)]) [.k (.int .u8 1), .s 77, .s 79]⟩ (.op ⟨some 81, none, .ex (.bsl 5 1 [(.int .u8 0), (.int .i64 0), .nils, .nils, .nils] [(0, 5)]) [.s 80]⟩ (.op ⟨some 82, none, .ex (.app 5 88) [.s 76, .s 81]⟩ (.op ⟨some 83, none, .ex (.nilck) [.s 72]⟩ (.op ⟨some 84, none, .ex (.fa 0) [.s 83]⟩ (.op ⟨none, none, .ex (.st 1) [.s 84, .s 82]⟩ .done))))))))))))))))
def retTail : ACode :=
 (.seq
     (.region [⟨some 29, none, .ex (.mov) [.s 0]⟩,
       ⟨some 30, none, .ex (.nilck) [.s 29]⟩,
       ⟨some 31, none, .ex (.fa 0) [.s 30]⟩,
       ⟨some 32, none, .ex (.ld 1) [.s 31]⟩,
       ⟨some 33, none, .ex (.len) [.s 32]⟩,
       ⟨some 34, none, .ex (.ibin .sub) [.s 33, .k (.int .i64 1)]⟩,
       ⟨some 6, none, .ex (.mov) [.s 34]⟩])
     (.seq
      (.seq
       (.region [⟨some 35, none, .ex (.mov) [.s 6]⟩,
         ⟨some 36, none, .ex (.ibin .geq) [.s 35, .k (.int .i64 0)]⟩,
         ⟨some 37, none, .ex (.mov) [.s 36]⟩,
         ⟨some 38, some (37, true), .ex (.mov) [.s 0]⟩,
         ⟨some 39, some (37, true), .ex (.nilck) [.s 38]⟩,
         ⟨some 40, some (37, true), .ex (.fa 0) [.s 39]⟩,
         ⟨some 41, some (37, true), .ex (.ld 1) [.s 40]⟩,
         ⟨some 42, some (37, true), .ex (.mov) [.s 6]⟩,
         ⟨some 43, some (37, true), .ex (.ia 5) [.s 41, .s 42]⟩,
         ⟨some 44, some (37, true), .ex (.fa 0) [.s 43]⟩,
         ⟨some 45, some (37, true), .ex (.ld 1) [.s 44]⟩,
         ⟨some 46, some (37, true), .ex (.ibin .eql) [.s 45, .k (.int .u8 1)]⟩,
         ⟨some 47, none, .ex (.pick) [.s 37, .s 46, .k (.bool false)]⟩,
         ⟨some 48, none, .ex (.mov) [.s 47]⟩,
         ⟨some 49, some (48, true), .ex (.mov) [.s 0]⟩,
         ⟨some 50, some (48, true), .ex (.nilck) [.s 49]⟩,
         ⟨some 51, some (48, true), .ex (.fa 0) [.s 50]⟩,
         ⟨some 52, some (48, true), .ex (.ld 1) [.s 51]⟩,
         ⟨some 53, some (48, true), .ex (.mov) [.s 6]⟩,
         ⟨some 54, some (48, true), .ex (.ia 5) [.s 52, .s 53]⟩,
         ⟨some 55, some (48, true), .ex (.fa 4) [.s 54]⟩,
         ⟨some 56, some (48, true), .ex (.ld 1) [.s 55]⟩,
         ⟨some 57, some (48, true), .ex (.mov) [.s 2]⟩,
         ⟨some 58, some (48, true), .callf 48 [.s 56, .s 57]⟩,
         ⟨some 59, none, .ex (.pick) [.s 48, .s 58, .k (.bool false)]⟩])
       (.cond (.s 59)
        (.seq
         (.region [⟨some 60, none, .ex (.mov) [.s 0]⟩,
           ⟨some 61, none, .ex (.nilck) [.s 60]⟩,
           ⟨some 62, none, .ex (.fa 0) [.s 61]⟩,
           ⟨some 63, none, .ex (.ld 1) [.s 62]⟩,
           ⟨some 64, none, .ex (.mov) [.s 6]⟩,
           ⟨some 65, none, .ex (.ia 5) [.s 63, .s 64]⟩,
           ⟨some 66, none, .ex (.fa 1) [.s 65]⟩,
           ⟨some 67, none, .ex (.ld 1) [.s 66]⟩,
           ⟨some 68, none, .ex (.mov) [.s 1]⟩,
           ⟨some 69, none, .ex (.ibin .add) [.s 67, .s 68]⟩,
           ⟨some 70, none, .ex (.ia 5) [.s 63, .s 64]⟩,
           ⟨some 71, none, .ex (.fa 1) [.s 70]⟩,
           ⟨none, none, .ex (.st 1) [.s 71, .s 69]⟩])
         .ret)
        .skip))
      retNew))
def fn51' : AFn := ⟨85,
 (.seq
  (.seq
   (.region [⟨some 7, none, .ex (.mov) [.s 0]⟩,
     ⟨some 8, none, .ex (.eqnil 0 false) [.s 7, .k .nilp]⟩,
     ⟨some 9, none, .ex (.mov) [.s 8]⟩,
     ⟨some 10, some (9, false), .ex (.mov) [.s 1]⟩,
     ⟨some 11, some (9, false), .ex (.ibin .lss) [.s 10, .k (.int .i64 1)]⟩,
     ⟨some 12, none, .ex (.pick) [.s 9, .k (.bool true), .s 11]⟩])
   (.cond (.s 12)
    .ret
    .skip))
  (.seq
   (.draw (.op ⟨some 13, none, .ex (.mov) [.s 0]⟩ (.op ⟨some 14, none, .ex (.mov) [.s 0]⟩ (.op ⟨some 15, none, .ex (.nilck) [.s 14]⟩ (.op ⟨some 16, none, .ex (.fa 0) [.s 15]⟩ (.op ⟨some 18, none, .ex (.mov) [.s 0]⟩ (.fork (.op ⟨some 17, none, .ex (.ld 1) [.s 16]⟩ (.op ⟨some 19, none, .callf 70 [.s 18]⟩ (.op ⟨some 20, none, .ex (.app 5 88) [.s 17, .s 19]⟩ (.op ⟨some 21, none, .ex (.nilck) [.s 13]⟩ (.op ⟨some 22, none, .ex (.fa 0) [.s 21]⟩ (.op ⟨none, none, .ex (.st 1) [.s 22, .s 20]⟩ .done)))))) (.op ⟨some 19, none, .callf 70 [.s 18]⟩ (.op ⟨some 17, none, .ex (.ld 1) [.s 16]⟩ (.op ⟨some 20, none, .ex (.app 5 88) [.s 17, .s 19]⟩ (.op ⟨some 21, none, .ex (.nilck) [.s 13]⟩ (.op ⟨some 22, none, .ex (.fa 0) [.s 21]⟩ (.op ⟨none, none, .ex (.st 1) [.s 22, .s 20]⟩ .done)))))))))))))
   (.seq
    (.region [⟨some 23, none, .ex (.mov) [.s 0]⟩,
      ⟨some 24, none, .ex (.mov) [.s 0]⟩,
      ⟨some 25, none, .ex (.nilck) [.s 23]⟩,
      ⟨some 26, none, .ex (.fa 1) [.s 25]⟩,
      ⟨none, none, .ex (.st 1) [.s 26, .k .nils]⟩,
      ⟨some 27, none, .ex (.nilck) [.s 24]⟩,
      ⟨some 28, none, .ex (.fa 2) [.s 27]⟩,
      ⟨none, none, .ex (.st 1) [.s 28, .k (.int .i64 0)]⟩])
    retTail))),
 []⟩
theorem c51' : compFn Go.Proofs.Tryd.prog 51 = some fn51' := c51

theorem x_buildR {n : Int} {pv : V} (hp : pv.cells = [pv]) (H : Heap) : exec (.build [.int .u8 0, .int .i64 0, .nils, .nils, .nils] [(0, 1), (1, 1), (4, 1)]) [.int .u8 1, .int .i64 n, pv] H = some (.agg [.int .u8 1, .int .i64 n, .nils, .nils, pv], H) := by
  have hf : fillA [V.int .u8 0, .int .i64 0, .nils, .nils, .nils] [((0, 1), .int .u8 1), ((1, 1), .int .i64 n), ((4, 1), pv)] = some [.int .u8 1, .int .i64 n, .nils, .nils, pv] := by
    simp only [fillA, hp]
    rfl
  show (fillA [V.int .u8 0, .int .i64 0, .nils, .nils, .nils] [((0, 1), .int .u8 1), ((1, 1), .int .i64 n), ((4, 1), pv)]).map (fun cs => (V.agg cs, H)) = _
  rw [hf]
  rfl
/-- A new retain behind what is done. -/
theorem done_new {H G : Heap} {M : Nat → Prop} {p : Nat} {m : MkC} {dv iv : V} {dcs ics : List (List V)} {dk ik rk : Option Nat} (h : MkP H M p m dv iv dcs ics dk ik rk) (hi : m.ins = []) (hx : Ext H G) (hw : WF G) {pv : V} {ps : List ChgA} {pk : Option Nat} {n : Int}
    (hs : Vec G pv 6 (ps.map ChgA.cells) pk) (hs0 : pk = none → ps = []) (hsj : ∀ j, pk = some j → H.next ≤ j) (hok : OpC.Ok ⟨1, n, [], [], ps⟩) (hl : dcs.length + 1 ≤ big) :
    ∃ dv' H3 H4 H5 M', exec (.bsl 5 1 zo [(0, 5)]) [.agg [.int .u8 1, .int .i64 n, .nils, .nils, pv]] G = some (.slice G.next 0 1 (some 1), H3) ∧
      exec (.app 5 88) [dv, .slice G.next 0 1 (some 1)] H3 = some (dv', H4) ∧ exec (.st 1) [.ptr p (0 + 0), dv'] H4 = some (.undef, H5) ∧
      MkI H5 M' p ⟨m.done ++ [⟨1, n, [], [], ps⟩], m.ins, m.gone⟩ ∧ ExtM M H H5 ∧ MGrow M M' H ∧ WF H5 := by
  have hso := hs.one
  obtain ⟨H3, b1, b2, b3, b4, b5⟩ := bsl1 (H := G) (e := [.int .u8 1, .int .i64 n, .nils, .nils, pv]) rfl (by
    simp only [List.all_cons, List.all_nil, Bool.and_true, hso.1]
    rfl)
  obtain ⟨H4, a1, a2, a3, a4, a5, a6, a7⟩ := app1 (b3 hw) ((h.dvec.ext hx).ext b2) b4 hl
  have hxn := hx.next
  have hbn := b2.next
  have hpl := h.lt
  have hdl : ∀ j, dk = some j → j < H.next := fun j e => by have := h.dvec; rw [e] at this; exact this.lt
  have hil' : ∀ j, ik = some j → j < H.next := fun j e => by have := h.ivec; rw [e] at this; exact this.lt
  have hp4 : H4.get p = some (.row false 3 [dv, iv, .int .i64 m.gone]) := by
    rw [a7 p (by omega) (fun e => (h.md p e).2 rfl), b2.get p (by omega), hx.get p hpl]; exact h.at'
  have e1 := mk_st (k := 0) hp4 (by decide) (v := .slice H3.next 0 (dcs.length + 1) none) rfl rfl
  have hxx : ∀ j, j < G.next → dk ≠ some j → j ≠ p → (H4.set p (.row false 3 ([dv, iv, V.int .i64 m.gone].set 0 (.slice H3.next 0 (dcs.length + 1) none)))).get j = G.get j := fun j hj h1 h2 => by
    rw [Heap.set_get, if_neg h2, a7 j (by omega) h1, b2.get j hj]
  have hM : ExtM M H (H4.set p (.row false 3 ([dv, iv, V.int .i64 m.gone].set 0 (.slice H3.next 0 (dcs.length + 1) none)))) := by
    refine ⟨by rw [Heap.set_gn, a6, b2.gn, hx.gn], by rw [Heap.set_next]; omega, fun j hj hm => ?_⟩
    rw [hxx j (by omega) (fun e => hm (h.md j e).1) (fun e => hm (by rw [e]; exact h.mp))]
    exact hx.get j hj
  have hG : MGrow M (fun j => M j ∨ j = H3.next) H := fun j hj => by
    rcases hj with q | q
    · exact .inl q
    · exact .inr (by omega)
  refine ⟨_, H3, H4, _, fun j => M j ∨ j = H3.next, b1, a1, e1, ?_, hM, hG, a4.set hp4 _⟩
  have hp5 : (H4.set p (.row false 3 ([dv, iv, V.int .i64 m.gone].set 0 (.slice H3.next 0 (dcs.length + 1) none)))).get p = some (.row false 3 [.slice H3.next 0 (dcs.length + 1) none, iv, .int .i64 m.gone]) := set_get' _ _ _
  have hi5 : (H4.set p (.row false 3 ([dv, iv, V.int .i64 m.gone].set 0 (.slice H3.next 0 (dcs.length + 1) none)))).get H3.next = H4.get H3.next := by rw [Heap.set_get, if_neg (by omega)]
  have hn5 : (H4.set p (.row false 3 ([dv, iv, V.int .i64 m.gone].set 0 (.slice H3.next 0 (dcs.length + 1) none)))).next = H4.next := rfl
  generalize H4.set p (.row false 3 ([dv, iv, V.int .i64 m.gone].set 0 (.slice H3.next 0 (dcs.length + 1) none))) = H5 at *
  rcases h.ins with ⟨hie, _, hrk⟩ | ⟨_, _, _, _, _, _, q, _⟩
  rotate_left
  · rw [hi] at q; simp at q
  refine ⟨.slice H3.next 0 (dcs.length + 1) none, iv, dcs ++ [[.int .u8 1, .int .i64 n, .nils, .nils, pv]], ics, some H3.next, ik, none, by omega, .inl h.mp, fun j hj => ?_, hp5, ?_, ?_, fun j e => ?_, fun j e => ⟨.inl (h.mi j e).1, (h.mi j e).2⟩, fun j e q => ?_, fun j e => (by cases e), ?_, .inl ⟨hie, hi, rfl⟩, fun e => (by cases e), h.inn⟩
  · rcases hj with q | q
    · have := h.mb j q; omega
    · omega
  · refine a2.keep (by omega) (fun j e => ?_) (fun e => by cases e)
    cases e
    exact hi5
  · refine h.ivec.keep (by omega) (fun j e => ?_) (fun e s => ?_)
    · have := hil' j e
      rw [hxx j (by omega) (fun q => h.di j q e) (h.mi j e).2]
      exact hx.get j this
    · rw [h.inn e] at s ⊢
      exact s.empty (by omega)
  · cases e
    exact ⟨.inr rfl, by omega⟩
  · cases e
    have := hil' _ q
    omega
  · refine All2.append (All2.imp (fun a b q => q.step hM hG) h.done) ⟨⟨⟨1, n, .nils, .nils, pv, [], [], ps⟩, rfl, rfl, ?_⟩, trivial⟩
    have hfr : Fz (fun j => M j ∨ j = H3.next) H5 fun H' => SL H' pv 6 (ps.map ChgA.cells) := by
      refine hs.fz (fun e => by rw [hs0 e]; rfl) (by omega) fun j e => ?_
      have hjl : j < G.next := by rw [e] at hs; exact hs.lt
      have q1 := hsj j e
      refine ⟨?_, hxx j hjl (fun q => ?_) (by omega)⟩
      · rintro (q | q)
        · have := h.mb j q; omega
        · omega
      · have := hdl j q; omega
    exact fun H' hx => ⟨⟨by simp, .inl ⟨rfl, rfl⟩⟩, ⟨by simp, .inl ⟨rfl, rfl⟩⟩, hfr H' hx, by simp, by simp, hok.cl, by simp, hok.sc, hok.nlo, hok.nhi⟩

theorem patchCopy_calls {x : V} {H : Heap} {ps : List ChgA} (hx : SL H x 6 (ps.map ChgA.cells)) (hl : ps.length ≤ big) :
    SCalls PP 71 [x] H fun r H' => Ext H H' ∧ WF H' ∧ ∃ k, Vec H' r 6 (ps.map ChgA.cells) k ∧ (∀ j, k = some j → H.next ≤ j) ∧ (k = none → ps = []) := by
  refine SCalls.go c71 (by simp [fn71]) fun hw => ?_
  simp (maxSteps := 1000000) (implicitDefEqProofs := false) only [stp, if_true, if_false, Int.reduceEq, Int.reduceLT, Int.reduceLE, Int.reduceGT, Int.reduceGE, reduceCtorEq, Nat.reduceEqDiff, List.getElem?_cons_zero, List.getElem?_cons_succ, Option.map_some, fn71, enterFr, List.length, List.range, List.range.loop, List.zip, List.zipWith]
  refine SCalls.mono (clone_gen (show compFn PP 96 = some (cloneFn 6 56) from c96) (by decide) (by decide) hx (by simpa using hl)) ?_
  rintro r H' ⟨h1, h2, k, h3, h4, _, h5⟩
  simp (maxSteps := 1000000) (implicitDefEqProofs := false) only [stp, if_true, if_false, Int.reduceEq, Int.reduceLT, Int.reduceLE, Int.reduceGT, Int.reduceGE, reduceCtorEq, Nat.reduceEqDiff, List.getElem?_cons_zero, List.getElem?_cons_succ, Option.map_some, if_true]
  exact ⟨h1, h2, k, h3, h4, fun e => by simpa using h5 e⟩

theorem MkI.trans {H H1 H2 : Heap} {M M1 M2 : Nat → Prop} (h : ExtM M H H1) (g : MGrow M M1 H) (h' : ExtM M1 H1 H2) (g' : MGrow M1 M2 H1) : ExtM M H H2 ∧ MGrow M M2 H := ⟨h.step g h', g.trans g' h.next⟩

set_option maxRecDepth 20000 in
set_option maxHeartbeats 4000000 in
theorem retTail_ok {H : Heap} (hw : WF H) {M : Nat → Prop} {p : Nat} {m : MkC} {dv iv : V} {dcs ics : List (List V)} {dk ik rk : Option Nat} (h : MkP H M p m dv iv dcs ics dk ik rk) (hi : m.ins = []) {pv : V} {ps : List ChgA} {n : Int}
    (hpv : SL H pv 6 (ps.map ChgA.cells)) (hok : OpC.Ok ⟨1, n, [], [], ps⟩) (hl : dcs.length + 1 ≤ big) {R : V → Heap → Prop}
    (hR : ∀ H' M', MkI H' M' p ⟨retainDone m.done n ps, m.ins, m.gone⟩ → ExtM M H H' → MGrow M M' H → WF H' → ∀ v, R v H') {fr : Fr} (g0 : fr.get 0 = some (.ptr p 0)) (g1 : fr.get 1 = some (.int .i64 n)) (g2 : fr.get 2 = some pv) :
    wpC (SCalls PP) retTail fr H (kend [] R) := by
  have hl' := hl
  unfold big at hl'
  have hcl := hok.cl
  simp only at hcl
  have l0 := h.at3.ld (j := 0) (v := dv) rfl 1
  have hdlen := h.dvec.len H
  have hdl := h.done.length
  have ldx : ∀ G, Ext H G → exec (.ld 1) [.ptr p (0 + 0)] G = some (dv, G) := fun G hx => (h.at3.ext hx).ld (j := 0) (v := dv) rfl 1
  have new : retainDone m.done n ps = m.done ++ [⟨1, n, [], [], ps⟩] → ∀ fr : Fr, fr.get 0 = some (.ptr p 0) → fr.get 1 = some (.int .i64 n) → fr.get 2 = some pv → wpC (SCalls PP) retNew fr H (kend [] R) := by
    intro hrd fr g0 g1 g2
    have l0 := ldx H (Ext.refl H)
    simp (maxSteps := 1000000) (implicitDefEqProofs := false) only [stp, if_true, if_false, Int.reduceEq, Int.reduceLT, Int.reduceLE, Int.reduceGT, Int.reduceGE, reduceCtorEq, Nat.reduceEqDiff, List.getElem?_cons_zero, List.getElem?_cons_succ, Option.map_some, retNew, g0, g1, g2, l0]
    refine ⟨?_, ?_⟩
    all_goals
      refine SCalls.mono (patchCopy_calls hpv hcl) ?_
      rintro r G ⟨hx, hwG, k, hv, hk, hk0⟩
      obtain ⟨dv', H3, H4, H5, M', e1, e2, e3, e4, e5, e6, e7⟩ := done_new h hi hx hwG hv hk0 hk hok hl
      have l0' := ldx G hx
      simp (maxSteps := 1000000) (implicitDefEqProofs := false) only [stp, if_true, if_false, Int.reduceEq, Int.reduceLT, Int.reduceLE, Int.reduceGT, Int.reduceGE, reduceCtorEq, Nat.reduceEqDiff, List.getElem?_cons_zero, List.getElem?_cons_succ, Option.map_some, g0, l0', x_buildR hv.one.2, e1, e2, e3]
      exact hR _ M' (by rw [hrd]; exact e4) e5 e6 e7 _
  have hw1 : IntKind.i64.wrap ((dcs.length : Int) - 1) = (dcs.length : Int) - 1 := wrap_i64 (by omega) (by omega)
  rcases List.eq_nil_or_concat dcs with hd0 | ⟨ei, el, hde⟩
  · subst hd0
    have hm0 : m.done = [] := List.eq_nil_of_length_eq_zero (by simpa using hdl.symm)
    have hlt : ¬ ((([] : List (List V)).length : Int) - 1 ≥ 0) := by simp
    simp only [List.length_nil, Int.natCast_zero] at hlt hw1 hdlen
    simp (maxSteps := 1000000) (implicitDefEqProofs := false) only [stp, if_true, if_false, Int.reduceEq, Int.reduceLT, Int.reduceLE, Int.reduceGT, Int.reduceGE, reduceCtorEq, Nat.reduceEqDiff, List.getElem?_cons_zero, List.getElem?_cons_succ, Option.map_some, retTail, g0, g1, g2, l0, hdlen, hw1, hlt]
    refine new (by rw [hm0]; rfl) _ ?_ ?_ ?_
    · exact g0
    · exact g1
    · exact g2
  · rw [List.concat_eq_append] at hde
    subst hde
    obtain ⟨cd, c, hcd⟩ : ∃ cd c, m.done = cd ++ [c] := by
      rcases List.eq_nil_or_concat m.done with q | ⟨cd, c, q⟩
      · rw [q] at hdl; simp at hdl
      · exact ⟨cd, c, by rw [q, List.concat_eq_append]⟩
    have hicl : (ei ++ [el]).length = ei.length + 1 := by rw [List.length_append]; rfl
    have hw1' : IntKind.i64.wrap (((ei ++ [el]).length : Int) - 1) = ((ei.length : Nat) : Int) := by rw [hw1]; omega
    have hge : ((ei.length : Nat) : Int) ≥ 0 := by omega
    obtain ⟨i, q1, q2, q3, H1, q4, q5, q6, q7⟩ := grow_done hw h hcd (c.n + n)
    obtain ⟨o, ho1, ho2, ho3⟩ := q3
    have ho3 := ho3.here
    have l1 := q2.ld (j := 0) (v := .int .u8 o.kind) (by rw [ho1]; rfl) 1
    have l4 := q2.ld (j := 4) (v := o.patch) (by rw [ho1]; rfl) 1
    have ln := q2.ld (j := 1) (v := .int .i64 o.n) (by rw [ho1]; rfl) 1
    have hia := x_iax (H := H) (id := i) (n := (ei ++ [el]).length) (i := ei.length) (sz := 5) (by omega)
    rw [hicl, ← q1] at hia
    have hok' : o.kind = c.kind := by rw [← ho2]; rfl
    have hon : o.n = c.n := by rw [← ho2]; rfl
    have hoc : o.chs = c.chs := by rw [← ho2]; rfl
    have hgl : m.done.getLast? = some c := by rw [hcd]; simp
    have nw : isRetain c ps = false → ∀ fr : Fr, fr.get 0 = some (.ptr p 0) → fr.get 1 = some (.int .i64 n) → fr.get 2 = some pv → wpC (SCalls PP) retNew fr H (kend [] R) := fun hr => new (by rw [retainDone, hgl]; simp [hr])
    by_cases hk : c.kind = 1
    · simp (maxSteps := 1000000) (implicitDefEqProofs := false) only [stp, if_true, if_false, Int.reduceEq, Int.reduceLT, Int.reduceLE, Int.reduceGT, Int.reduceGE, reduceCtorEq, Nat.reduceEqDiff, List.getElem?_cons_zero, List.getElem?_cons_succ, Option.map_some, retTail, g0, g1, g2, l0, hdlen, hw1', hge, hia, l1, hok', hk, l4]
      refine SCalls.mono (patchSame_calls ho3.patch hpv (by rw [hoc]; exact ho2 ▸ ho3.cl)) ?_
      rintro r H' ⟨rfl, rfl⟩
      rw [hoc]
      cases heq : listEq chgEq c.chs ps with
      | false =>
        simp (maxSteps := 1000000) (implicitDefEqProofs := false) only [stp, if_true, if_false, Int.reduceEq, Int.reduceLT, Int.reduceLE, Int.reduceGT, Int.reduceGE, reduceCtorEq, Nat.reduceEqDiff, List.getElem?_cons_zero, List.getElem?_cons_succ, Option.map_some, heq]
        refine nw (by simp [isRetain, heq]) _ ?_ ?_ ?_
        · exact g0
        · exact g1
        · exact g2
      | true =>
        have hrd : retainDone m.done n ps = cd ++ [⟨c.kind, IntKind.i64.wrap (c.n + n), c.rs, c.ats, c.chs⟩] := by
          rw [retainDone, hgl]
          simp only [isRetain, hk, heq, decide_true, Bool.and_self, if_true]
          rw [hcd, List.dropLast_concat]
        simp (maxSteps := 1000000) (implicitDefEqProofs := false) only [stp, if_true, if_false, Int.reduceEq, Int.reduceLT, Int.reduceLE, Int.reduceGT, Int.reduceGE, reduceCtorEq, Nat.reduceEqDiff, List.getElem?_cons_zero, List.getElem?_cons_succ, Option.map_some, heq, g0, g1, l0, hia, ln, hon, q4]
        exact hR _ M (by rw [hrd]; exact q5) q6 (MGrow.refl M _) q7 _
    · simp (maxSteps := 1000000) (implicitDefEqProofs := false) only [stp, if_true, if_false, Int.reduceEq, Int.reduceLT, Int.reduceLE, Int.reduceGT, Int.reduceGE, reduceCtorEq, Nat.reduceEqDiff, List.getElem?_cons_zero, List.getElem?_cons_succ, Option.map_some, retTail, g0, g1, g2, l0, hdlen, hw1', hge, hia, l1, hok', hk]
      refine nw (by simp [isRetain, hk]) _ ?_ ?_ ?_
      · exact g0
      · exact g1
      · exact g2

set_option maxRecDepth 20000 in
set_option maxHeartbeats 4000000 in
theorem retain_calls {H : Heap} {M : Nat → Prop} {p : Nat} {m : MkC} (h : MkI H M p m) {pv : V} {ps : List ChgA} {n : Int} (hpv : Fz M H fun H' => SL H' pv 6 (ps.map ChgA.cells)) (hok : OpC.Ok ⟨1, n, [], [], ps⟩) (hl : m.done.length + m.ins.length + 3 ≤ big) (hgo : m.gone ≤ 9223372036854775807) :
    SCalls PP 51 [.ptr p 0, .int .i64 n, pv] H fun _ H' => ∃ M', MkI H' M' p (m.retain n ps) ∧ ExtM M H H' ∧ MGrow M M' H ∧ WF H' := by
  refine SCalls.go c51' (by simp [fn51']) fun hw => ?_
  obtain ⟨dv, iv, dcs, ics, dk, ik, rk, h⟩ := h
  unfold big at hl
  have hnp : exec (.eqnil 0 false) [.ptr p 0, .nilp] H = some (.bool false, H) := rfl
  by_cases hn1 : n < 1
  · simp (maxSteps := 1000000) (implicitDefEqProofs := false) only [stp, if_true, if_false, Int.reduceEq, Int.reduceLT, Int.reduceLE, Int.reduceGT, Int.reduceGE, reduceCtorEq, Nat.reduceEqDiff, List.getElem?_cons_zero, List.getElem?_cons_succ, Option.map_some, fn51', enterFr, List.length, List.range, List.range.loop, List.zip, List.zipWith, hnp, hn1]
    exact ⟨M, by simpa [MkC.retain, hn1] using ⟨dv, iv, dcs, ics, dk, ik, rk, h⟩, ExtM.refl M H, MGrow.refl M H, hw⟩
  have hil := h.ins.len
  have hdl := h.done.length
  have hdc : (delC m.gone).length ≤ 1 := by unfold delC; split <;> simp
  have l0 := h.at3.ld (j := 0) (v := dv) rfl 1
  simp (maxSteps := 1000000) (implicitDefEqProofs := false) only [stp, if_true, if_false, Int.reduceEq, Int.reduceLT, Int.reduceLE, Int.reduceGT, Int.reduceGE, reduceCtorEq, Nat.reduceEqDiff, List.getElem?_cons_zero, List.getElem?_cons_succ, Option.map_some, fn51', enterFr, List.length, List.range, List.range.loop, List.zip, List.zipWith, hnp, hn1, l0]
  refine ⟨?_, ?_⟩
  all_goals
    refine SCalls.mono (gap_calls h (by unfold big; omega)) ?_
    rintro r G ⟨hx, hwG, k, hv, hk, hk0⟩
    have l0' := (h.at3.ext hx).ld (j := 0) (v := dv) rfl 1
    obtain ⟨dv', dk', H1, H2, H3, H4, M', e1, e2, e3, e4, e5, e6, e7, e8⟩ := flush h hx hwG hv rfl (by rw [List.length_append]; unfold big; omega) hgo
    simp (maxSteps := 1000000) (implicitDefEqProofs := false) only [stp, if_true, if_false, Int.reduceEq, Int.reduceLT, Int.reduceLE, Int.reduceGT, Int.reduceGE, reduceCtorEq, Nat.reduceEqDiff, List.getElem?_cons_zero, List.getElem?_cons_succ, Option.map_some, l0', e1, e2, e3, e4]
    refine retTail_ok e8 e5 rfl (hpv _ e6) hok (by rw [List.length_append, List.length_append]; unfold big; omega) (fun H' M2 q1 q2 q3 q4 v => ?_) rfl rfl rfl
    obtain ⟨r1, r2⟩ := MkI.trans e6 e7 q2 q3
    refine ⟨M2, ?_, r1, r2, q4⟩
    rw [MkC.retain, if_neg hn1]
    exact q1
end Go.Proofs.YtbadbkdpnbacnaaDoor.Fw

