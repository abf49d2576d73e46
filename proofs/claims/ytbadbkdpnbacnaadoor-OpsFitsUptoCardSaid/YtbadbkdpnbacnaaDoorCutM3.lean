/- Part 3 of the proof. A delta that may be, cut in two anywhere, is two that may be, and they take and make together what it does (OpsCut). The one condition: the arguments hold together at most 2^20 data, as the statement's own bound says. -/
import Derived.Test.YtbadbkdpnbacnaaDoorCutM2

/- What functions of the program answer: DeleteFunc on attributes. No condition. -/
namespace Go.Proofs.YtbadbkdpnbacnaaDoor.Fw
open Go
set_option linter.unusedSimpArgs false
set_option linter.unusedVariables false

theorem x_bbin (n a b : Bool) (H : Heap) : exec (.bbin n) [.bool a, .bool b] H = some (.bool ((a == b) != n), H) := rfl
/-- Whether a part leaves an attribute out. -/
def outA (ks : List KeyA) (block : Bool) (a : AttrA) : Bool := !(findK ks a.key).isSome || (((findK ks a.key).getD zeroK).block != block)
theorem part1_calls {s : V} {H : Heap} {ks : List KeyA} {p1 p2 : Nat} {b : Bool} (hs : Sch H s ks) (h1 : At H p1 0 [s]) (h2 : At H p2 0 [.bool b]) (a : AttrA) :
    SCalls PP 61 [.agg a.cells, .ptr p1 0, .ptr p2 0] H fun r H' => H' = H ∧ r = .bool (outA ks b a) := by
  refine SCalls.keep (R := fun r => r = .bool (outA ks b a)) (SCalls.go c61 (by simp [fn61]) fun hw => ?_)
  obtain ⟨H2, hx2, hw2, ha2, hbx⟩ := x_boxed (Ext.refl H) hw (e := a.cells) rfl
  have l0 := ha2.ld (j := 0) (v := .int .i64 a.key) rfl 1
  have ls := (h1.ext hx2).ld (j := 0) (v := s) rfl 1
  rw [Nat.add_zero] at ls
  simp only [fn61, enterFr, List.length, List.range, List.range.loop, List.zip, List.zipWith, stp, if_true, if_false, Int.reduceEq, Int.reduceLT, Int.reduceLE, Int.reduceGT, Int.reduceGE, reduceCtorEq, Nat.reduceEqDiff, List.getElem?_cons_zero, List.getElem?_cons_succ, Option.map_some, hbx, l0, ls]
  refine SCalls.mono (find_calls (hs.ext hx2) a.key) ?_
  rintro r H3 ⟨rfl, rfl⟩
  obtain ⟨H4, hx4, hw4, ha4, hal, hst⟩ := x_copy (Ext.refl H3) hw2 (z := zk) (e := foundC ks a.key) (n := 6) rfl rfl rfl rfl
  have k1 := ha4.ld (j := 1) (v := .bool ((findK ks a.key).getD zeroK).block) rfl 1
  have lb := (h2.ext (hx2.trans hx4)).ld (j := 0) (v := .bool b) rfl 1
  rw [Nat.add_zero] at lb
  cases hf : (findK ks a.key).isSome with
  | false =>
    simp only [stp, if_true, if_false, Int.reduceEq, Int.reduceLT, Int.reduceLE, Int.reduceGT, Int.reduceGE, reduceCtorEq, Nat.reduceEqDiff, List.getElem?_cons_zero, List.getElem?_cons_succ, Option.map_some, hal, hst, hf]
    exact ⟨hx2.trans hx4, by simp [outA, hf], rfl⟩
  | true =>
    simp only [stp, if_true, if_false, Int.reduceEq, Int.reduceLT, Int.reduceLE, Int.reduceGT, Int.reduceGE, reduceCtorEq, Nat.reduceEqDiff, List.getElem?_cons_zero, List.getElem?_cons_succ, Option.map_some, hal, hst, hf, k1, lb, x_bbin]
    refine ⟨hx2.trans hx4, ?_, rfl⟩
    simp only [outA, hf, Bool.not_true, Bool.false_or, Bool.false_eq_true, if_false]
    cases ((findK ks a.key).getD zeroK).block <;> cases b <;> rfl

def idxF (d : AttrA → Bool) : Nat → List AttrA → Int
  | _, [] => -1
  | k, a :: l => if d a then k else idxF d (k + 1) l
theorem indexFuncA_calls {x c1 c2 : V} {H : Heap} {l : List AttrA} {d : AttrA → Bool} (hx : SL H x 5 (l.map AttrA.cells)) (hl : l.length ≤ big)
    (hd : ∀ a ∈ l, SCalls PP 61 [.agg a.cells, c1, c2] H fun r H' => H' = H ∧ r = .bool (d a)) :
    SCalls PP 87 [x, .fn (.func 61) [] [c1, c2]] H fun r H' => H' = H ∧ r = .int .i64 (idxF d 0 l) := by
  refine SCalls.keep (R := fun r => r = .int .i64 (idxF d 0 l)) (SCalls.go c87 (by simp [fn87]) fun hw => ?_)
  unfold big at hl
  simp only [fn87, enterFr, List.length, List.range, List.range.loop, List.zip, List.zipWith, stp, if_true, if_false, Int.reduceEq, Int.reduceLT, Int.reduceLE, Int.reduceGT, Int.reduceGE, reduceCtorEq, Nat.reduceEqDiff, List.getElem?_cons_zero, List.getElem?_cons_succ, Option.map_some, hx.len]
  refine wp_range SCalls.scMono (by simp only [List.length_map]; omega) (fun _ : Unit => [(0, x), (1, .fn (.func 61) [] [c1, c2])]) (fun k _ H' => idxF d k (l.drop k) = idxF d 0 l ∧ H' = H) () ⟨rfl, rfl⟩
    (.cons rfl (.cons rfl (.cons rfl (.cons rfl .nil)))) (by decide) (fun s => ⟨rfl, rfl, rfl⟩) ?_ ?_
  · rintro k _ H' hk ⟨hacc, rfl⟩
    rw [List.length_map] at hk
    obtain ⟨id, p, hia, hat⟩ := hx.ia (H' := H') (i := k) (e := l[k].cells) (by simp [hk]) .i64
    rw [List.drop_eq_getElem_cons hk] at hacc
    simp only [idxF] at hacc
    simp only [stp, if_true, if_false, Int.reduceEq, Int.reduceLT, Int.reduceLE, Int.reduceGT, Int.reduceGE, reduceCtorEq, Nat.reduceEqDiff, List.getElem?_cons_zero, List.getElem?_cons_succ, Option.map_some, hia, hat.lda (n := 5) rfl, List.nil_append, List.cons_append]
    refine SCalls.mono (hd l[k] (List.getElem_mem hk)) ?_
    rintro v H2 ⟨rfl, rfl⟩
    cases hr : d l[k] with
    | false =>
      rw [hr, if_neg (by simp)] at hacc
      simp only [stp, if_true, if_false, Int.reduceEq, Int.reduceLT, Int.reduceLE, Int.reduceGT, Int.reduceGE, reduceCtorEq, Nat.reduceEqDiff, List.getElem?_cons_zero, List.getElem?_cons_succ, Option.map_some, hr]
      exact ⟨(), ⟨hacc, by trivial⟩, .cons rfl (.cons rfl (.cons rfl (.cons rfl .nil)))⟩
    | true =>
      rw [hr, if_pos rfl] at hacc
      simp only [stp, if_true, if_false, Int.reduceEq, Int.reduceLT, Int.reduceLE, Int.reduceGT, Int.reduceGE, reduceCtorEq, Nat.reduceEqDiff, List.getElem?_cons_zero, List.getElem?_cons_succ, Option.map_some, hr]
      exact ⟨Ext.refl _, congrArg (V.int .i64) hacc, rfl⟩
  · rintro _ H' ⟨hacc, rfl⟩
    simp only [stp, if_true, if_false, Int.reduceEq, Int.reduceLT, Int.reduceLE, Int.reduceGT, Int.reduceGE, reduceCtorEq, Nat.reduceEqDiff, List.getElem?_cons_zero, List.getElem?_cons_succ, Option.map_some]
    rw [List.length_map, List.drop_length] at hacc
    exact ⟨Ext.refl _, congrArg (V.int .i64) hacc, rfl⟩

def keepN (d : AttrA → Bool) : List AttrA → Nat
  | [] => 0
  | a :: l => (if d a then 0 else 1) + keepN d l
theorem idx_keep (d : AttrA → Bool) : ∀ (l : List AttrA) (k : Nat), (idxF d k l = -1 ∧ keepN d l = l.length) ∨ ∃ i, idxF d k l = ((k + i : Nat) : Int) ∧ i < l.length ∧ keepN d l = i + keepN d (l.drop (i + 1))
  | [], k => .inl ⟨rfl, rfl⟩
  | a :: l, k => by
    cases ha : d a with
    | true => exact .inr ⟨0, by simp [idxF, ha], by simp, by simp [keepN, ha]⟩
    | false =>
      rcases idx_keep d l (k + 1) with ⟨h1, h2⟩ | ⟨i, h1, h2, h3⟩
      · exact .inl ⟨by simp [idxF, ha, h1], by simp [keepN, ha, h2]; omega⟩
      · exact .inr ⟨i + 1, by simp [idxF, ha, h1]; omega, by simp; omega, by simp [keepN, ha, h3]; omega⟩

theorem set_flat {sz : Nat} : ∀ {es : List (List V)} (_ : ∀ e ∈ es, e.length = sz) {i : Nat} {e : List V}, i < es.length → e.length = sz → splice es.flatten (i * sz) e = (es.set i e).flatten
  | [], h, i, e, hi, he => by simp at hi
  | x :: es, h, 0, e, hi, he => by
    have hx := h x (by simp)
    simp only [splice, Nat.zero_mul, List.take_zero, List.nil_append, Nat.zero_add, List.flatten_cons, List.set_cons_zero]
    rw [List.drop_append_of_le_length (by omega), List.drop_of_length_le (by omega)]
    rfl
  | x :: es, h, i + 1, e, hi, he => by
    have hx := h x (by simp)
    have ih := set_flat (es := es) (fun y hy => h y (List.mem_cons_of_mem _ hy)) (i := i) (e := e) (by simpa using hi) he
    rw [List.set_cons_succ, show (x :: es.set i e).flatten = x ++ (es.set i e).flatten from List.flatten_cons, ← ih]
    simp only [splice, List.flatten_cons]
    have e1 : (i + 1) * sz = x.length + i * sz := by rw [Nat.add_mul, hx]; omega
    rw [e1, List.take_append, List.take_of_length_le (by omega), show x.length + i * sz + e.length = x.length + (i * sz + e.length) by omega, List.drop_append, List.drop_of_length_le (l := x) (by omega)]
    simp [List.append_assoc]

theorem Own.store {H : Heap} {id sz : Nat} {es : List (List V)} (h : Own H id sz es) {i : Nat} (hi : i < es.length) {e : List V} (he : e.length = sz) (ho : e.all V.one = true) :
    ∃ H', exec (.st sz) [.ptr id (0 + i * sz), .agg e] H = some (.undef, H') ∧ H' = H.set id (.row false sz (es.set i e).flatten) ∧ Own H' id sz (es.set i e) := by
  refine ⟨_, ?_, rfl, h.lt, set_get' _ _ _, fun y hy => ?_⟩
  · have hf := flatLen fun e he => (h.len e he).1
    have : (i + 1) * sz ≤ es.length * sz := Nat.mul_le_mul_right _ (by omega)
    rw [Nat.add_mul] at this
    have hwr : writeAt H id (0 + i * sz) e = some (H.set id (.row false sz (es.set i e).flatten)) := by
      unfold writeAt
      rw [h.get]
      simp only
      rw [if_pos ⟨by omega, ho⟩, Nat.zero_add, set_flat (fun e he => (h.len e he).1) hi he]
    show (if e.length = sz then (writeAt H id (0 + i * sz) e).map (V.undef, ·) else none) = _
    rw [if_pos he, hwr]
    rfl
  · rcases List.mem_or_eq_of_mem_set hy with hy | rfl
    · exact h.len y hy
    · exact ⟨he, ho⟩

theorem flatRep {sz : Nat} {z : List V} (hz : z.length = sz) (n : Nat) : (List.replicate n z).flatten.length = n * sz := by
  rw [flatLen (sz := sz) fun e he => by rw [List.eq_of_mem_replicate he]; exact hz, List.length_replicate]

theorem Own.ext {H H' : Heap} {id sz : Nat} {es : List (List V)} (h : Own H id sz es) (k : Ext H H') : Own H' id sz es :=
  ⟨Nat.lt_of_lt_of_le h.lt k.next, by rw [k.get id h.lt]; exact h.get, h.len⟩
theorem x_iax {H : Heap} {id n i sz : Nat} (hi : i < n) : exec (.ia sz) [.slice id 0 n none, .int .i64 i] H = some (.ptr id (0 + i * sz), H) := by
  simp only [exec]
  rw [if_pos ⟨by omega, by omega⟩]
  rfl
theorem x_slc_lo {H : Heap} {id n i sz : Nat} {cells : List V} (hg : H.get id = some (.row false sz cells)) (hi : i ≤ n) : exec (.slc sz true false false) [.slice id 0 n none, .int .i64 i] H = some (.slice id (0 + i * sz) (n - i) none, H) := by
  have hb : bounds3 true false false n ((none : Option Nat).getD n) [V.int .i64 i] = some (i, n, n) := by
    simp [bounds3, natV]
  simp only [exec, hb]
  rw [if_pos ⟨hi, Nat.le_refl _, Nat.le_refl _, by simp [slcOk, hg]⟩]
theorem x_slc_hi {H : Heap} {id n i sz : Nat} {cells : List V} (hg : H.get id = some (.row false sz cells)) (hi : i ≤ n) : exec (.slc sz false true false) [.slice id 0 n none, .int .i64 i] H = some (.slice id (0 + 0 * sz) (i - 0) none, H) := by
  have hb : bounds3 false true false n ((none : Option Nat).getD n) [V.int .i64 i] = some (0, i, n) := by
    simp [bounds3, natV]
  simp only [exec, hb]
  rw [if_pos ⟨Nat.zero_le _, hi, Nat.le_refl _, by simp [slcOk, hg]⟩]
theorem x_clear {H : Heap} {id off m sz : Nat} {cells z : List V} (hg : H.get id = some (.row false sz cells)) (hz : z.length = sz) (hzo : z.all V.one = true) (hm : off + m * sz ≤ cells.length) :
    ∃ H', exec (.clear z) [.slice id off m none] H = some (.undef, H') ∧ (H' = H ∨ ∃ cs, H' = H.set id (.row false sz cs)) := by
  cases m with
  | zero => exact ⟨H, rfl, .inl rfl⟩
  | succ m =>
    refine ⟨H.set id (.row false sz (splice cells off (List.replicate (m + 1) z).flatten)), ?_, .inr ⟨_, rfl⟩⟩
    show (writeAt H id off (List.replicate (m + 1) z).flatten).map (V.undef, ·) = _
    unfold writeAt
    rw [hg]
    simp only
    rw [if_pos ⟨by rw [flatRep hz]; exact hm, flatAll fun e he => by rw [List.eq_of_mem_replicate he]; exact hzo⟩]
    rfl

set_option maxRecDepth 20000 in
set_option maxHeartbeats 1000000 in
theorem deleteFunc_calls {x c1 c2 : V} {G H : Heap} {l : List AttrA} {d : AttrA → Bool} (hG : Ext G H) (hwf : WF H) (hl : l.length ≤ big)
    (hx : (l = [] ∧ SL H x 5 (l.map AttrA.cells)) ∨ ∃ id, x = .slice id 0 (l.map AttrA.cells).length none ∧ G.next ≤ id ∧ Own H id 5 (l.map AttrA.cells))
    (hd : ∀ H', Ext G H' → ∀ a ∈ l, SCalls PP 61 [.agg a.cells, c1, c2] H' fun r H'' => H'' = H' ∧ r = .bool (d a)) :
    SCalls PP 59 [x, .fn (.func 61) [] [c1, c2]] H fun r H' => Ext G H' ∧ WF H' ∧ ∀ H'', exec .len [r] H'' = some (.int .i64 (keepN d l), H'') := by
  have hsl : SL H x 5 (l.map AttrA.cells) := by
    rcases hx with ⟨_, h⟩ | ⟨id, rfl, _, ho⟩
    · exact h
    · exact ho.sl none
  refine SCalls.go c59 (by simp [fn59]) fun hw => ?_
  simp only [fn59, enterFr, List.length, List.range, List.range.loop, List.zip, List.zipWith, stp, if_true, if_false, Int.reduceEq, Int.reduceLT, Int.reduceLE, Int.reduceGT, Int.reduceGE, reduceCtorEq, Nat.reduceEqDiff, List.getElem?_cons_zero, List.getElem?_cons_succ, Option.map_some]
  refine SCalls.mono (indexFuncA_calls hsl hl (hd H hG)) ?_
  rintro r H1 ⟨rfl, rfl⟩
  rcases idx_keep d l 0 with ⟨h1, h2⟩ | ⟨i0, h1, h2, h3⟩
  · simp only [stp, if_true, if_false, Int.reduceEq, Int.reduceLT, Int.reduceLE, Int.reduceGT, Int.reduceGE, reduceCtorEq, Nat.reduceEqDiff, List.getElem?_cons_zero, List.getElem?_cons_succ, Option.map_some, h1]
    refine ⟨hG, hwf, fun H'' => ?_⟩
    rw [hsl.len, List.length_map, h2]
  · rcases hx with ⟨rfl, _⟩ | ⟨id, rfl, hid, ho⟩
    · simp at h2
    unfold big at hl
    have hne : ¬ (((0 + i0 : Nat) : Int) = -1) := by omega
    have hw1 : IntKind.i64.wrap (((0 + i0 : Nat) : Int) + 1) = ((i0 + 1 : Nat) : Int) := by rw [wrap_i64 (by omega) (by omega)]; omega
    simp only [stp, if_true, if_false, Int.reduceEq, Int.reduceLT, Int.reduceLE, Int.reduceGT, Int.reduceGE, reduceCtorEq, Nat.reduceEqDiff, List.getElem?_cons_zero, List.getElem?_cons_succ, Option.map_some, h1, hne, hw1, Bool.false_eq_true]
    have hnl : (l.map AttrA.cells).length = l.length := List.length_map ..
    rw [hnl]
    refine wp_loopI (fun m fr H' => ∃ (j i : Nat) (cur : List (List V)), m = l.length - j ∧ j ≤ l.length ∧ i < j ∧ cur.length = l.length ∧ Own H' id 5 cur ∧ (∀ q, j ≤ q → cur[q]? = (l.map AttrA.cells)[q]?) ∧ keepN d l = i + keepN d (l.drop j) ∧ Ext G H' ∧ WF H' ∧
      FrSub [(5, .int .i64 i), (6, .int .i64 j), (0, .slice id 0 l.length none), (1, .fn (.func 61) [] [c1, c2])] fr) (l.length - (i0 + 1))
      ⟨i0 + 1, 0 + i0, l.map AttrA.cells, rfl, by omega, by omega, hnl, ho, fun q _ => rfl, by omega, hG, hwf, .cons rfl (.cons rfl (.cons rfl (.cons rfl .nil)))⟩ ?_
    rintro m fr H' ⟨j, i, cur, rfl, hj, hij, hcl, hown, hcur, hkeep, hext, hwf', hsub⟩
    refine ⟨_, hsub, ?_⟩
    have hlen : exec .len [.slice id 0 l.length none] H' = some (.int .i64 l.length, H') := rfl
    by_cases hlt : j < l.length
    · have hlt' : (j : Int) < (l.length : Int) := by omega
      have hsl' := hown.sl none
      rw [hcl] at hsl'
      have hcj : cur[j]? = some l[j].cells := by rw [hcur j (Nat.le_refl _)]; simp [hlt]
      have hia := x_iax (H := H') (id := id) (n := l.length) (sz := 5) hlt
      obtain ⟨_, _, hia2, hat⟩ := hsl'.ia (H' := H') hcj .i64
      rw [hia] at hia2
      cases hia2
      obtain ⟨H2, hx2, hw2, ha2, hal, hst⟩ := x_copy (Ext.refl H') hwf' (z := [V.int .i64 0, .int .u8 0, .int .i64 0, .int .u64 0, .str ⟨#[]⟩]) (e := l[j].cells) (n := 5) rfl rfl rfl rfl
      have la := ha2.lda (n := 5) rfl
      have hown2 := hown.ext hx2
      have hGx := hext.trans hx2
      have hwj : IntKind.i64.wrap ((j : Int) + 1) = ((j + 1 : Nat) : Int) := by rw [wrap_i64 (by omega) (by omega)]; omega
      have hwi : IntKind.i64.wrap ((i : Int) + 1) = ((i + 1 : Nat) : Int) := by rw [wrap_i64 (by omega) (by omega)]; omega
      rw [List.drop_eq_getElem_cons hlt] at hkeep
      simp only [keepN] at hkeep
      simp only [stp, if_true, if_false, Int.reduceEq, Int.reduceLT, Int.reduceLE, Int.reduceGT, Int.reduceGE, reduceCtorEq, Nat.reduceEqDiff, List.getElem?_cons_zero, List.getElem?_cons_succ, Option.map_some, hlen, hlt', hia, hat.lda (n := 5) rfl, hal, hst, la, List.nil_append, List.cons_append]
      refine SCalls.mono (hd H2 hGx l[j] (List.getElem_mem hlt)) ?_
      rintro r H3 ⟨rfl, rfl⟩
      cases hr : d l[j] with
      | true =>
        rw [hr, if_pos rfl] at hkeep
        simp only [stp, if_true, if_false, Int.reduceEq, Int.reduceLT, Int.reduceLE, Int.reduceGT, Int.reduceGE, reduceCtorEq, Nat.reduceEqDiff, List.getElem?_cons_zero, List.getElem?_cons_succ, Option.map_some, hr, hwj]
        exact ⟨l.length - (j + 1), by omega, j + 1, i, cur, rfl, by omega, by omega, hcl, hown2, fun q hq => hcur q (by omega), by omega, hGx, hw2, .cons rfl (.cons rfl (.cons rfl (.cons rfl .nil)))⟩
      | false =>
        rw [hr, if_neg (by simp)] at hkeep
        have hii := x_iax (H := H3) (id := id) (n := l.length) (sz := 5) (i := i) (by omega)
        obtain ⟨H4, hst4, rfl, hown4⟩ := hown2.store (i := i) (by omega) (e := l[j].cells) rfl rfl
        simp only [stp, if_true, if_false, Int.reduceEq, Int.reduceLT, Int.reduceLE, Int.reduceGT, Int.reduceGE, reduceCtorEq, Nat.reduceEqDiff, List.getElem?_cons_zero, List.getElem?_cons_succ, Option.map_some, hr, la, hii, hst4, hwj, hwi]
        exact ⟨l.length - (j + 1), by omega, j + 1, i + 1, _, rfl, by omega, by omega, by rw [List.length_set]; exact hcl, hown4, fun q hq => by rw [List.getElem?_set_ne (by omega)]; exact hcur q (by omega), by omega, hGx.set hid _, hw2.set hown2.get _, .cons rfl (.cons rfl (.cons rfl (.cons rfl .nil)))⟩
    · have hlt' : ¬ (j : Int) < (l.length : Int) := by omega
      obtain rfl : j = l.length := by omega
      rw [List.drop_length] at hkeep
      simp only [keepN] at hkeep
      have hlo := x_slc_lo (H := H') (n := l.length) (i := i) hown.get (by omega)
      have hfl := flatLen fun e he => (hown.len e he).1
      obtain ⟨H2, hcl2, hH2⟩ := x_clear (H := H') (off := 0 + i * 5) (m := l.length - i) (z := [V.int .i64 0, .int .u8 0, .int .i64 0, .int .u64 0, .str ⟨#[]⟩]) hown.get rfl rfl (by rw [hfl, hcl]; omega)
      have hg2 : ∃ cs, H2.get id = some (.row false 5 cs) := by
        rcases hH2 with rfl | ⟨cs, rfl⟩
        · exact ⟨_, hown.get⟩
        · exact ⟨cs, set_get' _ _ _⟩
      obtain ⟨cs, hg2⟩ := hg2
      have hxx : Ext G H2 ∧ WF H2 := by
        rcases hH2 with rfl | ⟨cs, rfl⟩
        · exact ⟨hext, hwf'⟩
        · exact ⟨hext.set hid _, hwf'.set hown.get _⟩
      have hhi := x_slc_hi (H := H2) (n := l.length) (i := i) hg2 (by omega)
      simp only [stp, if_true, if_false, Int.reduceEq, Int.reduceLT, Int.reduceLE, Int.reduceGT, Int.reduceGE, reduceCtorEq, Nat.reduceEqDiff, List.getElem?_cons_zero, List.getElem?_cons_succ, Option.map_some, hlen, hlt', hlo, hcl2, hhi]
      exact ⟨hxx.1, hxx.2, fun H'' => by rw [show keepN d l = i - 0 by omega]; rfl⟩
end Go.Proofs.YtbadbkdpnbacnaaDoor.Fw

/- What functions of the program answer: whether inserts are in place. No condition. -/
namespace Go.Proofs.YtbadbkdpnbacnaaDoor.Fw
open Go
set_option linter.unusedSimpArgs false
set_option linter.unusedVariables false

theorem part_calls {s x : V} {H : Heap} {ks : List KeyA} {l : List AttrA} (hs : Sch H s ks) (hx : SL H x 5 (l.map AttrA.cells)) (hl : l.length ≤ big) (b : Bool) :
    SCalls PP 32 [s, x, .bool b] H fun r H' => Ext H H' ∧ WF H' ∧ ∀ H'', exec .len [r] H'' = some (.int .i64 (keepN (outA ks b) l), H'') := by
  refine SCalls.go c32 (by simp [fn32]) fun hw => ?_
  have hso : s.one = true := by obtain ⟨p, sl, mid, rfl, _⟩ := hs.is; rfl
  have hsc : s.cells = [s] := by obtain ⟨p, sl, mid, rfl, _⟩ := hs.is; rfl
  have hb1 : exec .box [s] H = some (.ptr H.next 0, H.new (.row false 1 [s])) := by
    have := x_box H s (by rw [hsc]; simp [hso])
    rw [hsc] at this; exact this
  have hx1 : Ext H (H.new (.row false 1 [s])) := (Ext.refl H).new _
  have hw1 : WF (H.new (.row false 1 [s])) := hw.new _
  have ha1 : At (H.new (.row false 1 [s])) H.next 0 [s] := ⟨Nat.lt_succ_self _, false, 1, [s], new_get _ _, by simp, fun j v hj => by rw [Nat.zero_add]; exact hj⟩
  generalize hG : H.new (.row false 1 [s]) = G1 at *
  have hb2 : exec .box [.bool b] G1 = some (.ptr G1.next 0, G1.new (.row false 1 [.bool b])) := rfl
  have hx2 : Ext G1 (G1.new (.row false 1 [.bool b])) := (Ext.refl G1).new _
  have hw2 : WF (G1.new (.row false 1 [.bool b])) := hw1.new _
  have ha2 : At (G1.new (.row false 1 [.bool b])) G1.next 0 [.bool b] := ⟨Nat.lt_succ_self _, false, 1, [.bool b], new_get _ _, by simp, fun j v hj => by rw [Nat.zero_add]; exact hj⟩
  generalize hG2 : G1.new (.row false 1 [.bool b]) = G2 at *
  have hxx := hx1.trans hx2
  simp only [fn32, enterFr, List.length, List.range, List.range.loop, List.zip, List.zipWith, stp, if_true, if_false, Int.reduceEq, Int.reduceLT, Int.reduceLE, Int.reduceGT, Int.reduceGE, reduceCtorEq, Nat.reduceEqDiff, List.getElem?_cons_zero, List.getElem?_cons_succ, Option.map_some, hb1, hb2, hG, hG2]
  refine SCalls.mono (cloneA_calls (hx.ext hxx) (by rw [List.length_map]; exact hl)) ?_
  rintro r H3 ⟨hx3, hw3, hr⟩
  simp only [stp, if_true, if_false, Int.reduceEq, Int.reduceLT, Int.reduceLE, Int.reduceGT, Int.reduceGE, reduceCtorEq, Nat.reduceEqDiff, List.getElem?_cons_zero, List.getElem?_cons_succ, Option.map_some, List.take_zero, List.drop_zero]
  have hdel := deleteFunc_calls (x := r) (c1 := .ptr H.next 0) (c2 := .ptr G1.next 0) (G := G2) (H := H3) (l := l) (d := outA ks b) hx3 hw3 hl (by
    rcases hr with ⟨h1, h2⟩ | ⟨id, h1, h2, h3⟩
    · exact .inl ⟨List.map_eq_nil_iff.1 h1, h2⟩
    · exact .inr ⟨id, h1, h2, h3⟩) (fun H' hH' a _ => part1_calls ((hs.ext hxx).ext hH') ((ha1.ext hx2).ext hH') (ha2.ext hH') a)
  refine SCalls.mono hdel ?_
  rintro r2 H4 ⟨g1, g2, g3⟩
  simp only [stp, if_true, if_false, Int.reduceEq, Int.reduceLT, Int.reduceLE, Int.reduceGT, Int.reduceGE, reduceCtorEq, Nat.reduceEqDiff, List.getElem?_cons_zero, List.getElem?_cons_succ, Option.map_some]
  exact ⟨hxx.trans g1, g2, g3⟩

/-- Whether an op is in place. -/
def placeO (ks : List KeyA) (o : OpA) : Bool :=
  if o.kind ≠ 2 then true
  else if o.ats.length = 0 then true
  else !((decide (0 < keepN (outA ks true) o.ats) || decide (0 < nlF 0 o.rs)) && (decide (keepN (outA ks true) o.ats < o.ats.length) || decide (nlF 0 o.rs < o.rs.length)))
def placeF (ks : List KeyA) : List OpA → Bool
  | [] => true
  | o :: os => placeO ks o && placeF ks os

set_option maxRecDepth 20000 in
set_option maxHeartbeats 2000000 in
theorem inPlace_calls {s x : V} {H : Heap} {ks : List KeyA} {os : List OpA} (hs : Sch H s ks) (hx : OpsIn H x os) : SCalls PP 14 [s, x] H fun r H' => H' = H ∧ r = .bool (placeF ks os) := by
  refine SCalls.keep (R := fun r => r = .bool (placeF ks os)) (SCalls.go c14 (by simp [fn14]) fun hw => ?_)
  have hb := hx.len
  simp only [fn14, enterFr, List.length, List.range, List.range.loop, List.zip, List.zipWith, stp, if_true, if_false, Int.reduceEq, Int.reduceLT, Int.reduceLE, Int.reduceGT, Int.reduceGE, reduceCtorEq, Nat.reduceEqDiff, List.getElem?_cons_zero, List.getElem?_cons_succ, Option.map_some, hx.sl.len]
  refine wp_range SCalls.scMono (by simp only [List.length_map]; unfold big at hb; omega) (fun _ : Unit => [(9, x), (0, s)]) (fun k _ H' => placeF ks (os.drop k) = placeF ks os ∧ Ext H H' ∧ WF H') () ⟨rfl, Ext.refl H, hw⟩
    (.cons rfl (.cons rfl (.cons rfl (.cons rfl .nil)))) (by decide) (fun s => ⟨rfl, rfl, rfl⟩) ?_ ?_
  · rintro k _ H' hk ⟨hacc, hext, hwf⟩
    rw [List.length_map] at hk
    simp only [s_seq, s_region]
    refine wp_elem hx.sl hext hwf (k := k) (e := os[k].cells) (by simp [hk]) rfl rfl rfl rfl (by decide) fun q id o H2 hx2 hw2 ha2 _ => ?_
    have hin := (hx.ins _ (List.getElem_mem hk)).ext hx2
    have l0 := ha2.ld (j := 0) (v := .int .u8 os[k].kind) rfl 1
    have l2 := ha2.ld (j := 2) (v := os[k].runes) rfl 1
    have l3 := ha2.ld (j := 3) (v := os[k].set) rfl 1
    have n3 : ∀ H, exec .len [os[k].set] H = some (.int .i64 os[k].ats.length, H) := fun H => by have := hin.set.len (H' := H); rwa [List.length_map] at this
    have n2 : ∀ H, exec .len [os[k].runes] H = some (.int .i64 os[k].rs.length, H) := fun H => by have := hin.runes.len (H' := H); rwa [List.length_map] at this
    rw [List.drop_eq_getElem_cons hk] at hacc
    simp only [placeF] at hacc
    have stay : placeO ks os[k] = true → placeF ks (os.drop (k + 1)) = placeF ks os := fun h => by rw [h, Bool.true_and] at hacc; exact hacc
    have stop : placeO ks os[k] = false → false = placeF ks os := fun h => by rw [h, Bool.false_and] at hacc; exact hacc
    by_cases k2 : os[k].kind = 2
    · by_cases a0 : (os[k].ats.length : Int) = 0
      · have a0' : os[k].ats.length = 0 := by omega
        simp only [stp, if_true, if_false, Int.reduceEq, Int.reduceLT, Int.reduceLE, Int.reduceGT, Int.reduceGE, reduceCtorEq, Nat.reduceEqDiff, List.getElem?_cons_zero, List.getElem?_cons_succ, Option.map_some, l0, l3, n3, k2, a0, Bool.false_eq_true]
        exact ⟨(), ⟨stay (by simp [placeO, a0']), hx2, hw2⟩, .cons rfl (.cons rfl (.cons rfl (.cons rfl .nil)))⟩
      · have a0' : ¬ os[k].ats.length = 0 := by omega
        have hP : placeO ks os[k] = !((decide (0 < keepN (outA ks true) os[k].ats) || decide (0 < nlF 0 os[k].rs)) && (decide (keepN (outA ks true) os[k].ats < os[k].ats.length) || decide (nlF 0 os[k].rs < os[k].rs.length))) := by
          unfold placeO; rw [if_neg (by simp [k2]), if_neg a0']
        have tail : ∀ (H3 : Heap), Ext H H3 → WF H3 → Ext H2 H3 → True := fun _ _ _ _ => trivial
        simp only [stp, if_true, if_false, Int.reduceEq, Int.reduceLT, Int.reduceLE, Int.reduceGT, Int.reduceGE, reduceCtorEq, Nat.reduceEqDiff, List.getElem?_cons_zero, List.getElem?_cons_succ, Option.map_some, l0, l2, l3, n3, k2, a0, Bool.false_eq_true]
        constructor
        · refine SCalls.mono (part_calls (hs.ext hx2) hin.set hin.al true) ?_
          rintro r H3 ⟨g1, g2, g3⟩
          have hin3 := hin.ext g1
          have l23 := (ha2.ext g1).ld (j := 2) (v := os[k].runes) rfl 1
          have l33 := (ha2.ext g1).ld (j := 3) (v := os[k].set) rfl 1
          simp only [stp, if_true, if_false, Int.reduceEq, Int.reduceLT, Int.reduceLE, Int.reduceGT, Int.reduceGE, reduceCtorEq, Nat.reduceEqDiff, List.getElem?_cons_zero, List.getElem?_cons_succ, Option.map_some, g3, l23]
          refine SCalls.mono (newlines_calls hin3.runes hin.rl) ?_
          rintro r4 H4 ⟨rfl, rfl⟩
          generalize keepN (outA ks true) os[k].ats = kn at *
          generalize nlF 0 os[k].rs = nl at *
          by_cases p1 : (kn : Int) > 0 <;> by_cases p2 : nl > 0 <;> by_cases p3 : (kn : Int) < (os[k].ats.length : Int) <;> by_cases p4 : nl < (os[k].rs.length : Int)
          all_goals
            simp only [stp, if_true, if_false, Int.reduceEq, Int.reduceLT, Int.reduceLE, Int.reduceGT, Int.reduceGE, reduceCtorEq, Nat.reduceEqDiff, List.getElem?_cons_zero, List.getElem?_cons_succ, Option.map_some, p1, p2, p3, p4, l33, l23, n3, n2, Bool.false_eq_true]
            first
              | exact ⟨(), ⟨stay (by rw [hP]; simp; omega), hx2.trans g1, g2⟩, .cons rfl (.cons rfl (.cons rfl (.cons rfl .nil)))⟩
              | exact ⟨hx2.trans g1, congrArg V.bool (stop (by rw [hP]; simp; omega)), rfl⟩
        · refine SCalls.mono (part_calls (hs.ext hx2) hin.set hin.al true) ?_
          rintro r H3 ⟨g1, g2, g3⟩
          have hin3 := hin.ext g1
          have l23 := (ha2.ext g1).ld (j := 2) (v := os[k].runes) rfl 1
          have l33 := (ha2.ext g1).ld (j := 3) (v := os[k].set) rfl 1
          simp only [stp, if_true, if_false, Int.reduceEq, Int.reduceLT, Int.reduceLE, Int.reduceGT, Int.reduceGE, reduceCtorEq, Nat.reduceEqDiff, List.getElem?_cons_zero, List.getElem?_cons_succ, Option.map_some, g3, l23]
          refine SCalls.mono (newlines_calls hin3.runes hin.rl) ?_
          rintro r4 H4 ⟨rfl, rfl⟩
          generalize keepN (outA ks true) os[k].ats = kn at *
          generalize nlF 0 os[k].rs = nl at *
          by_cases p1 : (kn : Int) > 0 <;> by_cases p2 : nl > 0 <;> by_cases p3 : (kn : Int) < (os[k].ats.length : Int) <;> by_cases p4 : nl < (os[k].rs.length : Int)
          all_goals
            simp only [stp, if_true, if_false, Int.reduceEq, Int.reduceLT, Int.reduceLE, Int.reduceGT, Int.reduceGE, reduceCtorEq, Nat.reduceEqDiff, List.getElem?_cons_zero, List.getElem?_cons_succ, Option.map_some, p1, p2, p3, p4, l33, l23, n3, n2, Bool.false_eq_true]
            first
              | exact ⟨(), ⟨stay (by rw [hP]; simp; omega), hx2.trans g1, g2⟩, .cons rfl (.cons rfl (.cons rfl (.cons rfl .nil)))⟩
              | exact ⟨hx2.trans g1, congrArg V.bool (stop (by rw [hP]; simp; omega)), rfl⟩
    · simp only [stp, if_true, if_false, Int.reduceEq, Int.reduceLT, Int.reduceLE, Int.reduceGT, Int.reduceGE, reduceCtorEq, Nat.reduceEqDiff, List.getElem?_cons_zero, List.getElem?_cons_succ, Option.map_some, l0, k2, Bool.false_eq_true]
      exact ⟨(), ⟨stay (by simp [placeO, k2]), hx2, hw2⟩, .cons rfl (.cons rfl (.cons rfl (.cons rfl .nil)))⟩
  · rintro _ H' ⟨hacc, hext, hwf⟩
    simp only [stp, if_true, if_false, Int.reduceEq, Int.reduceLT, Int.reduceLE, Int.reduceGT, Int.reduceGE, reduceCtorEq, Nat.reduceEqDiff, List.getElem?_cons_zero, List.getElem?_cons_succ, Option.map_some]
    rw [List.length_map, List.drop_length] at hacc
    exact ⟨hext, congrArg V.bool hacc, rfl⟩
end Go.Proofs.YtbadbkdpnbacnaaDoor.Fw

/- What functions of the program answer: sizes (that they end, and leave all as it was). No condition. -/
namespace Go.Proofs.YtbadbkdpnbacnaaDoor.Fw
open Go
set_option linter.unusedSimpArgs false
set_option linter.unusedVariables false

set_option maxRecDepth 20000 in
set_option maxHeartbeats 2000000 in
theorem refSize_calls {x : V} {H : Heap} {os : List OpA} (hx : OpsIn H x os) : SCalls PP 23 [x] H fun r H' => H' = H ∧ ∃ n, r = .int .i64 n := by
  refine SCalls.go c23 (by simp [fn23]) fun hw => ?_
  have hb := hx.len
  unfold big at hb
  simp only [fn23, enterFr, List.length, List.range, List.range.loop, List.zip, List.zipWith, stp, if_true, if_false, Int.reduceEq, Int.reduceLT, Int.reduceLE, Int.reduceGT, Int.reduceGE, reduceCtorEq, Nat.reduceEqDiff, List.getElem?_cons_zero, List.getElem?_cons_succ, Option.map_some]
  refine wp_loopI (fun m fr H' => ∃ (k : Nat) (n : Int), k ≤ os.length ∧ m = os.length - k ∧ H' = H ∧ FrSub [(3, .int .i64 n), (4, .int .i64 k), (0, x)] fr) os.length ⟨0, 0, Nat.zero_le _, rfl, rfl, .cons rfl (.cons rfl (.cons rfl .nil))⟩ ?_
  rintro m fr H' ⟨k, n, hk, rfl, rfl, hsub⟩
  refine ⟨_, hsub, ?_⟩
  have hlen : exec .len [x] H' = some (.int .i64 os.length, H') := by have := hx.sl.len (H' := H'); rwa [List.length_map] at this
  by_cases hlt : k < os.length
  · have hlt' : (k : Int) < (os.length : Int) := by omega
    have hwk : IntKind.i64.wrap ((k : Int) + 1) = ((k + 1 : Nat) : Int) := by rw [wrap_i64 (by omega) (by omega)]; omega
    obtain ⟨id, o, hia, hat⟩ := hx.sl.ia (H' := H') (i := k) (e := os[k].cells) (by simp [hlt]) .i64
    have hin := hx.ins _ (List.getElem_mem hlt)
    have l2 := hat.ld (j := 2) (v := os[k].runes) rfl 1
    have l3 := hat.ld (j := 3) (v := os[k].set) rfl 1
    have l4 := hat.ld (j := 4) (v := os[k].patch) rfl 1
    have n2 : exec .len [os[k].runes] H' = some (.int .i64 os[k].rs.length, H') := by have := hin.runes.len (H' := H'); rwa [List.length_map] at this
    have n3 : exec .len [os[k].set] H' = some (.int .i64 os[k].ats.length, H') := by have := hin.set.len (H' := H'); rwa [List.length_map] at this
    have n4 : exec .len [os[k].patch] H' = some (.int .i64 os[k].chs.length, H') := by have := hin.patch.len (H' := H'); rwa [List.length_map] at this
    have hal := hin.al
    have hcl := hin.cl
    unfold big at hal hcl
    simp only [stp, if_true, if_false, Int.reduceEq, Int.reduceLT, Int.reduceLE, Int.reduceGT, Int.reduceGE, reduceCtorEq, Nat.reduceEqDiff, List.getElem?_cons_zero, List.getElem?_cons_succ, Option.map_some, hlen, hlt', hia, l2, l3, l4, n2, n3, n4]
    refine wp_loopI (fun m fr G => ∃ (j : Nat) (n : Int), j ≤ os[k].ats.length ∧ m = os[k].ats.length - j ∧ G = H' ∧ FrSub [(3, .int .i64 n), (5, .int .i64 j), (4, .int .i64 k), (0, x)] fr) os[k].ats.length ⟨0, _, Nat.zero_le _, rfl, rfl, .cons rfl (.cons rfl (.cons rfl (.cons rfl .nil)))⟩ ?_
    rintro m fr1 G ⟨j, n1, hj, rfl, rfl, hsub1⟩
    refine ⟨_, hsub1, ?_⟩
    by_cases hjl : j < os[k].ats.length
    · have hjl' : (j : Int) < (os[k].ats.length : Int) := by omega
      have hwj : IntKind.i64.wrap ((j : Int) + 1) = ((j + 1 : Nat) : Int) := by rw [wrap_i64 (by omega) (by omega)]; omega
      obtain ⟨id2, o2, hia2, hat2⟩ := hin.set.ia (H' := G) (i := j) (e := os[k].ats[j].cells) (by simp [hjl]) .i64
      have hat2v : At G id2 (o2 + 1) os[k].ats[j].val.cells := At.tail (a := [.int .i64 os[k].ats[j].key]) hat2
      have ls := hat2v.ld (j := 3) (v := .str os[k].ats[j].val.s) rfl 1
      simp only [stp, if_true, if_false, Int.reduceEq, Int.reduceLT, Int.reduceLE, Int.reduceGT, Int.reduceGE, reduceCtorEq, Nat.reduceEqDiff, List.getElem?_cons_zero, List.getElem?_cons_succ, Option.map_some, hia, l3, n3, hjl', hia2, ls, hwj]
      exact ⟨os[k].ats.length - (j + 1), by omega, j + 1, _, by omega, rfl, by trivial, .cons rfl (.cons rfl (.cons rfl (.cons rfl .nil)))⟩
    · have hjl' : ¬ (j : Int) < (os[k].ats.length : Int) := by omega
      simp only [stp, if_true, if_false, Int.reduceEq, Int.reduceLT, Int.reduceLE, Int.reduceGT, Int.reduceGE, reduceCtorEq, Nat.reduceEqDiff, List.getElem?_cons_zero, List.getElem?_cons_succ, Option.map_some, hia, l3, n3, hjl', Bool.false_eq_true]
      refine wp_loopI (fun m fr G2 => ∃ (j : Nat) (n : Int), j ≤ os[k].chs.length ∧ m = os[k].chs.length - j ∧ G2 = G ∧ FrSub [(3, .int .i64 n), (6, .int .i64 j), (4, .int .i64 k), (0, x)] fr) os[k].chs.length ⟨0, n1, Nat.zero_le _, rfl, rfl, .cons rfl (.cons rfl (.cons rfl (.cons rfl .nil)))⟩ ?_
      rintro m fr2 G2 ⟨j2, n2', hj2, rfl, rfl, hsub2⟩
      refine ⟨_, hsub2, ?_⟩
      by_cases hjl2 : j2 < os[k].chs.length
      · have hjl2' : (j2 : Int) < (os[k].chs.length : Int) := by omega
        have hwj : IntKind.i64.wrap ((j2 : Int) + 1) = ((j2 + 1 : Nat) : Int) := by rw [wrap_i64 (by omega) (by omega)]; omega
        obtain ⟨id2, o2, hia2, hat2⟩ := hin.patch.ia (H' := G2) (i := j2) (e := os[k].chs[j2].cells) (by simp [hjl2]) .i64
        have hat2v : At G2 id2 (o2 + 2) os[k].chs[j2].val.cells := At.tail (a := [.int .i64 os[k].chs[j2].key, .bool os[k].chs[j2].gone]) hat2
        have ls := hat2v.ld (j := 3) (v := .str os[k].chs[j2].val.s) rfl 1
        simp only [stp, if_true, if_false, Int.reduceEq, Int.reduceLT, Int.reduceLE, Int.reduceGT, Int.reduceGE, reduceCtorEq, Nat.reduceEqDiff, List.getElem?_cons_zero, List.getElem?_cons_succ, Option.map_some, hia, l4, n4, hjl2', hia2, ls, hwj]
        exact ⟨os[k].chs.length - (j2 + 1), by omega, j2 + 1, _, by omega, rfl, by trivial, .cons rfl (.cons rfl (.cons rfl (.cons rfl .nil)))⟩
      · have hjl2' : ¬ (j2 : Int) < (os[k].chs.length : Int) := by omega
        simp only [stp, if_true, if_false, Int.reduceEq, Int.reduceLT, Int.reduceLE, Int.reduceGT, Int.reduceGE, reduceCtorEq, Nat.reduceEqDiff, List.getElem?_cons_zero, List.getElem?_cons_succ, Option.map_some, hia, l4, n4, hjl2', hwk, Bool.false_eq_true]
        exact ⟨os.length - (k + 1), by omega, k + 1, n2', by omega, rfl, by trivial, .cons rfl (.cons rfl (.cons rfl .nil))⟩
  · have hlt' : ¬ (k : Int) < (os.length : Int) := by omega
    simp only [stp, if_true, if_false, Int.reduceEq, Int.reduceLT, Int.reduceLE, Int.reduceGT, Int.reduceGE, reduceCtorEq, Nat.reduceEqDiff, List.getElem?_cons_zero, List.getElem?_cons_succ, Option.map_some, hlen, hlt', Bool.false_eq_true]
    exact ⟨by trivial, n, by trivial⟩

set_option maxRecDepth 20000 in
/-- rubriclaw15.great over one delta. -/
theorem great1_calls {keys x y : V} {H : Heap} {os : List OpA} {ks : List (List V)} {szk : Nat} (hk : SL H keys szk ks) (hkl : ks.length ≤ big) (hx : OpsIn H x os) (hy : SL H y 1 [[x]]) : SCalls PP 7 [keys, y] H fun r H' => H' = H ∧ ∃ b, r = .bool b ∧ (b = false → ks.length ≤ 64) := by
  refine SCalls.go c7 (by simp [fn7]) fun hw => ?_
  unfold big at hkl
  have hwk : IntKind.i64.wrap ((ks.length : Int) - 64) = (ks.length : Int) - 64 := wrap_i64 (by omega) (by omega)
  by_cases h64 : (ks.length : Int) - 64 > 0
  · simp only [fn7, enterFr, List.length, List.range, List.range.loop, List.zip, List.zipWith, stp, if_true, if_false, Int.reduceEq, Int.reduceLT, Int.reduceLE, Int.reduceGT, Int.reduceGE, reduceCtorEq, Nat.reduceEqDiff, List.getElem?_cons_zero, List.getElem?_cons_succ, Option.map_some, hk.len, hwk, h64]
    exact ⟨by trivial, true, by trivial, by simp⟩
  · simp only [fn7, enterFr, List.length, List.range, List.range.loop, List.zip, List.zipWith, stp, if_true, if_false, Int.reduceEq, Int.reduceLT, Int.reduceLE, Int.reduceGT, Int.reduceGE, reduceCtorEq, Nat.reduceEqDiff, List.getElem?_cons_zero, List.getElem?_cons_succ, Option.map_some, hk.len, hwk, h64, Bool.false_eq_true, hy.len]
    refine wp_range SCalls.scMono (len := 1) (by omega) (fun n : Int => [(1, y), (5, .int .i64 n)]) (fun k n H' => H' = H) 0 rfl
      (.cons rfl (.cons rfl (.cons rfl (.cons rfl .nil)))) (by decide) (fun s => ⟨rfl, rfl, rfl⟩) ?_ ?_
    · rintro k n H' hk1 rfl
      obtain rfl : k = 0 := by omega
      obtain ⟨id, o, hia, hat⟩ := hy.ia (H' := H') (i := 0) (e := [x]) rfl .i64
      have l0 := hat.ld (j := 0) (v := x) rfl 1
      rw [Nat.add_zero] at l0
      simp only [stp, if_true, if_false, Int.reduceEq, Int.reduceLT, Int.reduceLE, Int.reduceGT, Int.reduceGE, reduceCtorEq, Nat.reduceEqDiff, List.getElem?_cons_zero, List.getElem?_cons_succ, Option.map_some, hia, l0]
      refine SCalls.mono (refSize_calls hx) ?_
      rintro r H2 ⟨rfl, m, rfl⟩
      simp only [stp, if_true, if_false, Int.reduceEq, Int.reduceLT, Int.reduceLE, Int.reduceGT, Int.reduceGE, reduceCtorEq, Nat.reduceEqDiff, List.getElem?_cons_zero, List.getElem?_cons_succ, Option.map_some]
      exact ⟨_, by trivial, .cons rfl (.cons rfl (.cons rfl (.cons rfl .nil)))⟩
    · rintro n H' rfl
      simp only [stp, if_true, if_false, Int.reduceEq, Int.reduceLT, Int.reduceLE, Int.reduceGT, Int.reduceGE, reduceCtorEq, Nat.reduceEqDiff, List.getElem?_cons_zero, List.getElem?_cons_succ, Option.map_some]
      exact ⟨by trivial, _, rfl, fun _ => by omega⟩
end Go.Proofs.YtbadbkdpnbacnaaDoor.Fw

/- What functions of the program answer: keys and their schema. No condition but what slices.SortFunc leaves, which is a hypothesis here. -/
namespace Go.Proofs.YtbadbkdpnbacnaaDoor.Fw
open Go
set_option linter.unusedSimpArgs false
set_option linter.unusedVariables false

/-- slices.Clone of keys. -/
theorem cloneK_calls {x : V} {H : Heap} {es : List (List V)} (hx : SL H x 6 es) (hl : es.length ≤ big) : SCalls PP 24 [x] H fun r H' => Ext H H' ∧ WF H' ∧ ((es = [] ∧ SL H' r 6 es) ∨ ∃ id, r = .slice id 0 es.length none ∧ H.next ≤ id ∧ Own H' id 6 es) := by
  refine SCalls.go c24 (by simp [fn24]) fun hw => ?_
  unfold big at hl
  have hbs : exec (.bsl 6 0 [] []) [] H = some (.slice H.next 0 0 (some 0), H.new (.row false 6 [])) := rfl
  obtain ⟨hlen, ⟨rfl, rfl⟩ | ⟨id, off, cap, rfl, hid, hat⟩⟩ := id hx
  · have hn : exec (.eqnil 1 false) [.nils, .nils] H = some (.bool true, H) := rfl
    simp only [fn24, enterFr, List.length, List.range, List.range.loop, List.zip, List.zipWith, stp, if_true, if_false, Int.reduceEq, Int.reduceLT, Int.reduceLE, Int.reduceGT, Int.reduceGE, reduceCtorEq, Nat.reduceEqDiff, List.getElem?_cons_zero, List.getElem?_cons_succ, Option.map_some, hn]
    exact ⟨Ext.refl H, hw, .inl ⟨by trivial, by simp, .inl ⟨rfl, rfl⟩⟩⟩
  · have hn : exec (.eqnil 1 false) [.slice id off es.length cap, .nils] H = some (.bool false, H) := rfl
    have hx1 : Ext H (H.new (.row false 6 [])) := (Ext.refl H).new _
    have hw1 : WF (H.new (.row false 6 [])) := hw.new _
    have hg1 := new_get H (.row false 6 [])
    have hsl1 := hx.ext hx1
    by_cases he : es = []
    · subst he
      have happ : exec (.app 6 24) [.slice H.next 0 0 (some 0), .slice id off 0 cap] (H.new (.row false 6 [])) = some (.slice H.next 0 0 (some 0), H.new (.row false 6 [])) := by
        simp only [exec, appendA, lenV, srcCells, readN]
        rfl
      simp only [fn24, enterFr, List.length, List.range, List.range.loop, List.zip, List.zipWith, stp, if_true, if_false, Int.reduceEq, Int.reduceLT, Int.reduceLE, Int.reduceGT, Int.reduceGE, reduceCtorEq, Nat.reduceEqDiff, List.getElem?_cons_zero, List.getElem?_cons_succ, Option.map_some, hn, hbs, happ]
      refine ⟨.inr rfl, _, rfl, ?_⟩
      exact ⟨hx1, hw1, .inl ⟨by trivial, by simp, .inr ⟨H.next, 0, some 0, rfl, Nat.lt_succ_self _, by simp⟩⟩⟩
    · obtain ⟨s1, s2⟩ := hsl1.src he
      have hln : es.length ≠ 0 := fun h => he (List.length_eq_zero_iff.1 h)
      have happ : exec (.app 6 24) [.slice H.next 0 0 (some 0), .slice id off es.length cap] (H.new (.row false 6 [])) = some (.slice (H.new (.row false 6 [])).next 0 es.length none, (H.new (.row false 6 [])).new (.row false 6 es.flatten)) := by
        simp only [exec, appendA, s1, s2]
        rw [if_neg (by simp [flatLen fun e he => (hlen e he).1, flatAll fun e he => (hlen e he).2]), if_neg hln, if_neg (by simp; omega)]
        rw [if_neg (by omega)]
        simp [readN]
      simp only [fn24, enterFr, List.length, List.range, List.range.loop, List.zip, List.zipWith, stp, if_true, if_false, Int.reduceEq, Int.reduceLT, Int.reduceLE, Int.reduceGT, Int.reduceGE, reduceCtorEq, Nat.reduceEqDiff, List.getElem?_cons_zero, List.getElem?_cons_succ, Option.map_some, hn, hbs, happ]
      exact ⟨hx1.new _, hw1.new _, .inr ⟨_, rfl, Nat.le_succ _, Nat.lt_succ_self _, new_get _ _, hlen⟩⟩

def keyMay (k : KeyA) : Bool :=
  if decide (k.id < 1) || decide (k.id > 1000) || decide (k.kind < 1) || decide (k.kind > 4) then false
  else if k.block then !k.before && decide (k.group ≥ 0) && decide (k.group ≤ 8) else decide (k.group = 0)
set_option maxRecDepth 20000 in
set_option maxHeartbeats 2000000 in
theorem keyMay_calls (k : KeyA) (H : Heap) : SCalls PP 25 [.agg k.cells] H fun r H' => H' = H ∧ r = .bool (keyMay k) := by
  refine SCalls.keep (R := fun r => r = .bool (keyMay k)) (SCalls.go c25 (by simp [fn25]) fun hw => ?_)
  obtain ⟨H2, hx2, hw2, ha2, hbx⟩ := x_boxed (Ext.refl H) hw (e := k.cells) rfl
  have l0 := ha2.ld (j := 0) (v := .int .i64 k.id) rfl 1
  have l1 := ha2.ld (j := 1) (v := .bool k.block) rfl 1
  have l2 := ha2.ld (j := 2) (v := .int .u8 k.kind) rfl 1
  have l4 := ha2.ld (j := 4) (v := .bool k.before) rfl 1
  have l5 := ha2.ld (j := 5) (v := .int .i64 k.group) rfl 1
  by_cases i1 : k.id < 1
  · simp only [fn25, enterFr, List.length, List.range, List.range.loop, List.zip, List.zipWith, stp, if_true, if_false, Int.reduceEq, Int.reduceLT, Int.reduceLE, Int.reduceGT, Int.reduceGE, reduceCtorEq, Nat.reduceEqDiff, List.getElem?_cons_zero, List.getElem?_cons_succ, Option.map_some, hbx, l0, l1, l2, l4, l5, i1, Bool.false_eq_true]
    exact ⟨hx2, by simp [keyMay, i1], rfl⟩
  by_cases i2 : k.id > 1000
  · simp only [fn25, enterFr, List.length, List.range, List.range.loop, List.zip, List.zipWith, stp, if_true, if_false, Int.reduceEq, Int.reduceLT, Int.reduceLE, Int.reduceGT, Int.reduceGE, reduceCtorEq, Nat.reduceEqDiff, List.getElem?_cons_zero, List.getElem?_cons_succ, Option.map_some, hbx, l0, l1, l2, l4, l5, i1, i2, Bool.false_eq_true]
    exact ⟨hx2, by simp [keyMay, i2], rfl⟩
  by_cases i3 : k.kind < 1
  · simp only [fn25, enterFr, List.length, List.range, List.range.loop, List.zip, List.zipWith, stp, if_true, if_false, Int.reduceEq, Int.reduceLT, Int.reduceLE, Int.reduceGT, Int.reduceGE, reduceCtorEq, Nat.reduceEqDiff, List.getElem?_cons_zero, List.getElem?_cons_succ, Option.map_some, hbx, l0, l1, l2, l4, l5, i1, i2, i3, Bool.false_eq_true]
    exact ⟨hx2, by simp [keyMay, i3], rfl⟩
  by_cases i4 : k.kind > 4
  · simp only [fn25, enterFr, List.length, List.range, List.range.loop, List.zip, List.zipWith, stp, if_true, if_false, Int.reduceEq, Int.reduceLT, Int.reduceLE, Int.reduceGT, Int.reduceGE, reduceCtorEq, Nat.reduceEqDiff, List.getElem?_cons_zero, List.getElem?_cons_succ, Option.map_some, hbx, l0, l1, l2, l4, l5, i1, i2, i3, i4, Bool.false_eq_true]
    exact ⟨hx2, by simp [keyMay, i4], rfl⟩
  have e0 : keyMay k = if k.block then !k.before && decide (k.group ≥ 0) && decide (k.group ≤ 8) else decide (k.group = 0) := by
    unfold keyMay; rw [if_neg (by simp [i1, i2, i3, i4])]
  cases hb : k.block with
  | false =>
    rw [hb] at l1
    simp only [fn25, enterFr, List.length, List.range, List.range.loop, List.zip, List.zipWith, stp, if_true, if_false, Int.reduceEq, Int.reduceLT, Int.reduceLE, Int.reduceGT, Int.reduceGE, reduceCtorEq, Nat.reduceEqDiff, List.getElem?_cons_zero, List.getElem?_cons_succ, Option.map_some, hbx, l0, l1, l2, l4, l5, i1, i2, i3, i4, Bool.false_eq_true]
    exact ⟨hx2, by rw [e0, hb]; simp, rfl⟩
  | true =>
    rw [hb] at l1
    cases hbe : k.before with
    | true =>
      rw [hbe] at l4
      simp only [fn25, enterFr, List.length, List.range, List.range.loop, List.zip, List.zipWith, stp, if_true, if_false, Int.reduceEq, Int.reduceLT, Int.reduceLE, Int.reduceGT, Int.reduceGE, reduceCtorEq, Nat.reduceEqDiff, List.getElem?_cons_zero, List.getElem?_cons_succ, Option.map_some, hbx, l0, l1, l2, l4, l5, i1, i2, i3, i4, Bool.false_eq_true]
      exact ⟨hx2, by rw [e0, hb, hbe]; simp, rfl⟩
    | false =>
      rw [hbe] at l4
      by_cases g1 : k.group ≥ 0
      · simp only [fn25, enterFr, List.length, List.range, List.range.loop, List.zip, List.zipWith, stp, if_true, if_false, Int.reduceEq, Int.reduceLT, Int.reduceLE, Int.reduceGT, Int.reduceGE, reduceCtorEq, Nat.reduceEqDiff, List.getElem?_cons_zero, List.getElem?_cons_succ, Option.map_some, hbx, l0, l1, l2, l4, l5, i1, i2, i3, i4, g1, Bool.false_eq_true]
        exact ⟨hx2, by rw [e0, hb, hbe]; simp [g1], rfl⟩
      · simp only [fn25, enterFr, List.length, List.range, List.range.loop, List.zip, List.zipWith, stp, if_true, if_false, Int.reduceEq, Int.reduceLT, Int.reduceLE, Int.reduceGT, Int.reduceGE, reduceCtorEq, Nat.reduceEqDiff, List.getElem?_cons_zero, List.getElem?_cons_succ, Option.map_some, hbx, l0, l1, l2, l4, l5, i1, i2, i3, i4, g1, Bool.false_eq_true]
        exact ⟨hx2, by rw [e0, hb, hbe]; simp [g1], rfl⟩
end Go.Proofs.YtbadbkdpnbacnaaDoor.Fw

/- What functions of the program answer: schema.New. No condition but what slices.SortFunc leaves, which is a hypothesis here. -/
namespace Go.Proofs.YtbadbkdpnbacnaaDoor.Fw
open Go
set_option linter.unusedSimpArgs false
set_option linter.unusedVariables false

/-- What slices.SortFunc leaves: it ends, and turns its own row alone. -/
def SortIs : Prop := ∀ (H : Heap) (v : V) (es : List (List V)), WF H → es.length ≤ 64 → (∀ e ∈ es, ∃ k : KeyA, e = k.cells) → ((es = [] ∧ SL H v 6 es) ∨ ∃ id, v = .slice id 0 es.length none ∧ Own H id 6 es) →
  SCalls PP 26 [v, .fn (.func 27) [] []] H fun r H' => H'.gn = H.gn ∧ H.next ≤ H'.next ∧ WF H' ∧ ∀ j, j < H.next → (∀ id, v = .slice id 0 es.length none → es ≠ [] → j ≠ id) → H'.get j = H.get j

theorem find_none {ks : List KeyA} {id : Int} (h : findK ks id = none) : findE 0 (.int .i64 id) (ks.map fun k => (V.int .i64 k.id, V.agg k.cells)) = some none := by
  have := find_map id ks
  cases hf : findE 0 (.int .i64 id) (ks.map fun k => (V.int .i64 k.id, V.agg k.cells)) with
  | none => rw [hf] at this; exact this.elim
  | some o =>
    rw [hf] at this
    cases o with
    | none => rfl
    | some i => obtain ⟨k, h1, _⟩ := this; rw [h] at h1; cases h1
theorem mset_new {H : Heap} {mid : Nat} {ks : List KeyA} {k : KeyA} (hg : H.get mid = some (.mapo (ks.map fun k => (.int .i64 k.id, .agg k.cells)))) (hf : findK ks k.id = none) :
    exec (.mset 0) [.map mid, .int .i64 k.id, .agg k.cells] H = some (.undef, H.set mid (.mapo ((ks ++ [k]).map fun k => (.int .i64 k.id, .agg k.cells)))) := by
  simp only [exec, hg, keyOk, if_true, find_none hf, List.map_append, List.map_cons, List.map_nil]

set_option maxRecDepth 20000 in
set_option maxHeartbeats 2000000 in
theorem new_calls (hS : SortIs) {x : V} {H : Heap} {ks : List KeyA} (hx : SL H x 6 (ks.map KeyA.cells)) (hl : ks.length ≤ big) :
    SCalls PP 9 [x] H fun r H' => Ext H H' ∧ WF H' ∧ ((∃ s, r = .tup [s, .int .i64 3]) ∨ ∃ s, r = .tup [s, .int .i64 0] ∧ Sch H' s ks) := by
  refine SCalls.go c9 (by simp [fn9]) fun hw => ?_
  unfold big at hl
  have hlen : ∀ G, exec .len [x] G = some (.int .i64 ks.length, G) := fun G => by have := hx.len (H' := G); rwa [List.length_map] at this
  by_cases h64 : (ks.length : Int) > 64
  · simp only [fn9, enterFr, List.length, List.range, List.range.loop, List.zip, List.zipWith, stp, if_true, if_false, Int.reduceEq, Int.reduceLT, Int.reduceLE, Int.reduceGT, Int.reduceGE, reduceCtorEq, Nat.reduceEqDiff, List.getElem?_cons_zero, List.getElem?_cons_succ, Option.map_some, hlen, h64]
    exact ⟨Ext.refl H, hw, .inl ⟨_, rfl⟩⟩
  simp only [fn9, enterFr, List.length, List.range, List.range.loop, List.zip, List.zipWith, stp, if_true, if_false, Int.reduceEq, Int.reduceLT, Int.reduceLE, Int.reduceGT, Int.reduceGE, reduceCtorEq, Nat.reduceEqDiff, List.getElem?_cons_zero, List.getElem?_cons_succ, Option.map_some, hlen, h64, Bool.false_eq_true]
  refine SCalls.mono (cloneK_calls hx (by rw [List.length_map]; unfold big; omega)) ?_
  rintro c H1 ⟨hx1, hw1, hc⟩
  have hco : c.one = true ∧ c.cells = [c] := by
    rcases hc with ⟨h0, _, ⟨rfl, _⟩ | ⟨_, _, _, rfl, _⟩⟩ | ⟨_, rfl, _⟩ <;> exact ⟨rfl, rfl⟩
  have hmk : exec .mkmap [] H1 = some (.map H1.next, H1.new (.mapo [])) := rfl
  have hx2 : Ext H1 (H1.new (.mapo [])) := (Ext.refl H1).new _
  have hw2 : WF (H1.new (.mapo [])) := hw1.new _
  have hg2 : (H1.new (.mapo [])).get H1.next = some (.mapo (([] : List KeyA).map fun k => (.int .i64 k.id, .agg k.cells))) := new_get _ _
  have hn2 : (H1.new (.mapo [])).next = H1.next + 1 := rfl
  have hbd : ∀ G, exec (.build [.nils, .nilm] [(0, 1), (1, 1)]) [c, .map H1.next] G = some (.agg [c, .map H1.next], G) := fun G => by
    show (fillA [.nils, .nilm] [((0, 1), c), ((1, 1), .map H1.next)]).map (fun cs => (V.agg cs, G)) = _
    simp only [fillA, hco.2]
    rfl
  generalize hG2 : H1.new (.mapo []) = G2 at *
  obtain ⟨H3, hx3, hw3, ha3, hbx⟩ := x_boxed (Ext.refl G2) hw2 (e := [c, .map H1.next]) (by simp only [List.all_cons, hco.1, List.all_nil]; rfl)
  have hn3 := hx3.next
  have hg3 : H3.get H1.next = some (.mapo (([] : List KeyA).map fun k => (.int .i64 k.id, .agg k.cells))) := by rw [hx3.get _ (by omega)]; exact hg2
  have hxx : Ext H H3 := (hx1.trans hx2).trans hx3
  have hH1 := hx1.next
  simp only [stp, if_true, if_false, Int.reduceEq, Int.reduceLT, Int.reduceLE, Int.reduceGT, Int.reduceGE, reduceCtorEq, Nat.reduceEqDiff, List.getElem?_cons_zero, List.getElem?_cons_succ, Option.map_some, hmk, hG2, hbd, hbx, hlen]
  generalize hP : G2.next = p at *
  refine wp_range SCalls.scMono (by omega) (fun _ : Unit => [(17, x), (4, .ptr p 0)]) (fun k _ G => Ext H G ∧ WF G ∧ p < G.next ∧ At G p 0 [c, .map H1.next] ∧ G.get H1.next = some (.mapo ((ks.take k).map fun k => (.int .i64 k.id, .agg k.cells))) ∧ (∀ j, j < H3.next → j ≠ H1.next → G.get j = H3.get j) ∧ H3.next ≤ G.next) ()
    ⟨hxx, hw3, ha3.1, ha3, by simpa using hg3, fun j _ _ => rfl, Nat.le_refl _⟩ (.cons rfl (.cons rfl (.cons rfl (.cons rfl .nil)))) (by decide) (fun s => ⟨rfl, rfl, rfl⟩) ?_ ?_
  · rintro k _ G hk ⟨e1, e2, e3, e4, e5, e6, e7⟩
    have hm := hx.1 ks[k].cells (List.mem_map_of_mem (List.getElem_mem hk))
    obtain ⟨id, o, hia, hat⟩ := (hx.ext e1).ia (H' := G) (i := k) (e := ks[k].cells) (by simp [hk]) .i64
    obtain ⟨H4, hx4, hw4, ha4, hal, hst⟩ := x_copy (Ext.refl G) e2 (z := zk) (e := ks[k].cells) (n := 6) rfl rfl hm.1 hm.2
    have l0 := ha4.ld (j := 0) (v := .int .i64 ks[k].id) rfl 1
    have la := ha4.lda (n := 6) rfl
    have lm := (e4.ext hx4).ld (j := 1) (v := .map H1.next) rfl 1
    have hmid : H1.next < G.next := by omega
    have g4 : H4.get H1.next = some (.mapo ((ks.take k).map fun k => (.int .i64 k.id, .agg k.cells))) := by rw [hx4.get _ hmid]; exact e5
    have hlk := look_eq g4 ks[k].id
    obtain ⟨H5, hx5, hw5, ha5, hal5, hst5⟩ := x_copy (Ext.refl H4) hw4 (z := zk) (e := foundC (ks.take k) ks[k].id) (n := 6) rfl rfl rfl rfl
    have hx45 := hx4.trans hx5
    have la5 := (ha4.ext hx5).lda (n := 6) rfl
    have l05 := (ha4.ext hx5).ld (j := 0) (v := .int .i64 ks[k].id) rfl 1
    have lm5 := (e4.ext hx45).ld (j := 1) (v := .map H1.next) rfl 1
    have g5 : H5.get H1.next = some (.mapo ((ks.take k).map fun k => (.int .i64 k.id, .agg k.cells))) := by rw [hx45.get _ hmid]; exact e5
    cases hf : findK (ks.take k) ks[k].id with
    | some kk =>
      simp only [stp, if_true, if_false, Int.reduceEq, Int.reduceLT, Int.reduceLE, Int.reduceGT, Int.reduceGE, reduceCtorEq, Nat.reduceEqDiff, List.getElem?_cons_zero, List.getElem?_cons_succ, Option.map_some, hia, hat.lda (n := 6) rfl, hal, hst, l0, lm, hlk, hal5, hst5, hf, Option.isSome_some, Bool.false_eq_true]
      exact ⟨e1.trans hx45, hw5, .inl ⟨_, rfl⟩⟩
    | none =>
      simp only [stp, if_true, if_false, Int.reduceEq, Int.reduceLT, Int.reduceLE, Int.reduceGT, Int.reduceGE, reduceCtorEq, Nat.reduceEqDiff, List.getElem?_cons_zero, List.getElem?_cons_succ, Option.map_some, hia, hat.lda (n := 6) rfl, hal, hst, l0, lm, hlk, hal5, hst5, hf, Option.isSome_none, la5, Bool.false_eq_true]
      refine SCalls.mono (keyMay_calls ks[k] H5) ?_
      rintro r H6 ⟨rfl, rfl⟩
      cases hm' : keyMay ks[k] with
      | false =>
        simp only [stp, if_true, if_false, Int.reduceEq, Int.reduceLT, Int.reduceLE, Int.reduceGT, Int.reduceGE, reduceCtorEq, Nat.reduceEqDiff, List.getElem?_cons_zero, List.getElem?_cons_succ, Option.map_some, hm', Bool.false_eq_true]
        exact ⟨e1.trans hx45, hw5, .inl ⟨_, rfl⟩⟩
      | true =>
        have hms := mset_new (k := ks[k]) g5 hf
        simp only [stp, if_true, if_false, Int.reduceEq, Int.reduceLT, Int.reduceLE, Int.reduceGT, Int.reduceGE, reduceCtorEq, Nat.reduceEqDiff, List.getElem?_cons_zero, List.getElem?_cons_succ, Option.map_some, hm', l05, lm5, la5, hms, Bool.false_eq_true]
        have hn5 := hx45.next
        refine ⟨(), ⟨(e1.trans hx45).set (by omega) _, hw5.set g5 _, ?_, ?_, ?_, fun j hj hjm => ?_, ?_⟩, .cons rfl (.cons rfl (.cons rfl (.cons rfl .nil)))⟩
        · simp only [Heap.set_next]; omega
        · obtain ⟨b1, ro, esz, cells, b2, b3⟩ := e4.ext hx45
          refine ⟨b1, ro, esz, cells, ?_, b3⟩
          rw [Heap.set_get, if_neg (by omega)]; exact b2
        · rw [set_get', List.take_succ_eq_append_getElem hk]
        · rw [Heap.set_get, if_neg hjm, hx45.get _ (by omega)]; exact e6 j hj hjm
        · simp only [Heap.set_next]; omega
  · rintro _ G ⟨e1, e2, e3, e4, e5, e6, e7⟩
    rw [List.take_length] at e5
    have lc := e4.ld (j := 0) (v := c) rfl 1
    simp only [stp, if_true, if_false, Int.reduceEq, Int.reduceLT, Int.reduceLE, Int.reduceGT, Int.reduceGE, reduceCtorEq, Nat.reduceEqDiff, List.getElem?_cons_zero, List.getElem?_cons_succ, Option.map_some, lc]
    have hcl : (ks.map KeyA.cells).length ≤ 64 := by rw [List.length_map]; omega
    have keep : ∀ j, j < H1.next → G.get j = H1.get j := fun j hj => by
      rw [e6 j (by omega) (by omega), hx3.get j (by omega), hx2.get j (by omega)]
    refine SCalls.mono (hS G c (ks.map KeyA.cells) e2 hcl (fun e he => by obtain ⟨k, _, rfl⟩ := List.mem_map.1 he; exact ⟨k, rfl⟩) ?_) ?_
    · rcases hc with ⟨h0, h1⟩ | ⟨id, rfl, hid, ho⟩
      · refine .inl ⟨h0, h1.1, ?_⟩
        rcases h1.2 with h | ⟨id, off, cap, q1, q2, q3⟩
        · exact .inl h
        · exact .inr ⟨id, off, cap, q1, by omega, fun i e he => by rw [h0] at he; simp at he⟩
      · refine .inr ⟨id, rfl, ?_, ?_, ho.len⟩
        · have := ho.lt; omega
        · rw [keep id ho.lt]; exact ho.get
    · rintro r G7 ⟨f1, f2, f3, f4⟩
      have hne : ∀ j, (j < H.next ∨ H1.next ≤ j) → ∀ id, c = .slice id 0 (ks.map KeyA.cells).length none → ks.map KeyA.cells ≠ [] → j ≠ id := by
        intro j hj id hcid hnil
        rcases hc with ⟨h0, _⟩ | ⟨id', rfl, hid, ho⟩
        · exact absurd h0 hnil
        · have := ho.lt
          simp only [V.slice.injEq] at hcid
          omega
      simp only [stp, if_true, if_false, Int.reduceEq, Int.reduceLT, Int.reduceLE, Int.reduceGT, Int.reduceGE, reduceCtorEq, Nat.reduceEqDiff, List.getElem?_cons_zero, List.getElem?_cons_succ, Option.map_some]
      refine ⟨⟨f1.trans e1.gn, Nat.le_trans e1.next f2, fun j hj => ?_⟩, f3, .inr ⟨_, rfl, p, c, H1.next, rfl, ?_, by omega, ?_⟩⟩
      · have := e1.next
        rw [f4 j (by omega) (hne j (.inl hj))]; exact e1.get j hj
      · obtain ⟨b1, ro, esz, cells, b2, b3⟩ := e4
        refine ⟨by omega, ro, esz, cells, ?_, b3⟩
        rw [f4 p e3 (hne p (.inr (by omega)))]; exact b2
      · rw [f4 _ (by omega) (hne _ (.inr (Nat.le_refl _)))]; exact e5
end Go.Proofs.YtbadbkdpnbacnaaDoor.Fw

/- utf8.word: eight bytes. No condition. -/
namespace Go.Proofs.YtbadbkdpnbacnaaDoor.Fw
open Go
set_option linter.unusedSimpArgs false
set_option linter.unusedVariables false

theorem x_toInt (k j : IntKind) (n : Int) (H : Heap) : exec (.toInt k) [.int j n] H = some (.int k (k.wrap n), H) := rfl
def shl64 (a b : Int) : Int := IntKind.u64.wrap (a * 2 ^ (min b.toNat 64))
def or64 (a b : Int) : Int := IntKind.u64.wrap (BitVec.ofInt 64 a ||| BitVec.ofInt 64 b).toNat
def and64 (a b : Int) : Int := IntKind.u64.wrap (BitVec.ofInt 64 a &&& BitVec.ofInt 64 b).toNat
theorem x_shl (a b : Int) (hb : 0 ≤ b) (H : Heap) : exec (.ibin .shl) [.int .u64 a, .int .u64 b] H = some (.int .u64 (shl64 a b), H) := by
  simp only [exec, ibin, intSh]
  rw [if_neg (by omega)]
  rfl
theorem x_or (a b : Int) (H : Heap) : exec (.ibin .or) [.int .u64 a, .int .u64 b] H = some (.int .u64 (or64 a b), H) := rfl
theorem x_and (a b : Int) (H : Heap) : exec (.ibin .and) [.int .u64 a, .int .u64 b] H = some (.int .u64 (and64 a b), H) := rfl
def byteAt (bs : List Int) (i : Nat) : Int := IntKind.u64.wrap (bs.getD i 0)
def wordF (bs : List Int) : Int := or64 (or64 (or64 (or64 (or64 (or64 (or64 (byteAt bs 0) (shl64 (byteAt bs 1) 8)) (shl64 (byteAt bs 2) 16)) (shl64 (byteAt bs 3) 24)) (shl64 (byteAt bs 4) 32)) (shl64 (byteAt bs 5) 40)) (shl64 (byteAt bs 6) 48)) (shl64 (byteAt bs 7) 56)
theorem byte_ia {p : V} {H : Heap} {bs : List Int} (hp : SL H p 1 (bs.map fun b => [V.int .u8 b])) {i : Nat} (hi : i < bs.length) :
    ∃ id o, exec (.ia 1) [p, .int .i64 i] H = some (.ptr id o, H) ∧ exec (.ld 1) [.ptr id o] H = some (.int .u8 (bs.getD i 0), H) := by
  have hg : (bs.map fun b => [V.int .u8 b])[i]? = some [V.int .u8 (bs.getD i 0)] := by simp [List.getD_eq_getElem?_getD, hi]
  obtain ⟨id, o, h1, h2⟩ := hp.ia (H' := H) hg .i64
  have h3 := h2.ld (j := 0) rfl 1
  rw [Nat.add_zero] at h3
  exact ⟨id, o, h1, h3⟩
set_option maxRecDepth 20000 in
set_option maxHeartbeats 1000000 in
theorem word_calls {p : V} {H : Heap} {bs : List Int} (hp : SL H p 1 (bs.map fun b => [V.int .u8 b])) (hl : 8 ≤ bs.length) : SCalls PP 109 [p] H fun r H' => H' = H ∧ r = .int .u64 (wordF bs) := by
  refine SCalls.go c109 (by simp [fn109]) fun hw => ?_
  obtain ⟨i0, o0, a0', d0⟩ := byte_ia hp (i := 0) (by omega)
  have a0 : exec (.ia 1) [p, .int .i64 0] H = some (.ptr i0 o0, H) := a0'
  obtain ⟨i1, o1, a1', d1⟩ := byte_ia hp (i := 1) (by omega)
  have a1 : exec (.ia 1) [p, .int .i64 1] H = some (.ptr i1 o1, H) := a1'
  obtain ⟨i2, o2, a2', d2⟩ := byte_ia hp (i := 2) (by omega)
  have a2 : exec (.ia 1) [p, .int .i64 2] H = some (.ptr i2 o2, H) := a2'
  obtain ⟨i3, o3, a3', d3⟩ := byte_ia hp (i := 3) (by omega)
  have a3 : exec (.ia 1) [p, .int .i64 3] H = some (.ptr i3 o3, H) := a3'
  obtain ⟨i4, o4, a4', d4⟩ := byte_ia hp (i := 4) (by omega)
  have a4 : exec (.ia 1) [p, .int .i64 4] H = some (.ptr i4 o4, H) := a4'
  obtain ⟨i5, o5, a5', d5⟩ := byte_ia hp (i := 5) (by omega)
  have a5 : exec (.ia 1) [p, .int .i64 5] H = some (.ptr i5 o5, H) := a5'
  obtain ⟨i6, o6, a6', d6⟩ := byte_ia hp (i := 6) (by omega)
  have a6 : exec (.ia 1) [p, .int .i64 6] H = some (.ptr i6 o6, H) := a6'
  obtain ⟨i7, o7, a7', d7⟩ := byte_ia hp (i := 7) (by omega)
  have a7 : exec (.ia 1) [p, .int .i64 7] H = some (.ptr i7 o7, H) := a7'
  have s8 : ∀ a G, exec (.ibin .shl) [.int .u64 a, .int .u64 8] G = some (.int .u64 (shl64 a 8), G) := fun a G => x_shl a 8 (by decide) G
  have s16 : ∀ a G, exec (.ibin .shl) [.int .u64 a, .int .u64 16] G = some (.int .u64 (shl64 a 16), G) := fun a G => x_shl a 16 (by decide) G
  have s24 : ∀ a G, exec (.ibin .shl) [.int .u64 a, .int .u64 24] G = some (.int .u64 (shl64 a 24), G) := fun a G => x_shl a 24 (by decide) G
  have s32 : ∀ a G, exec (.ibin .shl) [.int .u64 a, .int .u64 32] G = some (.int .u64 (shl64 a 32), G) := fun a G => x_shl a 32 (by decide) G
  have s40 : ∀ a G, exec (.ibin .shl) [.int .u64 a, .int .u64 40] G = some (.int .u64 (shl64 a 40), G) := fun a G => x_shl a 40 (by decide) G
  have s48 : ∀ a G, exec (.ibin .shl) [.int .u64 a, .int .u64 48] G = some (.int .u64 (shl64 a 48), G) := fun a G => x_shl a 48 (by decide) G
  have s56 : ∀ a G, exec (.ibin .shl) [.int .u64 a, .int .u64 56] G = some (.int .u64 (shl64 a 56), G) := fun a G => x_shl a 56 (by decide) G
  simp only [fn109, enterFr, List.length, List.range, List.range.loop, List.zip, List.zipWith, stp, if_true, if_false, Int.reduceEq, Int.reduceLT, Int.reduceLE, Int.reduceGT, Int.reduceGE, reduceCtorEq, Nat.reduceEqDiff, List.getElem?_cons_zero, List.getElem?_cons_succ, Option.map_some, a0, d0, a1, d1, a2, d2, a3, d3, a4, d4, a5, d5, a6, d6, a7, d7, s8, s16, s24, s32, s40, s48, s56, x_toInt, x_or]
  exact ⟨by trivial, rfl⟩
end Go.Proofs.YtbadbkdpnbacnaaDoor.Fw

/- utf8.Valid: what it answers. No condition. -/
namespace Go.Proofs.YtbadbkdpnbacnaaDoor.Fw
open Go
set_option linter.unusedSimpArgs false
set_option linter.unusedVariables false

abbrev hi64 : Int := 9259542123273814144
def skip32 : Nat → List Int → List Int
  | 0, bs => bs
  | n + 1, bs => if 32 < bs.length ∧ and64 (or64 (or64 (wordF bs) (wordF (bs.drop 8))) (or64 (wordF (bs.drop 16)) (wordF (bs.drop 24)))) hi64 = 0 then skip32 n (bs.drop 32) else bs
theorem skip32_stop {bs : List Int} (h : ¬ (32 < bs.length ∧ and64 (or64 (or64 (wordF bs) (wordF (bs.drop 8))) (or64 (wordF (bs.drop 16)) (wordF (bs.drop 24)))) hi64 = 0)) : ∀ n, skip32 n bs = bs
  | 0 => rfl
  | n + 1 => by rw [skip32, if_neg h]
/-- Behind one ASCII byte. -/
def skipA (bs : List Int) : List Int :=
  if 8 < bs.length ∧ and64 (wordF bs) hi64 = 0 then
    if 16 < (bs.drop 8).length ∧ and64 (or64 (wordF (bs.drop 8)) (wordF ((bs.drop 8).drop 8))) hi64 = 0 then skip32 ((bs.drop 8).drop 16).length ((bs.drop 8).drop 16) else bs.drop 8
  else bs
theorem skip32_len : ∀ (n : Nat) (bs : List Int), (skip32 n bs).length ≤ bs.length
  | 0, bs => Nat.le_refl _
  | n + 1, bs => by
    rw [skip32]
    split
    · exact Nat.le_trans (skip32_len n _) (by simp)
    · exact Nat.le_refl _
theorem skipA_len (bs : List Int) : (skipA bs).length ≤ bs.length := by
  rw [skipA]
  split
  · split
    · exact Nat.le_trans (skip32_len _ _) (by simp)
    · simp
  · exact Nat.le_refl _

theorem x_and8 (a b : Int) (H : Heap) : exec (.ibin .and) [.int .u8 a, .int .u8 b] H = some (.int .u8 (IntKind.u8.wrap (BitVec.ofInt 8 a &&& BitVec.ofInt 8 b).toNat), H) := rfl
def sizeT (b : Int) : Int := IntKind.i64.wrap (IntKind.u8.wrap (BitVec.ofInt 8 (firstT.getD b.toNat 0) &&& BitVec.ofInt 8 7).toNat)
def accI (b : Int) : Int := (firstT.getD b.toNat 0).fdiv 16
theorem x_shr8 (a : Int) (H : Heap) : exec (.ibin .shr) [.int .u8 a, .int .u64 4] H = some (.int .u8 (a.fdiv 16), H) := rfl
theorem accI_fin : ∀ n : Fin 256, 0 ≤ accI (n.val : Int) ∧ accI (n.val : Int) < 16 := by decide +kernel
theorem accI_lt {b : Int} (h0 : 0 ≤ b) (h1 : b < 256) : 0 ≤ accI b ∧ accI b < 16 := by
  have := accI_fin ⟨b.toNat, by omega⟩
  have e : ((b.toNat : Nat) : Int) = b := by omega
  simpa only [e] using this
def loT (b : Int) : Int := accT.getD ((accI b).toNat * 2) 0
def hiT (b : Int) : Int := accT.getD ((accI b).toNat * 2 + 1) 0

/-- One round. -/
def vStep (b0 : Int) (bs : List Int) : Option (List Int) :=
  if b0 < 128 then some (skipA (bs.drop 1))
  else if sizeT b0 = 2 then
    if bs.length < 2 ∨ bs.getD 1 0 < loT b0 ∨ hiT b0 < bs.getD 1 0 then none else some (bs.drop 2)
  else if sizeT b0 = 3 then
    if bs.length < 3 ∨ bs.getD 1 0 < loT b0 ∨ hiT b0 < bs.getD 1 0 ∨ bs.getD 2 0 < 128 ∨ 191 < bs.getD 2 0 then none else some (bs.drop 3)
  else if sizeT b0 = 4 then
    if bs.length < 4 ∨ bs.getD 1 0 < loT b0 ∨ hiT b0 < bs.getD 1 0 ∨ bs.getD 2 0 < 128 ∨ 191 < bs.getD 2 0 ∨ bs.getD 3 0 < 128 ∨ 191 < bs.getD 3 0 then none else some (bs.drop 4)
  else none
def vF : Nat → List Int → Bool
  | 0, _ => true
  | _, [] => true
  | n + 1, b0 :: bs => match vStep b0 (b0 :: bs) with
    | some r => vF n r
    | none => false
theorem vF_nil (n : Nat) : vF n [] = true := by cases n <;> rfl

theorem At.sub {H : Heap} {id o : Nat} {e e' : List V} (h : At H id o e) (k : Nat) (hl : k + e'.length ≤ e.length) (he : ∀ j v, e'[j]? = some v → e[k + j]? = some v) : At H id (o + k) e' := by
  obtain ⟨h1, ro, esz, cells, h2, h3, h4⟩ := h
  exact ⟨h1, ro, esz, cells, h2, by omega, fun j v hj => by rw [Nat.add_assoc]; exact h4 _ v (he j v hj)⟩

abbrev byteR (bs : List Int) : List (List V) := bs.map fun b => [V.int .u8 b]
theorem sl_drop {H : Heap} {id off k : Nat} {c c' : Option Nat} {bs : List Int} (h : SL H (.slice id off bs.length c) 1 (byteR bs)) : SL H (.slice id (off + k * 1) (bs.length - k) c') 1 (byteR (bs.drop k)) := by
  obtain ⟨h0, h | ⟨id', off', cap', e1, e2, e3⟩⟩ := h
  · cases h.1
  · simp only [V.slice.injEq] at e1
    obtain ⟨rfl, rfl, _, rfl⟩ := e1
    refine ⟨fun e he => ?_, .inr ⟨_, _, _, by rw [List.length_map, List.length_drop], e2, fun i e he => ?_⟩⟩
    · obtain ⟨b, _, rfl⟩ := List.mem_map.1 he; exact ⟨rfl, rfl⟩
    · simp only [byteR, List.map_drop, List.getElem?_drop] at he
      have := e3 _ e he
      rwa [show off + (k + i) * 1 = off + k * 1 + i * 1 by omega] at this
theorem x_slcc {H : Heap} {id off n k : Nat} (hk : k ≤ n) : exec (.slc 1 true false false) [.slice id off n (some n), .int .i64 k] H = some (.slice id (off + k * 1) (n - k) (some (n - k)), H) := by
  have hb : bounds3 true false false n ((some n).getD n) [V.int .i64 k] = some (k, n, n) := by simp [bounds3, natV]
  simp only [exec, hb]
  rw [if_pos ⟨hk, Nat.le_refl _, Nat.le_refl _, by simp [slcOk]⟩]
theorem word_ok {p : V} {H : Heap} {bs : List Int} (hp : SL H p 1 (byteR bs)) (hl : 8 ≤ bs.length) (K : V → Heap → Prop) (hK : K (.int .u64 (wordF bs)) H) : SCalls PP 109 [p] H K :=
  SCalls.mono (word_calls hp hl) fun r H' ⟨h1, h2⟩ => by rw [h1, h2]; exact hK
theorem x_pickf (c : Bool) (a : V) (H : Heap) : exec .pick [.bool c, a, .bool false] H = some (if c then a else .bool false, H) := rfl

/-- What a byte slice's end is. -/
def Byt (H : Heap) (id off : Nat) (bs : List Int) : Prop := SL H (.slice id off bs.length (some bs.length)) 1 (byteR bs)
theorem Byt.drop {H : Heap} {id off : Nat} {bs : List Int} (h : Byt H id off bs) (k : Nat) : Byt H id (off + k * 1) (bs.drop k) := by
  unfold Byt
  rw [List.length_drop]
  exact sl_drop h
theorem Byt.slc {H H' : Heap} {id off : Nat} {bs : List Int} (h : Byt H id off bs) {k : Nat} (hk : k ≤ bs.length) : exec (.slc 1 true false false) [.slice id off bs.length (some bs.length), .int .i64 k] H' = some (.slice id (off + k * 1) (bs.drop k).length (some (bs.drop k).length), H') := by
  rw [List.length_drop]; exact x_slcc hk
theorem Byt.ia {H : Heap} {id off : Nat} {bs : List Int} (h : Byt H id off bs) {i : Nat} (hi : i < bs.length) :
    exec (.ia 1) [.slice id off bs.length (some bs.length), .int .i64 i] H = some (.ptr id (off + i), H) ∧ exec (.ld 1) [.ptr id (off + i)] H = some (.int .u8 (bs.getD i 0), H) := by
  obtain ⟨id', o', h1, h2⟩ := byte_ia h hi
  have h3 : exec (.ia 1) [.slice id off bs.length (some bs.length), .int .i64 i] H = some (.ptr id (off + i), H) := by
    simp only [exec]
    rw [if_pos ⟨by omega, by omega⟩]
    simp
  rw [h3] at h1
  cases h1
  exact ⟨h3, h2⟩
end Go.Proofs.YtbadbkdpnbacnaaDoor.Fw

/- utf8.Valid: the walk. No condition. -/
namespace Go.Proofs.YtbadbkdpnbacnaaDoor.Fw
open Go
set_option linter.unusedSimpArgs false
set_option linter.unusedVariables false

theorem Byt.ext {H H' : Heap} {id off : Nat} {bs : List Int} (h : Byt H id off bs) (k : Ext H H') : Byt H' id off bs := SL.ext h k

theorem first_ia {H : Heap} (hT : Tabs H) {b : Int} (h0 : 0 ≤ b) (h1 : b < 256) : exec (.iar 256 1) [.ptr 1 0, .int .u8 b] H = some (.ptr 1 (0 + b.toNat * 1), H) ∧ exec (.ld 1) [.ptr 1 (0 + b.toNat * 1)] H = some (.int .u8 (firstT.getD b.toNat 0), H) := by
  constructor
  · simp only [exec]; rw [if_pos ⟨h0, by omega⟩]
  · have hl : b.toNat < firstT.length := by rw [show firstT.length = 256 by decide +kernel]; omega
    have := hT.first.ld (j := b.toNat) (v := .int .u8 (firstT.getD b.toNat 0)) (by simp [List.getD_eq_getElem?_getD, hl]) 1
    rwa [show 0 + b.toNat * 1 = 0 + b.toNat by omega]
theorem acc_ia {H : Heap} (hT : Tabs H) {b : Int} (h0 : 0 ≤ b) (h1 : b < 256) : exec (.iar 16 2) [.ptr 2 0, .int .u8 (accI b)] H = some (.ptr 2 (0 + (accI b).toNat * 2), H) ∧ exec (.lda 2) [.ptr 2 (0 + (accI b).toNat * 2)] H = some (.agg [.int .u8 (loT b), .int .u8 (hiT b)], H) := by
  obtain ⟨a0, a1⟩ := accI_lt h0 h1
  constructor
  · simp only [exec]; rw [if_pos ⟨a0, by omega⟩]
  · have hl : accT.length = 32 := by decide
    have hs : At H 2 (0 + (accI b).toNat * 2) [.int .u8 (loT b), .int .u8 (hiT b)] := by
      refine hT.acc.sub _ (by simp [hl]; omega) fun j v hj => ?_
      match j, hj with
      | 0, hj => simp at hj; subst hj; simp [loT, List.getD_eq_getElem?_getD, hl, show (accI b).toNat * 2 < 32 by omega]
      | 1, hj => simp at hj; subst hj; simp [hiT, List.getD_eq_getElem?_getD, hl, show (accI b).toNat * 2 + 1 < 32 by omega]
      | j + 2, hj => simp at hj
    exact hs.lda (n := 2) rfl

def v108loop : ACode := (.loop
                      (.seq
                       (.seq
                        (.draw (.op ⟨some 49, none, .ex (.mov) [.s 0]⟩ (.op ⟨some 50, none, .ex (.len) [.s 49]⟩ (.op ⟨some 51, none, .ex (.ibin .gtr) [.s 50, .k (.int .i64 32)]⟩ (.op ⟨some 52, none, .ex (.mov) [.s 51]⟩ (.op ⟨some 53, some (52, true), .ex (.mov) [.s 0]⟩ (.op ⟨some 55, some (52, true), .ex (.mov) [.s 0]⟩ (.op ⟨some 59, some (52, true), .ex (.mov) [.s 0]⟩ (.op ⟨some 62, some (52, true), .ex (.mov) [.s 0]⟩ (.fork (.op ⟨some 54, some (52, true), .callf 109 [.s 53]⟩ (.op ⟨some 56, some (52, true), .ex (.slc 1 true false false) [.s 55, .k (.int .i64 8)]⟩ (.fork (.op ⟨some 57, some (52, true), .callf 109 [.s 56]⟩ (.op ⟨some 58, some (52, true), .ex (.ibin .or) [.s 54, .s 57]⟩ (.op ⟨some 60, some (52, true), .ex (.slc 1 true false false) [.s 59, .k (.int .i64 16)]⟩ (.fork (.op ⟨some 61, some (52, true), .callf 109 [.s 60]⟩ (.op ⟨some 63, some (52, true), .ex (.slc 1 true false false) [.s 62, .k (.int .i64 24)]⟩ (.op ⟨some 64, some (52, true), .callf 109 [.s 63]⟩ (.op ⟨some 65, some (52, true), .ex (.ibin .or) [.s 61, .s 64]⟩ (.op ⟨some 66, some (52, true), .ex (.ibin .or) [.s 58, .s 65]⟩ (.op ⟨some 67, some (52, true), .ex (.ibin .and) [.s 66, .k (.int .u64 9259542123273814144)]⟩ (.op ⟨some 68, some (52, true), .ex (.ibin .eql) [.s 67, .k (.int .u64 0)]⟩ (.op ⟨some 69, none, .ex (.pick) [.s 52, .s 68, .k (.bool false)]⟩ .done)))))))) (.op ⟨some 63, some (52, true), .ex (.slc 1 true false false) [.s 62, .k (.int .i64 24)]⟩ (.op ⟨some 61, some (52, true), .callf 109 [.s 60]⟩ (.op ⟨some 64, some (52, true), .callf 109 [.s 63]⟩ (.op ⟨some 65, some (52, true), .ex (.ibin .or) [.s 61, .s 64]⟩ (.op ⟨some 66, some (52, true), .ex (.ibin .or) [.s 58, .s 65]⟩ (.op ⟨some 67, some (52, true), .ex (.ibin .and) [.s 66, .k (.int .u64 9259542123273814144)]⟩ (.op ⟨some 68, some (52, true), .ex (.ibin .eql) [.s 67, .k (.int .u64 0)]⟩ (.op ⟨some 69, none, .ex (.pick) [.s 52, .s 68, .k (.bool false)]⟩ .done)))))))))))) (.fork (.op ⟨some 60, some (52, true), .ex (.slc 1 true false false) [.s 59, .k (.int .i64 16)]⟩ (.fork (.op ⟨some 57, some (52, true), .callf 109 [.s 56]⟩ (.op ⟨some 58, some (52, true), .ex (.ibin .or) [.s 54, .s 57]⟩ (.fork (.op ⟨some 61, some (52, true), .callf 109 [.s 60]⟩ (.op ⟨some 63, some (52, true), .ex (.slc 1 true false false) [.s 62, .k (.int .i64 24)]⟩ (.op ⟨some 64, some (52, true), .callf 109 [.s 63]⟩ (.op ⟨some 65, some (52, true), .ex (.ibin .or) [.s 61, .s 64]⟩ (.op ⟨some 66, some (52, true), .ex (.ibin .or) [.s 58, .s 65]⟩ (.op ⟨some 67, some (52, true), .ex (.ibin .and) [.s 66, .k (.int .u64 9259542123273814144)]⟩ (.op ⟨some 68, some (52, true), .ex (.ibin .eql) [.s 67, .k (.int .u64 0)]⟩ (.op ⟨some 69, none, .ex (.pick) [.s 52, .s 68, .k (.bool false)]⟩ .done)))))))) (.op ⟨some 63, some (52, true), .ex (.slc 1 true false false) [.s 62, .k (.int .i64 24)]⟩ (.op ⟨some 61, some (52, true), .callf 109 [.s 60]⟩ (.op ⟨some 64, some (52, true), .callf 109 [.s 63]⟩ (.op ⟨some 65, some (52, true), .ex (.ibin .or) [.s 61, .s 64]⟩ (.op ⟨some 66, some (52, true), .ex (.ibin .or) [.s 58, .s 65]⟩ (.op ⟨some 67, some (52, true), .ex (.ibin .and) [.s 66, .k (.int .u64 9259542123273814144)]⟩ (.op ⟨some 68, some (52, true), .ex (.ibin .eql) [.s 67, .k (.int .u64 0)]⟩ (.op ⟨some 69, none, .ex (.pick) [.s 52, .s 68, .k (.bool false)]⟩ .done))))))))))) (.op ⟨some 63, some (52, true), .ex (.slc 1 true false false) [.s 62, .k (.int .i64 24)]⟩ (.op ⟨some 57, some (52, true), .callf 109 [.s 56]⟩ (.op ⟨some 58, some (52, true), .ex (.ibin .or) [.s 54, .s 57]⟩ (.op ⟨some 61, some (52, true), .callf 109 [.s 60]⟩ (.op ⟨some 64, some (52, true), .callf 109 [.s 63]⟩ (.op ⟨some 65, some (52, true), .ex (.ibin .or) [.s 61, .s 64]⟩ (.op ⟨some 66, some (52, true), .ex (.ibin .or) [.s 58, .s 65]⟩ (.op ⟨some 67, some (52, true), .ex (.ibin .and) [.s 66, .k (.int .u64 9259542123273814144)]⟩ (.op ⟨some 68, some (52, true), .ex (.ibin .eql) [.s 67, .k (.int .u64 0)]⟩ (.op ⟨some 69, none, .ex (.pick) [.s 52, .s 68, .k (.bool false)]⟩ .done)))))))))))) (.op ⟨some 63, some (52, true), .ex (.slc 1 true false false) [.s 62, .k (.int .i64 24)]⟩ (.fork (.op ⟨some 57, some (52, true), .callf 109 [.s 56]⟩ (.op ⟨some 58, some (52, true), .ex (.ibin .or) [.s 54, .s 57]⟩ (.op ⟨some 60, some (52, true), .ex (.slc 1 true false false) [.s 59, .k (.int .i64 16)]⟩ (.op ⟨some 61, some (52, true), .callf 109 [.s 60]⟩ (.op ⟨some 64, some (52, true), .callf 109 [.s 63]⟩ (.op ⟨some 65, some (52, true), .ex (.ibin .or) [.s 61, .s 64]⟩ (.op ⟨some 66, some (52, true), .ex (.ibin .or) [.s 58, .s 65]⟩ (.op ⟨some 67, some (52, true), .ex (.ibin .and) [.s 66, .k (.int .u64 9259542123273814144)]⟩ (.op ⟨some 68, some (52, true), .ex (.ibin .eql) [.s 67, .k (.int .u64 0)]⟩ (.op ⟨some 69, none, .ex (.pick) [.s 52, .s 68, .k (.bool false)]⟩ .done)))))))))) (.op ⟨some 60, some (52, true), .ex (.slc 1 true false false) [.s 59, .k (.int .i64 16)]⟩ (.op ⟨some 57, some (52, true), .callf 109 [.s 56]⟩ (.op ⟨some 58, some (52, true), .ex (.ibin .or) [.s 54, .s 57]⟩ (.op ⟨some 61, some (52, true), .callf 109 [.s 60]⟩ (.op ⟨some 64, some (52, true), .callf 109 [.s 63]⟩ (.op ⟨some 65, some (52, true), .ex (.ibin .or) [.s 61, .s 64]⟩ (.op ⟨some 66, some (52, true), .ex (.ibin .or) [.s 58, .s 65]⟩ (.op ⟨some 67, some (52, true), .ex (.ibin .and) [.s 66, .k (.int .u64 9259542123273814144)]⟩ (.op ⟨some 68, some (52, true), .ex (.ibin .eql) [.s 67, .k (.int .u64 0)]⟩ (.op ⟨some 69, none, .ex (.pick) [.s 52, .s 68, .k (.bool false)]⟩ .done)))))))))))))))) (.fork (.op ⟨some 56, some (52, true), .ex (.slc 1 true false false) [.s 55, .k (.int .i64 8)]⟩ (.fork (.op ⟨some 54, some (52, true), .callf 109 [.s 53]⟩ (.fork (.op ⟨some 57, some (52, true), .callf 109 [.s 56]⟩ (.op ⟨some 58, some (52, true), .ex (.ibin .or) [.s 54, .s 57]⟩ (.op ⟨some 60, some (52, true), .ex (.slc 1 true false false) [.s 59, .k (.int .i64 16)]⟩ (.fork (.op ⟨some 61, some (52, true), .callf 109 [.s 60]⟩ (.op ⟨some 63, some (52, true), .ex (.slc 1 true false false) [.s 62, .k (.int .i64 24)]⟩ (.op ⟨some 64, some (52, true), .callf 109 [.s 63]⟩ (.op ⟨some 65, some (52, true), .ex (.ibin .or) [.s 61, .s 64]⟩ (.op ⟨some 66, some (52, true), .ex (.ibin .or) [.s 58, .s 65]⟩ (.op ⟨some 67, some (52, true), .ex (.ibin .and) [.s 66, .k (.int .u64 9259542123273814144)]⟩ (.op ⟨some 68, some (52, true), .ex (.ibin .eql) [.s 67, .k (.int .u64 0)]⟩ (.op ⟨some 69, none, .ex (.pick) [.s 52, .s 68, .k (.bool false)]⟩ .done)))))))) (.op ⟨some 63, some (52, true), .ex (.slc 1 true false false) [.s 62, .k (.int .i64 24)]⟩ (.op ⟨some 61, some (52, true), .callf 109 [.s 60]⟩ (.op ⟨some 64, some (52, true), .callf 109 [.s 63]⟩ (.op ⟨some 65, some (52, true), .ex (.ibin .or) [.s 61, .s 64]⟩ (.op ⟨some 66, some (52, true), .ex (.ibin .or) [.s 58, .s 65]⟩ (.op ⟨some 67, some (52, true), .ex (.ibin .and) [.s 66, .k (.int .u64 9259542123273814144)]⟩ (.op ⟨some 68, some (52, true), .ex (.ibin .eql) [.s 67, .k (.int .u64 0)]⟩ (.op ⟨some 69, none, .ex (.pick) [.s 52, .s 68, .k (.bool false)]⟩ .done)))))))))))) (.fork (.op ⟨some 60, some (52, true), .ex (.slc 1 true false false) [.s 59, .k (.int .i64 16)]⟩ (.fork (.op ⟨some 57, some (52, true), .callf 109 [.s 56]⟩ (.op ⟨some 58, some (52, true), .ex (.ibin .or) [.s 54, .s 57]⟩ (.fork (.op ⟨some 61, some (52, true), .callf 109 [.s 60]⟩ (.op ⟨some 63, some (52, true), .ex (.slc 1 true false false) [.s 62, .k (.int .i64 24)]⟩ (.op ⟨some 64, some (52, true), .callf 109 [.s 63]⟩ (.op ⟨some 65, some (52, true), .ex (.ibin .or) [.s 61, .s 64]⟩ (.op ⟨some 66, some (52, true), .ex (.ibin .or) [.s 58, .s 65]⟩ (.op ⟨some 67, some (52, true), .ex (.ibin .and) [.s 66, .k (.int .u64 9259542123273814144)]⟩ (.op ⟨some 68, some (52, true), .ex (.ibin .eql) [.s 67, .k (.int .u64 0)]⟩ (.op ⟨some 69, none, .ex (.pick) [.s 52, .s 68, .k (.bool false)]⟩ .done)))))))) (.op ⟨some 63, some (52, true), .ex (.slc 1 true false false) [.s 62, .k (.int .i64 24)]⟩ (.op ⟨some 61, some (52, true), .callf 109 [.s 60]⟩ (.op ⟨some 64, some (52, true), .callf 109 [.s 63]⟩ (.op ⟨some 65, some (52, true), .ex (.ibin .or) [.s 61, .s 64]⟩ (.op ⟨some 66, some (52, true), .ex (.ibin .or) [.s 58, .s 65]⟩ (.op ⟨some 67, some (52, true), .ex (.ibin .and) [.s 66, .k (.int .u64 9259542123273814144)]⟩ (.op ⟨some 68, some (52, true), .ex (.ibin .eql) [.s 67, .k (.int .u64 0)]⟩ (.op ⟨some 69, none, .ex (.pick) [.s 52, .s 68, .k (.bool false)]⟩ .done))))))))))) (.op ⟨some 63, some (52, true), .ex (.slc 1 true false false) [.s 62, .k (.int .i64 24)]⟩ (.op ⟨some 57, some (52, true), .callf 109 [.s 56]⟩ (.op ⟨some 58, some (52, true), .ex (.ibin .or) [.s 54, .s 57]⟩ (.op ⟨some 61, some (52, true), .callf 109 [.s 60]⟩ (.op ⟨some 64, some (52, true), .callf 109 [.s 63]⟩ (.op ⟨some 65, some (52, true), .ex (.ibin .or) [.s 61, .s 64]⟩ (.op ⟨some 66, some (52, true), .ex (.ibin .or) [.s 58, .s 65]⟩ (.op ⟨some 67, some (52, true), .ex (.ibin .and) [.s 66, .k (.int .u64 9259542123273814144)]⟩ (.op ⟨some 68, some (52, true), .ex (.ibin .eql) [.s 67, .k (.int .u64 0)]⟩ (.op ⟨some 69, none, .ex (.pick) [.s 52, .s 68, .k (.bool false)]⟩ .done)))))))))))) (.op ⟨some 63, some (52, true), .ex (.slc 1 true false false) [.s 62, .k (.int .i64 24)]⟩ (.fork (.op ⟨some 57, some (52, true), .callf 109 [.s 56]⟩ (.op ⟨some 58, some (52, true), .ex (.ibin .or) [.s 54, .s 57]⟩ (.op ⟨some 60, some (52, true), .ex (.slc 1 true false false) [.s 59, .k (.int .i64 16)]⟩ (.op ⟨some 61, some (52, true), .callf 109 [.s 60]⟩ (.op ⟨some 64, some (52, true), .callf 109 [.s 63]⟩ (.op ⟨some 65, some (52, true), .ex (.ibin .or) [.s 61, .s 64]⟩ (.op ⟨some 66, some (52, true), .ex (.ibin .or) [.s 58, .s 65]⟩ (.op ⟨some 67, some (52, true), .ex (.ibin .and) [.s 66, .k (.int .u64 9259542123273814144)]⟩ (.op ⟨some 68, some (52, true), .ex (.ibin .eql) [.s 67, .k (.int .u64 0)]⟩ (.op ⟨some 69, none, .ex (.pick) [.s 52, .s 68, .k (.bool false)]⟩ .done)))))))))) (.op ⟨some 60, some (52, true), .ex (.slc 1 true false false) [.s 59, .k (.int .i64 16)]⟩ (.op ⟨some 57, some (52, true), .callf 109 [.s 56]⟩ (.op ⟨some 58, some (52, true), .ex (.ibin .or) [.s 54, .s 57]⟩ (.op ⟨some 61, some (52, true), .callf 109 [.s 60]⟩ (.op ⟨some 64, some (52, true), .callf 109 [.s 63]⟩ (.op ⟨some 65, some (52, true), .ex (.ibin .or) [.s 61, .s 64]⟩ (.op ⟨some 66, some (52, true), .ex (.ibin .or) [.s 58, .s 65]⟩ (.op ⟨some 67, some (52, true), .ex (.ibin .and) [.s 66, .k (.int .u64 9259542123273814144)]⟩ (.op ⟨some 68, some (52, true), .ex (.ibin .eql) [.s 67, .k (.int .u64 0)]⟩ (.op ⟨some 69, none, .ex (.pick) [.s 52, .s 68, .k (.bool false)]⟩ .done))))))))))))))) (.fork (.op ⟨some 60, some (52, true), .ex (.slc 1 true false false) [.s 59, .k (.int .i64 16)]⟩ (.fork (.op ⟨some 54, some (52, true), .callf 109 [.s 53]⟩ (.fork (.op ⟨some 57, some (52, true), .callf 109 [.s 56]⟩ (.op ⟨some 58, some (52, true), .ex (.ibin .or) [.s 54, .s 57]⟩ (.fork (.op ⟨some 61, some (52, true), .callf 109 [.s 60]⟩ (.op ⟨some 63, some (52, true), .ex (.slc 1 true false false) [.s 62, .k (.int .i64 24)]⟩ (.op ⟨some 64, some (52, true), .callf 109 [.s 63]⟩ (.op ⟨some 65, some (52, true), .ex (.ibin .or) [.s 61, .s 64]⟩ (.op ⟨some 66, some (52, true), .ex (.ibin .or) [.s 58, .s 65]⟩ (.op ⟨some 67, some (52, true), .ex (.ibin .and) [.s 66, .k (.int .u64 9259542123273814144)]⟩ (.op ⟨some 68, some (52, true), .ex (.ibin .eql) [.s 67, .k (.int .u64 0)]⟩ (.op ⟨some 69, none, .ex (.pick) [.s 52, .s 68, .k (.bool false)]⟩ .done)))))))) (.op ⟨some 63, some (52, true), .ex (.slc 1 true false false) [.s 62, .k (.int .i64 24)]⟩ (.op ⟨some 61, some (52, true), .callf 109 [.s 60]⟩ (.op ⟨some 64, some (52, true), .callf 109 [.s 63]⟩ (.op ⟨some 65, some (52, true), .ex (.ibin .or) [.s 61, .s 64]⟩ (.op ⟨some 66, some (52, true), .ex (.ibin .or) [.s 58, .s 65]⟩ (.op ⟨some 67, some (52, true), .ex (.ibin .and) [.s 66, .k (.int .u64 9259542123273814144)]⟩ (.op ⟨some 68, some (52, true), .ex (.ibin .eql) [.s 67, .k (.int .u64 0)]⟩ (.op ⟨some 69, none, .ex (.pick) [.s 52, .s 68, .k (.bool false)]⟩ .done))))))))))) (.op ⟨some 63, some (52, true), .ex (.slc 1 true false false) [.s 62, .k (.int .i64 24)]⟩ (.op ⟨some 57, some (52, true), .callf 109 [.s 56]⟩ (.op ⟨some 58, some (52, true), .ex (.ibin .or) [.s 54, .s 57]⟩ (.op ⟨some 61, some (52, true), .callf 109 [.s 60]⟩ (.op ⟨some 64, some (52, true), .callf 109 [.s 63]⟩ (.op ⟨some 65, some (52, true), .ex (.ibin .or) [.s 61, .s 64]⟩ (.op ⟨some 66, some (52, true), .ex (.ibin .or) [.s 58, .s 65]⟩ (.op ⟨some 67, some (52, true), .ex (.ibin .and) [.s 66, .k (.int .u64 9259542123273814144)]⟩ (.op ⟨some 68, some (52, true), .ex (.ibin .eql) [.s 67, .k (.int .u64 0)]⟩ (.op ⟨some 69, none, .ex (.pick) [.s 52, .s 68, .k (.bool false)]⟩ .done)))))))))))) (.op ⟨some 63, some (52, true), .ex (.slc 1 true false false) [.s 62, .k (.int .i64 24)]⟩ (.op ⟨some 54, some (52, true), .callf 109 [.s 53]⟩ (.op ⟨some 57, some (52, true), .callf 109 [.s 56]⟩ (.op ⟨some 58, some (52, true), .ex (.ibin .or) [.s 54, .s 57]⟩ (.op ⟨some 61, some (52, true), .callf 109 [.s 60]⟩ (.op ⟨some 64, some (52, true), .callf 109 [.s 63]⟩ (.op ⟨some 65, some (52, true), .ex (.ibin .or) [.s 61, .s 64]⟩ (.op ⟨some 66, some (52, true), .ex (.ibin .or) [.s 58, .s 65]⟩ (.op ⟨some 67, some (52, true), .ex (.ibin .and) [.s 66, .k (.int .u64 9259542123273814144)]⟩ (.op ⟨some 68, some (52, true), .ex (.ibin .eql) [.s 67, .k (.int .u64 0)]⟩ (.op ⟨some 69, none, .ex (.pick) [.s 52, .s 68, .k (.bool false)]⟩ .done))))))))))))) (.op ⟨some 63, some (52, true), .ex (.slc 1 true false false) [.s 62, .k (.int .i64 24)]⟩ (.fork (.op ⟨some 54, some (52, true), .callf 109 [.s 53]⟩ (.fork (.op ⟨some 57, some (52, true), .callf 109 [.s 56]⟩ (.op ⟨some 58, some (52, true), .ex (.ibin .or) [.s 54, .s 57]⟩ (.op ⟨some 60, some (52, true), .ex (.slc 1 true false false) [.s 59, .k (.int .i64 16)]⟩ (.op ⟨some 61, some (52, true), .callf 109 [.s 60]⟩ (.op ⟨some 64, some (52, true), .callf 109 [.s 63]⟩ (.op ⟨some 65, some (52, true), .ex (.ibin .or) [.s 61, .s 64]⟩ (.op ⟨some 66, some (52, true), .ex (.ibin .or) [.s 58, .s 65]⟩ (.op ⟨some 67, some (52, true), .ex (.ibin .and) [.s 66, .k (.int .u64 9259542123273814144)]⟩ (.op ⟨some 68, some (52, true), .ex (.ibin .eql) [.s 67, .k (.int .u64 0)]⟩ (.op ⟨some 69, none, .ex (.pick) [.s 52, .s 68, .k (.bool false)]⟩ .done)))))))))) (.op ⟨some 60, some (52, true), .ex (.slc 1 true false false) [.s 59, .k (.int .i64 16)]⟩ (.op ⟨some 57, some (52, true), .callf 109 [.s 56]⟩ (.op ⟨some 58, some (52, true), .ex (.ibin .or) [.s 54, .s 57]⟩ (.op ⟨some 61, some (52, true), .callf 109 [.s 60]⟩ (.op ⟨some 64, some (52, true), .callf 109 [.s 63]⟩ (.op ⟨some 65, some (52, true), .ex (.ibin .or) [.s 61, .s 64]⟩ (.op ⟨some 66, some (52, true), .ex (.ibin .or) [.s 58, .s 65]⟩ (.op ⟨some 67, some (52, true), .ex (.ibin .and) [.s 66, .k (.int .u64 9259542123273814144)]⟩ (.op ⟨some 68, some (52, true), .ex (.ibin .eql) [.s 67, .k (.int .u64 0)]⟩ (.op ⟨some 69, none, .ex (.pick) [.s 52, .s 68, .k (.bool false)]⟩ .done)))))))))))) (.op ⟨some 60, some (52, true), .ex (.slc 1 true false false) [.s 59, .k (.int .i64 16)]⟩ (.op ⟨some 54, some (52, true), .callf 109 [.s 53]⟩ (.op ⟨some 57, some (52, true), .callf 109 [.s 56]⟩ (.op ⟨some 58, some (52, true), .ex (.ibin .or) [.s 54, .s 57]⟩ (.op ⟨some 61, some (52, true), .callf 109 [.s 60]⟩ (.op ⟨some 64, some (52, true), .callf 109 [.s 63]⟩ (.op ⟨some 65, some (52, true), .ex (.ibin .or) [.s 61, .s 64]⟩ (.op ⟨some 66, some (52, true), .ex (.ibin .or) [.s 58, .s 65]⟩ (.op ⟨some 67, some (52, true), .ex (.ibin .and) [.s 66, .k (.int .u64 9259542123273814144)]⟩ (.op ⟨some 68, some (52, true), .ex (.ibin .eql) [.s 67, .k (.int .u64 0)]⟩ (.op ⟨some 69, none, .ex (.pick) [.s 52, .s 68, .k (.bool false)]⟩ .done)))))))))))))))) (.fork (.op ⟨some 60, some (52, true), .ex (.slc 1 true false false) [.s 59, .k (.int .i64 16)]⟩ (.fork (.op ⟨some 54, some (52, true), .callf 109 [.s 53]⟩ (.op ⟨some 56, some (52, true), .ex (.slc 1 true false false) [.s 55, .k (.int .i64 8)]⟩ (.fork (.op ⟨some 57, some (52, true), .callf 109 [.s 56]⟩ (.op ⟨some 58, some (52, true), .ex (.ibin .or) [.s 54, .s 57]⟩ (.fork (.op ⟨some 61, some (52, true), .callf 109 [.s 60]⟩ (.op ⟨some 63, some (52, true), .ex (.slc 1 true false false) [.s 62, .k (.int .i64 24)]⟩ (.op ⟨some 64, some (52, true), .callf 109 [.s 63]⟩ (.op ⟨some 65, some (52, true), .ex (.ibin .or) [.s 61, .s 64]⟩ (.op ⟨some 66, some (52, true), .ex (.ibin .or) [.s 58, .s 65]⟩ (.op ⟨some 67, some (52, true), .ex (.ibin .and) [.s 66, .k (.int .u64 9259542123273814144)]⟩ (.op ⟨some 68, some (52, true), .ex (.ibin .eql) [.s 67, .k (.int .u64 0)]⟩ (.op ⟨some 69, none, .ex (.pick) [.s 52, .s 68, .k (.bool false)]⟩ .done)))))))) (.op ⟨some 63, some (52, true), .ex (.slc 1 true false false) [.s 62, .k (.int .i64 24)]⟩ (.op ⟨some 61, some (52, true), .callf 109 [.s 60]⟩ (.op ⟨some 64, some (52, true), .callf 109 [.s 63]⟩ (.op ⟨some 65, some (52, true), .ex (.ibin .or) [.s 61, .s 64]⟩ (.op ⟨some 66, some (52, true), .ex (.ibin .or) [.s 58, .s 65]⟩ (.op ⟨some 67, some (52, true), .ex (.ibin .and) [.s 66, .k (.int .u64 9259542123273814144)]⟩ (.op ⟨some 68, some (52, true), .ex (.ibin .eql) [.s 67, .k (.int .u64 0)]⟩ (.op ⟨some 69, none, .ex (.pick) [.s 52, .s 68, .k (.bool false)]⟩ .done))))))))))) (.op ⟨some 63, some (52, true), .ex (.slc 1 true false false) [.s 62, .k (.int .i64 24)]⟩ (.op ⟨some 57, some (52, true), .callf 109 [.s 56]⟩ (.op ⟨some 58, some (52, true), .ex (.ibin .or) [.s 54, .s 57]⟩ (.op ⟨some 61, some (52, true), .callf 109 [.s 60]⟩ (.op ⟨some 64, some (52, true), .callf 109 [.s 63]⟩ (.op ⟨some 65, some (52, true), .ex (.ibin .or) [.s 61, .s 64]⟩ (.op ⟨some 66, some (52, true), .ex (.ibin .or) [.s 58, .s 65]⟩ (.op ⟨some 67, some (52, true), .ex (.ibin .and) [.s 66, .k (.int .u64 9259542123273814144)]⟩ (.op ⟨some 68, some (52, true), .ex (.ibin .eql) [.s 67, .k (.int .u64 0)]⟩ (.op ⟨some 69, none, .ex (.pick) [.s 52, .s 68, .k (.bool false)]⟩ .done))))))))))))) (.fork (.op ⟨some 56, some (52, true), .ex (.slc 1 true false false) [.s 55, .k (.int .i64 8)]⟩ (.fork (.op ⟨some 54, some (52, true), .callf 109 [.s 53]⟩ (.fork (.op ⟨some 57, some (52, true), .callf 109 [.s 56]⟩ (.op ⟨some 58, some (52, true), .ex (.ibin .or) [.s 54, .s 57]⟩ (.fork (.op ⟨some 61, some (52, true), .callf 109 [.s 60]⟩ (.op ⟨some 63, some (52, true), .ex (.slc 1 true false false) [.s 62, .k (.int .i64 24)]⟩ (.op ⟨some 64, some (52, true), .callf 109 [.s 63]⟩ (.op ⟨some 65, some (52, true), .ex (.ibin .or) [.s 61, .s 64]⟩ (.op ⟨some 66, some (52, true), .ex (.ibin .or) [.s 58, .s 65]⟩ (.op ⟨some 67, some (52, true), .ex (.ibin .and) [.s 66, .k (.int .u64 9259542123273814144)]⟩ (.op ⟨some 68, some (52, true), .ex (.ibin .eql) [.s 67, .k (.int .u64 0)]⟩ (.op ⟨some 69, none, .ex (.pick) [.s 52, .s 68, .k (.bool false)]⟩ .done)))))))) (.op ⟨some 63, some (52, true), .ex (.slc 1 true false false) [.s 62, .k (.int .i64 24)]⟩ (.op ⟨some 61, some (52, true), .callf 109 [.s 60]⟩ (.op ⟨some 64, some (52, true), .callf 109 [.s 63]⟩ (.op ⟨some 65, some (52, true), .ex (.ibin .or) [.s 61, .s 64]⟩ (.op ⟨some 66, some (52, true), .ex (.ibin .or) [.s 58, .s 65]⟩ (.op ⟨some 67, some (52, true), .ex (.ibin .and) [.s 66, .k (.int .u64 9259542123273814144)]⟩ (.op ⟨some 68, some (52, true), .ex (.ibin .eql) [.s 67, .k (.int .u64 0)]⟩ (.op ⟨some 69, none, .ex (.pick) [.s 52, .s 68, .k (.bool false)]⟩ .done))))))))))) (.op ⟨some 63, some (52, true), .ex (.slc 1 true false false) [.s 62, .k (.int .i64 24)]⟩ (.op ⟨some 57, some (52, true), .callf 109 [.s 56]⟩ (.op ⟨some 58, some (52, true), .ex (.ibin .or) [.s 54, .s 57]⟩ (.op ⟨some 61, some (52, true), .callf 109 [.s 60]⟩ (.op ⟨some 64, some (52, true), .callf 109 [.s 63]⟩ (.op ⟨some 65, some (52, true), .ex (.ibin .or) [.s 61, .s 64]⟩ (.op ⟨some 66, some (52, true), .ex (.ibin .or) [.s 58, .s 65]⟩ (.op ⟨some 67, some (52, true), .ex (.ibin .and) [.s 66, .k (.int .u64 9259542123273814144)]⟩ (.op ⟨some 68, some (52, true), .ex (.ibin .eql) [.s 67, .k (.int .u64 0)]⟩ (.op ⟨some 69, none, .ex (.pick) [.s 52, .s 68, .k (.bool false)]⟩ .done)))))))))))) (.op ⟨some 63, some (52, true), .ex (.slc 1 true false false) [.s 62, .k (.int .i64 24)]⟩ (.op ⟨some 54, some (52, true), .callf 109 [.s 53]⟩ (.op ⟨some 57, some (52, true), .callf 109 [.s 56]⟩ (.op ⟨some 58, some (52, true), .ex (.ibin .or) [.s 54, .s 57]⟩ (.op ⟨some 61, some (52, true), .callf 109 [.s 60]⟩ (.op ⟨some 64, some (52, true), .callf 109 [.s 63]⟩ (.op ⟨some 65, some (52, true), .ex (.ibin .or) [.s 61, .s 64]⟩ (.op ⟨some 66, some (52, true), .ex (.ibin .or) [.s 58, .s 65]⟩ (.op ⟨some 67, some (52, true), .ex (.ibin .and) [.s 66, .k (.int .u64 9259542123273814144)]⟩ (.op ⟨some 68, some (52, true), .ex (.ibin .eql) [.s 67, .k (.int .u64 0)]⟩ (.op ⟨some 69, none, .ex (.pick) [.s 52, .s 68, .k (.bool false)]⟩ .done))))))))))))) (.op ⟨some 63, some (52, true), .ex (.slc 1 true false false) [.s 62, .k (.int .i64 24)]⟩ (.fork (.op ⟨some 54, some (52, true), .callf 109 [.s 53]⟩ (.op ⟨some 56, some (52, true), .ex (.slc 1 true false false) [.s 55, .k (.int .i64 8)]⟩ (.op ⟨some 57, some (52, true), .callf 109 [.s 56]⟩ (.op ⟨some 58, some (52, true), .ex (.ibin .or) [.s 54, .s 57]⟩ (.op ⟨some 61, some (52, true), .callf 109 [.s 60]⟩ (.op ⟨some 64, some (52, true), .callf 109 [.s 63]⟩ (.op ⟨some 65, some (52, true), .ex (.ibin .or) [.s 61, .s 64]⟩ (.op ⟨some 66, some (52, true), .ex (.ibin .or) [.s 58, .s 65]⟩ (.op ⟨some 67, some (52, true), .ex (.ibin .and) [.s 66, .k (.int .u64 9259542123273814144)]⟩ (.op ⟨some 68, some (52, true), .ex (.ibin .eql) [.s 67, .k (.int .u64 0)]⟩ (.op ⟨some 69, none, .ex (.pick) [.s 52, .s 68, .k (.bool false)]⟩ .done))))))))))) (.op ⟨some 56, some (52, true), .ex (.slc 1 true false false) [.s 55, .k (.int .i64 8)]⟩ (.op ⟨some 54, some (52, true), .callf 109 [.s 53]⟩ (.op ⟨some 57, some (52, true), .callf 109 [.s 56]⟩ (.op ⟨some 58, some (52, true), .ex (.ibin .or) [.s 54, .s 57]⟩ (.op ⟨some 61, some (52, true), .callf 109 [.s 60]⟩ (.op ⟨some 64, some (52, true), .callf 109 [.s 63]⟩ (.op ⟨some 65, some (52, true), .ex (.ibin .or) [.s 61, .s 64]⟩ (.op ⟨some 66, some (52, true), .ex (.ibin .or) [.s 58, .s 65]⟩ (.op ⟨some 67, some (52, true), .ex (.ibin .and) [.s 66, .k (.int .u64 9259542123273814144)]⟩ (.op ⟨some 68, some (52, true), .ex (.ibin .eql) [.s 67, .k (.int .u64 0)]⟩ (.op ⟨some 69, none, .ex (.pick) [.s 52, .s 68, .k (.bool false)]⟩ .done)))))))))))))))) (.op ⟨some 63, some (52, true), .ex (.slc 1 true false false) [.s 62, .k (.int .i64 24)]⟩ (.fork (.op ⟨some 54, some (52, true), .callf 109 [.s 53]⟩ (.op ⟨some 56, some (52, true), .ex (.slc 1 true false false) [.s 55, .k (.int .i64 8)]⟩ (.fork (.op ⟨some 57, some (52, true), .callf 109 [.s 56]⟩ (.op ⟨some 58, some (52, true), .ex (.ibin .or) [.s 54, .s 57]⟩ (.op ⟨some 60, some (52, true), .ex (.slc 1 true false false) [.s 59, .k (.int .i64 16)]⟩ (.op ⟨some 61, some (52, true), .callf 109 [.s 60]⟩ (.op ⟨some 64, some (52, true), .callf 109 [.s 63]⟩ (.op ⟨some 65, some (52, true), .ex (.ibin .or) [.s 61, .s 64]⟩ (.op ⟨some 66, some (52, true), .ex (.ibin .or) [.s 58, .s 65]⟩ (.op ⟨some 67, some (52, true), .ex (.ibin .and) [.s 66, .k (.int .u64 9259542123273814144)]⟩ (.op ⟨some 68, some (52, true), .ex (.ibin .eql) [.s 67, .k (.int .u64 0)]⟩ (.op ⟨some 69, none, .ex (.pick) [.s 52, .s 68, .k (.bool false)]⟩ .done)))))))))) (.op ⟨some 60, some (52, true), .ex (.slc 1 true false false) [.s 59, .k (.int .i64 16)]⟩ (.op ⟨some 57, some (52, true), .callf 109 [.s 56]⟩ (.op ⟨some 58, some (52, true), .ex (.ibin .or) [.s 54, .s 57]⟩ (.op ⟨some 61, some (52, true), .callf 109 [.s 60]⟩ (.op ⟨some 64, some (52, true), .callf 109 [.s 63]⟩ (.op ⟨some 65, some (52, true), .ex (.ibin .or) [.s 61, .s 64]⟩ (.op ⟨some 66, some (52, true), .ex (.ibin .or) [.s 58, .s 65]⟩ (.op ⟨some 67, some (52, true), .ex (.ibin .and) [.s 66, .k (.int .u64 9259542123273814144)]⟩ (.op ⟨some 68, some (52, true), .ex (.ibin .eql) [.s 67, .k (.int .u64 0)]⟩ (.op ⟨some 69, none, .ex (.pick) [.s 52, .s 68, .k (.bool false)]⟩ .done))))))))))))) (.fork (.op ⟨some 56, some (52, true), .ex (.slc 1 true false false) [.s 55, .k (.int .i64 8)]⟩ (.fork (.op ⟨some 54, some (52, true), .callf 109 [.s 53]⟩ (.fork (.op ⟨some 57, some (52, true), .callf 109 [.s 56]⟩ (.op ⟨some 58, some (52, true), .ex (.ibin .or) [.s 54, .s 57]⟩ (.op ⟨some 60, some (52, true), .ex (.slc 1 true false false) [.s 59, .k (.int .i64 16)]⟩ (.op ⟨some 61, some (52, true), .callf 109 [.s 60]⟩ (.op ⟨some 64, some (52, true), .callf 109 [.s 63]⟩ (.op ⟨some 65, some (52, true), .ex (.ibin .or) [.s 61, .s 64]⟩ (.op ⟨some 66, some (52, true), .ex (.ibin .or) [.s 58, .s 65]⟩ (.op ⟨some 67, some (52, true), .ex (.ibin .and) [.s 66, .k (.int .u64 9259542123273814144)]⟩ (.op ⟨some 68, some (52, true), .ex (.ibin .eql) [.s 67, .k (.int .u64 0)]⟩ (.op ⟨some 69, none, .ex (.pick) [.s 52, .s 68, .k (.bool false)]⟩ .done)))))))))) (.op ⟨some 60, some (52, true), .ex (.slc 1 true false false) [.s 59, .k (.int .i64 16)]⟩ (.op ⟨some 57, some (52, true), .callf 109 [.s 56]⟩ (.op ⟨some 58, some (52, true), .ex (.ibin .or) [.s 54, .s 57]⟩ (.op ⟨some 61, some (52, true), .callf 109 [.s 60]⟩ (.op ⟨some 64, some (52, true), .callf 109 [.s 63]⟩ (.op ⟨some 65, some (52, true), .ex (.ibin .or) [.s 61, .s 64]⟩ (.op ⟨some 66, some (52, true), .ex (.ibin .or) [.s 58, .s 65]⟩ (.op ⟨some 67, some (52, true), .ex (.ibin .and) [.s 66, .k (.int .u64 9259542123273814144)]⟩ (.op ⟨some 68, some (52, true), .ex (.ibin .eql) [.s 67, .k (.int .u64 0)]⟩ (.op ⟨some 69, none, .ex (.pick) [.s 52, .s 68, .k (.bool false)]⟩ .done)))))))))))) (.op ⟨some 60, some (52, true), .ex (.slc 1 true false false) [.s 59, .k (.int .i64 16)]⟩ (.op ⟨some 54, some (52, true), .callf 109 [.s 53]⟩ (.op ⟨some 57, some (52, true), .callf 109 [.s 56]⟩ (.op ⟨some 58, some (52, true), .ex (.ibin .or) [.s 54, .s 57]⟩ (.op ⟨some 61, some (52, true), .callf 109 [.s 60]⟩ (.op ⟨some 64, some (52, true), .callf 109 [.s 63]⟩ (.op ⟨some 65, some (52, true), .ex (.ibin .or) [.s 61, .s 64]⟩ (.op ⟨some 66, some (52, true), .ex (.ibin .or) [.s 58, .s 65]⟩ (.op ⟨some 67, some (52, true), .ex (.ibin .and) [.s 66, .k (.int .u64 9259542123273814144)]⟩ (.op ⟨some 68, some (52, true), .ex (.ibin .eql) [.s 67, .k (.int .u64 0)]⟩ (.op ⟨some 69, none, .ex (.pick) [.s 52, .s 68, .k (.bool false)]⟩ .done))))))))))))) (.op ⟨some 60, some (52, true), .ex (.slc 1 true false false) [.s 59, .k (.int .i64 16)]⟩ (.fork (.op ⟨some 54, some (52, true), .callf 109 [.s 53]⟩ (.op ⟨some 56, some (52, true), .ex (.slc 1 true false false) [.s 55, .k (.int .i64 8)]⟩ (.op ⟨some 57, some (52, true), .callf 109 [.s 56]⟩ (.op ⟨some 58, some (52, true), .ex (.ibin .or) [.s 54, .s 57]⟩ (.op ⟨some 61, some (52, true), .callf 109 [.s 60]⟩ (.op ⟨some 64, some (52, true), .callf 109 [.s 63]⟩ (.op ⟨some 65, some (52, true), .ex (.ibin .or) [.s 61, .s 64]⟩ (.op ⟨some 66, some (52, true), .ex (.ibin .or) [.s 58, .s 65]⟩ (.op ⟨some 67, some (52, true), .ex (.ibin .and) [.s 66, .k (.int .u64 9259542123273814144)]⟩ (.op ⟨some 68, some (52, true), .ex (.ibin .eql) [.s 67, .k (.int .u64 0)]⟩ (.op ⟨some 69, none, .ex (.pick) [.s 52, .s 68, .k (.bool false)]⟩ .done))))))))))) (.op ⟨some 56, some (52, true), .ex (.slc 1 true false false) [.s 55, .k (.int .i64 8)]⟩ (.op ⟨some 54, some (52, true), .callf 109 [.s 53]⟩ (.op ⟨some 57, some (52, true), .callf 109 [.s 56]⟩ (.op ⟨some 58, some (52, true), .ex (.ibin .or) [.s 54, .s 57]⟩ (.op ⟨some 61, some (52, true), .callf 109 [.s 60]⟩ (.op ⟨some 64, some (52, true), .callf 109 [.s 63]⟩ (.op ⟨some 65, some (52, true), .ex (.ibin .or) [.s 61, .s 64]⟩ (.op ⟨some 66, some (52, true), .ex (.ibin .or) [.s 58, .s 65]⟩ (.op ⟨some 67, some (52, true), .ex (.ibin .and) [.s 66, .k (.int .u64 9259542123273814144)]⟩ (.op ⟨some 68, some (52, true), .ex (.ibin .eql) [.s 67, .k (.int .u64 0)]⟩ (.op ⟨some 69, none, .ex (.pick) [.s 52, .s 68, .k (.bool false)]⟩ .done))))))))))))))))))))))))))))
                        (.cond (.s 69)
                         .skip
                         (.exit 2)))
                       (.block 3
                        (.region [⟨some 70, none, .ex (.mov) [.s 0]⟩,
                          ⟨some 71, none, .ex (.slc 1 true false false) [.s 70, .k (.int .i64 32)]⟩,
                          ⟨some 0, none, .ex (.mov) [.s 71]⟩]))))

def P32 (F : Heap) (c : List Int) (id off : Nat) (e : Exit) (f : Fr) (G : Heap) : Prop :=
  G = F ∧ ((e = .normal ∧ and64 (or64 (or64 (wordF c) (wordF (c.drop 8))) (or64 (wordF (c.drop 16)) (wordF (c.drop 24)))) hi64 = 0 ∧ f.get 0 = some (.slice id (off + 32 * 1) (c.drop 32).length (some (c.drop 32).length)))
    ∨ (e = .exit 2 ∧ ¬ and64 (or64 (or64 (wordF c) (wordF (c.drop 8))) (or64 (wordF (c.drop 16)) (wordF (c.drop 24)))) hi64 = 0 ∧ f.get 0 = some (.slice id off c.length (some c.length))))

set_option maxRecDepth 100000 in
set_option maxHeartbeats 4000000 in
theorem inner32 {G : Heap} {id off : Nat} {c3 : List Int} (hB3 : Byt G id off c3) (hl : c3.length ≤ 1048576) (hsm3 : ∀ b ∈ c3, 0 ≤ b ∧ b < 256) {Q : Exit → Fr → Heap → Prop}
    (fin : ∀ (off : Nat) (c : List Int) (fr2 : Fr), skip32 c3.length c3 = c → Byt G id off c → c.length ≤ c3.length → (∀ b ∈ c, 0 ≤ b ∧ b < 256) → FrSub [(0, .slice id off c.length (some c.length))] fr2 → Q (.exit 2) fr2 G)
    {fr : Fr} (h0 : fr.get 0 = some (.slice id off c3.length (some c3.length))) : wpC (SCalls PP) v108loop fr G Q := by
  have hlen : ∀ (id off n : Nat) c G, exec .len [.slice id off n c] G = some (.int .i64 n, G) := fun _ _ _ _ _ => rfl
  unfold v108loop
  refine wp_loopI (fun m fr F => F = G ∧ ∃ (off : Nat) (c : List Int) (k : Nat), m = c.length ∧ Byt G id off c ∧ c.length ≤ k ∧ c.length ≤ c3.length ∧ skip32 k c = skip32 c3.length c3 ∧ (∀ b ∈ c, 0 ≤ b ∧ b < 256) ∧ FrSub [(0, .slice id off c.length (some c.length))] fr) c3.length ⟨rfl, _, c3, _, rfl, hB3, Nat.le_refl _, Nat.le_refl _, rfl, hsm3, .cons h0 .nil⟩ ?_
  rintro m fr F ⟨rfl, off, c, k, rfl, hC, hk, hkl, hs, hsc, hsub⟩
  refine ⟨_, hsub, ?_⟩
  by_cases h32 : (c.length : Int) > 32
  rotate_left
  · have e : skip32 c3.length c3 = c := by rw [← hs, skip32_stop (by omega)]
    simp only [stp, if_true, if_false, Int.reduceEq, Int.reduceLT, Int.reduceLE, Int.reduceGT, Int.reduceGE, reduceCtorEq, Nat.reduceEqDiff, List.getElem?_cons_zero, List.getElem?_cons_succ, Option.map_some, hlen, h32, Bool.false_eq_true]
    repeat' with_reducible refine And.intro ?_ ?_
    all_goals exact fin _ c _ e hC hkl hsc (.cons rfl .nil)
  obtain ⟨k, rfl⟩ : ∃ j, k = j + 1 := ⟨k - 1, by omega⟩
  have v0 := word_ok hC (by omega : 8 ≤ c.length)
  have t8 : exec (.slc 1 true false false) [.slice id off c.length (some c.length), .int .i64 8] F = some (.slice id (off + 8 * 1) (c.drop 8).length (some (c.drop 8).length), F) := hC.slc (k := 8) (by omega)
  have v1 := word_ok (hC.drop 8) (by simp; omega : 8 ≤ (c.drop 8).length)
  have t16 : exec (.slc 1 true false false) [.slice id off c.length (some c.length), .int .i64 16] F = some (.slice id (off + 16 * 1) (c.drop 16).length (some (c.drop 16).length), F) := hC.slc (k := 16) (by omega)
  have v2 := word_ok (hC.drop 16) (by simp; omega : 8 ≤ (c.drop 16).length)
  have t24 : exec (.slc 1 true false false) [.slice id off c.length (some c.length), .int .i64 24] F = some (.slice id (off + 24 * 1) (c.drop 24).length (some (c.drop 24).length), F) := hC.slc (k := 24) (by omega)
  have v3 := word_ok (hC.drop 24) (by simp; omega : 8 ≤ (c.drop 24).length)
  have t32 : exec (.slc 1 true false false) [.slice id off c.length (some c.length), .int .i64 32] F = some (.slice id (off + 32 * 1) (c.drop 32).length (some (c.drop 32).length), F) := hC.slc (k := 32) (by omega)
  refine wpC_mono SCalls.scMono _ _ _ (P32 F c id off) _ ?_ ?_
  · by_cases ha32 : and64 (or64 (or64 (wordF c) (wordF (c.drop 8))) (or64 (wordF (c.drop 16)) (wordF (c.drop 24)))) hi64 = 0
    · have done : ∀ f, f.get 0 = some (.slice id (off + 32 * 1) (c.drop 32).length (some (c.drop 32).length)) → P32 F c id off .normal f F := fun f hf => ⟨rfl, .inl ⟨rfl, ha32, hf⟩⟩
      simp only [stp, if_true, if_false, Int.reduceEq, Int.reduceLT, Int.reduceLE, Int.reduceGT, Int.reduceGE, reduceCtorEq, Nat.reduceEqDiff, List.getElem?_cons_zero, List.getElem?_cons_succ, Option.map_some, hlen, h32, Bool.false_eq_true]
      repeat' first | with_reducible refine v0 _ ?_ | with_reducible refine v1 _ ?_ | with_reducible refine v2 _ ?_ | with_reducible refine v3 _ ?_ | simp only [stp, if_true, if_false, Int.reduceEq, Int.reduceLT, Int.reduceLE, Int.reduceGT, Int.reduceGE, reduceCtorEq, Nat.reduceEqDiff, List.getElem?_cons_zero, List.getElem?_cons_succ, Option.map_some, t8, t16, t24, t32, x_or, x_and, ha32, Bool.false_eq_true] | with_reducible refine And.intro ?_ ?_
      all_goals exact done _ rfl
    · have done : ∀ f, f.get 0 = some (.slice id off c.length (some c.length)) → P32 F c id off (.exit 2) f F := fun f hf => ⟨rfl, .inr ⟨rfl, ha32, hf⟩⟩
      simp only [stp, if_true, if_false, Int.reduceEq, Int.reduceLT, Int.reduceLE, Int.reduceGT, Int.reduceGE, reduceCtorEq, Nat.reduceEqDiff, List.getElem?_cons_zero, List.getElem?_cons_succ, Option.map_some, hlen, h32, Bool.false_eq_true]
      repeat' first | with_reducible refine v0 _ ?_ | with_reducible refine v1 _ ?_ | with_reducible refine v2 _ ?_ | with_reducible refine v3 _ ?_ | simp only [stp, if_true, if_false, Int.reduceEq, Int.reduceLT, Int.reduceLE, Int.reduceGT, Int.reduceGE, reduceCtorEq, Nat.reduceEqDiff, List.getElem?_cons_zero, List.getElem?_cons_succ, Option.map_some, t8, t16, t24, x_or, x_and, ha32, Bool.false_eq_true] | with_reducible refine And.intro ?_ ?_
      all_goals exact done _ rfl
  · rintro e f G' ⟨rfl, ⟨rfl, ha, hg⟩ | ⟨rfl, ha, hg⟩⟩
    · rw [skip32, if_pos ⟨by omega, ha⟩] at hs
      exact ⟨(c.drop 32).length, by simp; omega, rfl, _, _, k, rfl, hC.drop 32, by simp; omega, by simp; omega, hs, fun b hb => hsc b (List.mem_of_mem_drop hb), .cons hg .nil⟩
    · have e : skip32 c3.length c3 = c := by rw [← hs, skip32_stop (fun h => ha h.2)]
      exact fin _ c _ e hC hkl hsc (.cons hg .nil)

set_option maxRecDepth 100000 in
set_option maxHeartbeats 4000000 in
theorem valid_calls {H : Heap} (hT : Tabs H) {id off : Nat} {bs : List Int} (hp : SL H (.slice id off bs.length none) 1 (byteR bs)) (hl : bs.length ≤ big) (hr : ∀ b ∈ bs, 0 ≤ b ∧ b < 256) :
    SCalls PP 108 [.slice id off bs.length none] H fun r H' => H' = H ∧ r = .bool (vF bs.length bs) := by
  refine SCalls.keep (R := fun r => r = .bool (vF bs.length bs)) (SCalls.go c108 (by simp [fn108]) fun hw => ?_)
  unfold big at hl
  have hlen : ∀ (id off n : Nat) c G, exec .len [.slice id off n c] G = some (.int .i64 n, G) := fun _ _ _ _ _ => rfl
  have hfull : exec (.slc 1 false true true) [.slice id off bs.length none, .int .i64 bs.length, .int .i64 bs.length] H = some (.slice id off bs.length (some bs.length), H) := by
    simp [exec, bounds3, natV, slcOk]
  simp only [fn108, enterFr, List.length, List.range, List.range.loop, List.zip, List.zipWith, stp, if_true, if_false, Int.reduceEq, Int.reduceLT, Int.reduceLE, Int.reduceGT, Int.reduceGE, reduceCtorEq, Nat.reduceEqDiff, List.getElem?_cons_zero, List.getElem?_cons_succ, Option.map_some, hlen, hfull]
  refine wp_loopI (fun m fr G => ∃ (off : Nat) (cur : List Int) (n : Nat), m = cur.length ∧ Ext H G ∧ WF G ∧ Byt G id off cur ∧ cur.length ≤ n ∧ vF n cur = vF bs.length bs ∧ (∀ b ∈ cur, 0 ≤ b ∧ b < 256) ∧ cur.length ≤ 1048576 ∧
    FrSub [(0, .slice id off cur.length (some cur.length))] fr) bs.length ⟨off, bs, bs.length, rfl, Ext.refl H, hw, by have := sl_drop (k := 0) (c' := some bs.length) hp; simpa [Byt] using this, Nat.le_refl _, rfl, hr, hl, .cons rfl .nil⟩ ?_
  rintro m fr G ⟨off, cur, n, rfl, hx, hw', hB, hn, hv, hrg, hcl, hsub⟩
  refine ⟨_, hsub, ?_⟩
  rcases hc : cur with _ | ⟨b0, t⟩
  · subst hc
    simp only [stp, if_true, if_false, Int.reduceEq, Int.reduceLT, Int.reduceLE, Int.reduceGT, Int.reduceGE, reduceCtorEq, Nat.reduceEqDiff, List.getElem?_cons_zero, List.getElem?_cons_succ, Option.map_some, hlen, List.length_nil, Int.natCast_zero, gt_iff_lt, Int.lt_irrefl]
    rw [vF_nil] at hv
    exact ⟨hx, by rw [← hv], rfl⟩
  rw [← hc]
  have hpos : (cur.length : Int) > 0 := by rw [hc, List.length_cons]; omega
  obtain ⟨n, rfl⟩ : ∃ k, n = k + 1 := ⟨n - 1, by omega⟩
  rw [hc, vF, ← hc] at hv
  have hb0 : cur.getD 0 0 = b0 := by rw [hc]; rfl
  obtain ⟨i0, d0⟩ := hB.ia (i := 0) (by omega)
  rw [hb0] at d0
  have i0' : exec (.ia 1) [.slice id off cur.length (some cur.length), .int .i64 0] G = some (.ptr id (off + 0), G) := i0
  obtain ⟨g0, g1⟩ := hrg b0 (by rw [hc]; simp)
  have drp : ∀ k, ∀ b ∈ cur.drop k, 0 ≤ b ∧ b < 256 := fun k b hb => hrg b (List.mem_of_mem_drop hb)
  by_cases ha : b0 < 128
  · -- ASCII
    have hv' : vF n (skipA (cur.drop 1)) = vF bs.length bs := by rw [← hv]; simp only [vStep, if_pos ha]
    have s1 : exec (.slc 1 true false false) [.slice id off cur.length (some cur.length), .int .i64 1] G = some (.slice id (off + 1 * 1) (cur.drop 1).length (some (cur.drop 1).length), G) := hB.slc (k := 1) (by omega)
    have hB1 := hB.drop 1
    have hl1 : (cur.drop 1).length = cur.length - 1 := by simp
    generalize hc1 : cur.drop 1 = c1 at *
    have hsm : ∀ b ∈ c1, 0 ≤ b ∧ b < 256 := by rw [← hc1]; exact drp 1
    have fin : ∀ (off' : Nat) (c2 : List Int) (fr2 : Fr), skipA c1 = c2 → Byt G id off' c2 → c2.length ≤ c1.length → (∀ b ∈ c2, 0 ≤ b ∧ b < 256) → FrSub [(0, .slice id off' c2.length (some c2.length))] fr2 →
        ∃ k', k' < cur.length ∧ ∃ (off : Nat) (cur : List Int) (n : Nat), k' = cur.length ∧ Ext H G ∧ WF G ∧ Byt G id off cur ∧ cur.length ≤ n ∧ vF n cur = vF bs.length bs ∧ (∀ b ∈ cur, 0 ≤ b ∧ b < 256) ∧ cur.length ≤ 1048576 ∧ FrSub [(0, .slice id off cur.length (some cur.length))] fr2 := by
      intro off' c2 fr2 e1 e2 e3 e4 e5
      exact ⟨c2.length, by omega, off', c2, n, rfl, hx, hw', e2, by omega, by rw [← e1]; exact hv', e4, by omega, e5⟩
    by_cases h8 : (c1.length : Int) > 8
    rotate_left
    · have e : skipA c1 = c1 := by rw [skipA, if_neg (by omega)]
      simp only [stp, if_true, if_false, Int.reduceEq, Int.reduceLT, Int.reduceLE, Int.reduceGT, Int.reduceGE, reduceCtorEq, Nat.reduceEqDiff, List.getElem?_cons_zero, List.getElem?_cons_succ, Option.map_some, hlen, hpos, i0', d0, ha, s1, h8, Bool.false_eq_true]
      exact fin _ c1 _ e hB1 (Nat.le_refl _) hsm (.cons rfl .nil)
    have w1 := word_ok hB1 (by omega : 8 ≤ c1.length)
    by_cases ha8 : and64 (wordF c1) hi64 = 0
    rotate_left
    · have e : skipA c1 = c1 := by rw [skipA, if_neg (fun h => ha8 h.2)]
      simp only [stp, if_true, if_false, Int.reduceEq, Int.reduceLT, Int.reduceLE, Int.reduceGT, Int.reduceGE, reduceCtorEq, Nat.reduceEqDiff, List.getElem?_cons_zero, List.getElem?_cons_succ, Option.map_some, hlen, hpos, i0', d0, ha, s1, h8, Bool.false_eq_true]
      refine w1 _ ?_
      simp only [stp, if_true, if_false, Int.reduceEq, Int.reduceLT, Int.reduceLE, Int.reduceGT, Int.reduceGE, reduceCtorEq, Nat.reduceEqDiff, List.getElem?_cons_zero, List.getElem?_cons_succ, Option.map_some, x_and, ha8, Bool.false_eq_true]
      exact fin _ c1 _ e hB1 (Nat.le_refl _) hsm (.cons rfl .nil)
    have s8 : exec (.slc 1 true false false) [.slice id (off + 1 * 1) c1.length (some c1.length), .int .i64 8] G = some (.slice id (off + 1 * 1 + 8 * 1) (c1.drop 8).length (some (c1.drop 8).length), G) := hB1.slc (k := 8) (by omega)
    have hB2 := hB1.drop 8
    have e0 : skipA c1 = if 16 < (c1.drop 8).length ∧ and64 (or64 (wordF (c1.drop 8)) (wordF ((c1.drop 8).drop 8))) hi64 = 0 then skip32 ((c1.drop 8).drop 16).length ((c1.drop 8).drop 16) else c1.drop 8 := by rw [skipA, if_pos ⟨by omega, ha8⟩]
    have hl2 : (c1.drop 8).length = c1.length - 8 := by simp
    have hsm2 : ∀ b ∈ c1.drop 8, 0 ≤ b ∧ b < 256 := fun b hb => hsm b (List.mem_of_mem_drop hb)
    generalize hc2 : c1.drop 8 = c2 at *
    by_cases h16 : (c2.length : Int) > 16
    rotate_left
    · have e : skipA c1 = c2 := by rw [e0, if_neg (by omega)]
      simp only [stp, if_true, if_false, Int.reduceEq, Int.reduceLT, Int.reduceLE, Int.reduceGT, Int.reduceGE, reduceCtorEq, Nat.reduceEqDiff, List.getElem?_cons_zero, List.getElem?_cons_succ, Option.map_some, hlen, hpos, i0', d0, ha, s1, h8, Bool.false_eq_true]
      refine w1 _ ?_
      simp only [stp, if_true, if_false, Int.reduceEq, Int.reduceLT, Int.reduceLE, Int.reduceGT, Int.reduceGE, reduceCtorEq, Nat.reduceEqDiff, List.getElem?_cons_zero, List.getElem?_cons_succ, Option.map_some, x_and, ha8, Bool.false_eq_true, s8, hlen, h16]
      constructor <;> exact fin _ c2 _ e hB2 (by omega) hsm2 (.cons rfl .nil)
    have w2 := word_ok hB2 (by omega : 8 ≤ c2.length)
    have s9 : exec (.slc 1 true false false) [.slice id (off + 1 * 1 + 8 * 1) c2.length (some c2.length), .int .i64 8] G = some (.slice id (off + 1 * 1 + 8 * 1 + 8 * 1) (c2.drop 8).length (some (c2.drop 8).length), G) := hB2.slc (k := 8) (by omega)
    have w3 := word_ok (hB2.drop 8) (by simp; omega : 8 ≤ (c2.drop 8).length)
    by_cases ha16 : and64 (or64 (wordF c2) (wordF (c2.drop 8))) hi64 = 0
    rotate_left
    · have e : skipA c1 = c2 := by rw [e0, if_neg (fun h => ha16 h.2)]
      simp only [stp, if_true, if_false, Int.reduceEq, Int.reduceLT, Int.reduceLE, Int.reduceGT, Int.reduceGE, reduceCtorEq, Nat.reduceEqDiff, List.getElem?_cons_zero, List.getElem?_cons_succ, Option.map_some, hlen, hpos, i0', d0, ha, s1, h8, Bool.false_eq_true]
      refine w1 _ ?_
      simp only [stp, if_true, if_false, Int.reduceEq, Int.reduceLT, Int.reduceLE, Int.reduceGT, Int.reduceGE, reduceCtorEq, Nat.reduceEqDiff, List.getElem?_cons_zero, List.getElem?_cons_succ, Option.map_some, x_and, ha8, Bool.false_eq_true, s8, hlen, h16]
      repeat' first | with_reducible refine w2 _ ?_ | with_reducible refine w3 _ ?_ | simp only [stp, if_true, if_false, Int.reduceEq, Int.reduceLT, Int.reduceLE, Int.reduceGT, Int.reduceGE, reduceCtorEq, Nat.reduceEqDiff, List.getElem?_cons_zero, List.getElem?_cons_succ, Option.map_some, s9, x_or, x_and, ha16, Bool.false_eq_true] | with_reducible refine And.intro ?_ ?_
      all_goals exact fin _ c2 _ e hB2 (by omega) hsm2 (.cons rfl .nil)
    have s16 : exec (.slc 1 true false false) [.slice id (off + 1 * 1 + 8 * 1) c2.length (some c2.length), .int .i64 16] G = some (.slice id (off + 1 * 1 + 8 * 1 + 16 * 1) (c2.drop 16).length (some (c2.drop 16).length), G) := hB2.slc (k := 16) (by omega)
    have e1 : skipA c1 = skip32 (c2.drop 16).length (c2.drop 16) := by rw [e0, if_pos ⟨by omega, ha16⟩]
    have hB3 := hB2.drop 16
    have hl3 : (c2.drop 16).length = c2.length - 16 := by simp
    have hsm3 : ∀ b ∈ c2.drop 16, 0 ≤ b ∧ b < 256 := fun b hb => hsm2 b (List.mem_of_mem_drop hb)
    generalize hc3 : c2.drop 16 = c3 at *
    simp only [stp, if_true, if_false, Int.reduceEq, Int.reduceLT, Int.reduceLE, Int.reduceGT, Int.reduceGE, reduceCtorEq, Nat.reduceEqDiff, List.getElem?_cons_zero, List.getElem?_cons_succ, Option.map_some, hlen, hpos, i0', d0, ha, s1, h8, Bool.false_eq_true]
    refine w1 _ ?_
    simp only [stp, if_true, if_false, Int.reduceEq, Int.reduceLT, Int.reduceLE, Int.reduceGT, Int.reduceGE, reduceCtorEq, Nat.reduceEqDiff, List.getElem?_cons_zero, List.getElem?_cons_succ, Option.map_some, x_and, ha8, Bool.false_eq_true, s8, hlen, h16]
    repeat' first | with_reducible refine w2 _ ?_ | with_reducible refine w3 _ ?_ | simp only [stp, if_true, if_false, Int.reduceEq, Int.reduceLT, Int.reduceLE, Int.reduceGT, Int.reduceGE, reduceCtorEq, Nat.reduceEqDiff, List.getElem?_cons_zero, List.getElem?_cons_succ, Option.map_some, s9, x_or, x_and, ha16, s16, Bool.false_eq_true] | with_reducible refine And.intro ?_ ?_
    all_goals
      refine inner32 hB3 (by omega) hsm3 (fun off c fr2 q1 q2 q3 q4 q5 => ?_) rfl
      simp only [stp, if_true, if_false, Int.reduceEq, Int.reduceLT, Int.reduceLE, Int.reduceGT, Int.reduceGE, reduceCtorEq, Nat.reduceEqDiff, List.getElem?_cons_zero, List.getElem?_cons_succ, Option.map_some]
      exact fin off c fr2 (by rw [e1, q1]) q2 (by omega) q4 q5
  · -- the tables
    have hTG := hT.ext hx
    have gn1 : ∀ f, (X.g 1).ev f G = some (.ptr 1 0) := fun f => by simp only [X.ev]; rw [if_pos (by have := hTG.gn; omega)]
    have gn2 : ∀ f, (X.g 2).ev f G = some (.ptr 2 0) := fun f => by simp only [X.ev]; rw [if_pos (by have := hTG.gn; omega)]
    obtain ⟨f1, f2⟩ := first_ia hTG g0 g1
    obtain ⟨a1, a2⟩ := acc_ia hTG g0 g1
    obtain ⟨G2, hx2, hw2, ha2, hal, hst⟩ := x_copy (Ext.refl G) hw' (z := [.int .u8 0, .int .u8 0]) (e := [.int .u8 (loT b0), .int .u8 (hiT b0)]) (n := 2) rfl rfl rfl rfl
    have l0 := ha2.ld (j := 0) (v := .int .u8 (loT b0)) rfl 1
    have l1 := ha2.ld (j := 1) (v := .int .u8 (hiT b0)) rfl 1
    have hxx := hx.trans hx2
    have hB2 := hB.ext hx2
    have bad : vStep b0 cur = none → vF bs.length bs = false := fun e => by rw [← hv, e]
    have good : ∀ k, 1 ≤ k → k ≤ cur.length → vStep b0 cur = some (cur.drop k) → ∀ fr2, FrSub [(0, .slice id (off + k * 1) (cur.drop k).length (some (cur.drop k).length))] fr2 →
        ∃ k', k' < cur.length ∧ ∃ (off : Nat) (cur : List Int) (n : Nat), k' = cur.length ∧ Ext H G2 ∧ WF G2 ∧ Byt G2 id off cur ∧ cur.length ≤ n ∧ vF n cur = vF bs.length bs ∧ (∀ b ∈ cur, 0 ≤ b ∧ b < 256) ∧ cur.length ≤ 1048576 ∧ FrSub [(0, .slice id off cur.length (some cur.length))] fr2 := by
      intro k h1 h2 h3 fr2 h4
      rw [h3] at hv
      exact ⟨(cur.drop k).length, by simp; omega, _, cur.drop k, n, rfl, hxx, hw2, hB2.drop k, by simp; omega, hv, drp k, by simp; omega, h4⟩
    have bytes : ∀ i : Nat, i < cur.length → exec (.ia 1) [.slice id off cur.length (some cur.length), .int .i64 i] G2 = some (.ptr id (off + i), G2) ∧ exec (.ld 1) [.ptr id (off + i)] G2 = some (.int .u8 (cur.getD i 0), G2) := fun i hi => hB2.ia hi
    have rest : exec (.toInt .i64) [.int .u8 (IntKind.u8.wrap (BitVec.ofInt 8 (firstT.getD b0.toNat 0) &&& BitVec.ofInt 8 7).toNat)] G = some (.int .i64 (sizeT b0), G) := rfl
    have hsh : exec (.ibin .shr) [.int .u8 (firstT.getD b0.toNat 0), .int .u64 4] G = some (.int .u8 (accI b0), G) := rfl
    simp only [stp, if_true, if_false, Int.reduceEq, Int.reduceLT, Int.reduceLE, Int.reduceGT, Int.reduceGE, reduceCtorEq, Nat.reduceEqDiff, List.getElem?_cons_zero, List.getElem?_cons_succ, Option.map_some, hlen, hpos, i0', d0, ha, gn1, gn2, f1, f2, x_and8, rest, hsh, a1, a2, hal, hst, Bool.false_eq_true]
    by_cases s2 : sizeT b0 = 2
    · have vs : vStep b0 cur = if cur.length < 2 ∨ cur.getD 1 0 < loT b0 ∨ hiT b0 < cur.getD 1 0 then none else some (cur.drop 2) := by rw [vStep, if_neg ha, if_pos s2]
      by_cases hn : (cur.length : Int) < 2
      · simp only [stp, if_true, if_false, Int.reduceEq, Int.reduceLT, Int.reduceLE, Int.reduceGT, Int.reduceGE, reduceCtorEq, Nat.reduceEqDiff, List.getElem?_cons_zero, List.getElem?_cons_succ, Option.map_some, hlen, s2, hn]
        exact ⟨hxx, by rw [bad (by rw [vs, if_pos (by omega)])], rfl⟩
      obtain ⟨p1, q1⟩ := bytes 1 (by omega)
      have p1' : exec (.ia 1) [.slice id off cur.length (some cur.length), .int .i64 1] G2 = some (.ptr id (off + 1), G2) := p1
      by_cases c1 : cur.getD 1 0 < loT b0
      · simp only [stp, if_true, if_false, Int.reduceEq, Int.reduceLT, Int.reduceLE, Int.reduceGT, Int.reduceGE, reduceCtorEq, Nat.reduceEqDiff, List.getElem?_cons_zero, List.getElem?_cons_succ, Option.map_some, hlen, s2, hn, p1', q1, l0, l1, c1]
        exact ⟨hxx, by rw [bad (by rw [vs, if_pos (by omega)])], rfl⟩
      by_cases c2 : hiT b0 < cur.getD 1 0
      · simp only [stp, if_true, if_false, Int.reduceEq, Int.reduceLT, Int.reduceLE, Int.reduceGT, Int.reduceGE, reduceCtorEq, Nat.reduceEqDiff, List.getElem?_cons_zero, List.getElem?_cons_succ, Option.map_some, hlen, s2, hn, p1', q1, l0, l1, c1, c2]
        exact ⟨hxx, by rw [bad (by rw [vs, if_pos (by omega)])], rfl⟩
      have sl : exec (.slc 1 true false false) [.slice id off cur.length (some cur.length), .int .i64 2] G2 = some (.slice id (off + 2 * 1) (cur.drop 2).length (some (cur.drop 2).length), G2) := hB2.slc (k := 2) (by omega)
      simp only [stp, if_true, if_false, Int.reduceEq, Int.reduceLT, Int.reduceLE, Int.reduceGT, Int.reduceGE, reduceCtorEq, Nat.reduceEqDiff, List.getElem?_cons_zero, List.getElem?_cons_succ, Option.map_some, hlen, s2, hn, p1', q1, l0, l1, c1, c2, sl, Bool.false_eq_true]
      exact good 2 (by omega) (by omega) (by rw [vs, if_neg (by omega)]) _ (.cons rfl .nil)
    by_cases s3 : sizeT b0 = 3
    · have vs : vStep b0 cur = if cur.length < 3 ∨ cur.getD 1 0 < loT b0 ∨ hiT b0 < cur.getD 1 0 ∨ cur.getD 2 0 < 128 ∨ 191 < cur.getD 2 0 then none else some (cur.drop 3) := by rw [vStep, if_neg ha, if_neg s2, if_pos s3]
      by_cases hn : (cur.length : Int) < 3
      · simp only [stp, if_true, if_false, Int.reduceEq, Int.reduceLT, Int.reduceLE, Int.reduceGT, Int.reduceGE, reduceCtorEq, Nat.reduceEqDiff, List.getElem?_cons_zero, List.getElem?_cons_succ, Option.map_some, hlen, s2, s3, hn]
        exact ⟨hxx, by rw [bad (by rw [vs, if_pos (by omega)])], rfl⟩
      obtain ⟨p1, q1⟩ := bytes 1 (by omega)
      have p1' : exec (.ia 1) [.slice id off cur.length (some cur.length), .int .i64 1] G2 = some (.ptr id (off + 1), G2) := p1
      obtain ⟨p2, q2⟩ := bytes 2 (by omega)
      have p2' : exec (.ia 1) [.slice id off cur.length (some cur.length), .int .i64 2] G2 = some (.ptr id (off + 2), G2) := p2
      by_cases c1 : cur.getD 1 0 < loT b0
      · simp only [stp, if_true, if_false, Int.reduceEq, Int.reduceLT, Int.reduceLE, Int.reduceGT, Int.reduceGE, reduceCtorEq, Nat.reduceEqDiff, List.getElem?_cons_zero, List.getElem?_cons_succ, Option.map_some, hlen, s2, s3, hn, p1', q1, l0, l1, c1]
        exact ⟨hxx, by rw [bad (by rw [vs, if_pos (by omega)])], rfl⟩
      by_cases c2 : hiT b0 < cur.getD 1 0
      · simp only [stp, if_true, if_false, Int.reduceEq, Int.reduceLT, Int.reduceLE, Int.reduceGT, Int.reduceGE, reduceCtorEq, Nat.reduceEqDiff, List.getElem?_cons_zero, List.getElem?_cons_succ, Option.map_some, hlen, s2, s3, hn, p1', q1, l0, l1, c1, c2]
        exact ⟨hxx, by rw [bad (by rw [vs, if_pos (by omega)])], rfl⟩
      by_cases c3 : cur.getD 2 0 < 128
      · simp only [stp, if_true, if_false, Int.reduceEq, Int.reduceLT, Int.reduceLE, Int.reduceGT, Int.reduceGE, reduceCtorEq, Nat.reduceEqDiff, List.getElem?_cons_zero, List.getElem?_cons_succ, Option.map_some, hlen, s2, s3, hn, p1', q1, l0, l1, c1, c2, p2', q2, c3]
        exact ⟨hxx, by rw [bad (by rw [vs, if_pos (by omega)])], rfl⟩
      by_cases c4 : 191 < cur.getD 2 0
      · simp only [stp, if_true, if_false, Int.reduceEq, Int.reduceLT, Int.reduceLE, Int.reduceGT, Int.reduceGE, reduceCtorEq, Nat.reduceEqDiff, List.getElem?_cons_zero, List.getElem?_cons_succ, Option.map_some, hlen, s2, s3, hn, p1', q1, l0, l1, c1, c2, p2', q2, c3, c4]
        exact ⟨hxx, by rw [bad (by rw [vs, if_pos (by omega)])], rfl⟩
      have sl : exec (.slc 1 true false false) [.slice id off cur.length (some cur.length), .int .i64 3] G2 = some (.slice id (off + 3 * 1) (cur.drop 3).length (some (cur.drop 3).length), G2) := hB2.slc (k := 3) (by omega)
      simp only [stp, if_true, if_false, Int.reduceEq, Int.reduceLT, Int.reduceLE, Int.reduceGT, Int.reduceGE, reduceCtorEq, Nat.reduceEqDiff, List.getElem?_cons_zero, List.getElem?_cons_succ, Option.map_some, hlen, s2, s3, hn, p1', q1, l0, l1, c1, c2, p2', q2, c3, c4, sl, Bool.false_eq_true]
      exact good 3 (by omega) (by omega) (by rw [vs, if_neg (by omega)]) _ (.cons rfl .nil)
    by_cases s4 : sizeT b0 = 4
    · have vs : vStep b0 cur = if cur.length < 4 ∨ cur.getD 1 0 < loT b0 ∨ hiT b0 < cur.getD 1 0 ∨ cur.getD 2 0 < 128 ∨ 191 < cur.getD 2 0 ∨ cur.getD 3 0 < 128 ∨ 191 < cur.getD 3 0 then none else some (cur.drop 4) := by rw [vStep, if_neg ha, if_neg s2, if_neg s3, if_pos s4]
      by_cases hn : (cur.length : Int) < 4
      · simp only [stp, if_true, if_false, Int.reduceEq, Int.reduceLT, Int.reduceLE, Int.reduceGT, Int.reduceGE, reduceCtorEq, Nat.reduceEqDiff, List.getElem?_cons_zero, List.getElem?_cons_succ, Option.map_some, hlen, s2, s3, s4, hn]
        exact ⟨hxx, by rw [bad (by rw [vs, if_pos (by omega)])], rfl⟩
      obtain ⟨p1, q1⟩ := bytes 1 (by omega)
      have p1' : exec (.ia 1) [.slice id off cur.length (some cur.length), .int .i64 1] G2 = some (.ptr id (off + 1), G2) := p1
      obtain ⟨p2, q2⟩ := bytes 2 (by omega)
      have p2' : exec (.ia 1) [.slice id off cur.length (some cur.length), .int .i64 2] G2 = some (.ptr id (off + 2), G2) := p2
      obtain ⟨p3, q3⟩ := bytes 3 (by omega)
      have p3' : exec (.ia 1) [.slice id off cur.length (some cur.length), .int .i64 3] G2 = some (.ptr id (off + 3), G2) := p3
      by_cases c1 : cur.getD 1 0 < loT b0
      · simp only [stp, if_true, if_false, Int.reduceEq, Int.reduceLT, Int.reduceLE, Int.reduceGT, Int.reduceGE, reduceCtorEq, Nat.reduceEqDiff, List.getElem?_cons_zero, List.getElem?_cons_succ, Option.map_some, hlen, s2, s3, s4, hn, p1', q1, l0, l1, c1]
        exact ⟨hxx, by rw [bad (by rw [vs, if_pos (by omega)])], rfl⟩
      by_cases c2 : hiT b0 < cur.getD 1 0
      · simp only [stp, if_true, if_false, Int.reduceEq, Int.reduceLT, Int.reduceLE, Int.reduceGT, Int.reduceGE, reduceCtorEq, Nat.reduceEqDiff, List.getElem?_cons_zero, List.getElem?_cons_succ, Option.map_some, hlen, s2, s3, s4, hn, p1', q1, l0, l1, c1, c2]
        exact ⟨hxx, by rw [bad (by rw [vs, if_pos (by omega)])], rfl⟩
      by_cases c3 : cur.getD 2 0 < 128
      · simp only [stp, if_true, if_false, Int.reduceEq, Int.reduceLT, Int.reduceLE, Int.reduceGT, Int.reduceGE, reduceCtorEq, Nat.reduceEqDiff, List.getElem?_cons_zero, List.getElem?_cons_succ, Option.map_some, hlen, s2, s3, s4, hn, p1', q1, l0, l1, c1, c2, p2', q2, c3]
        exact ⟨hxx, by rw [bad (by rw [vs, if_pos (by omega)])], rfl⟩
      by_cases c4 : 191 < cur.getD 2 0
      · simp only [stp, if_true, if_false, Int.reduceEq, Int.reduceLT, Int.reduceLE, Int.reduceGT, Int.reduceGE, reduceCtorEq, Nat.reduceEqDiff, List.getElem?_cons_zero, List.getElem?_cons_succ, Option.map_some, hlen, s2, s3, s4, hn, p1', q1, l0, l1, c1, c2, p2', q2, c3, c4]
        exact ⟨hxx, by rw [bad (by rw [vs, if_pos (by omega)])], rfl⟩
      by_cases c5 : cur.getD 3 0 < 128
      · simp only [stp, if_true, if_false, Int.reduceEq, Int.reduceLT, Int.reduceLE, Int.reduceGT, Int.reduceGE, reduceCtorEq, Nat.reduceEqDiff, List.getElem?_cons_zero, List.getElem?_cons_succ, Option.map_some, hlen, s2, s3, s4, hn, p1', q1, l0, l1, c1, c2, p2', q2, c3, c4, p3', q3, c5]
        exact ⟨hxx, by rw [bad (by rw [vs, if_pos (by omega)])], rfl⟩
      by_cases c6 : 191 < cur.getD 3 0
      · simp only [stp, if_true, if_false, Int.reduceEq, Int.reduceLT, Int.reduceLE, Int.reduceGT, Int.reduceGE, reduceCtorEq, Nat.reduceEqDiff, List.getElem?_cons_zero, List.getElem?_cons_succ, Option.map_some, hlen, s2, s3, s4, hn, p1', q1, l0, l1, c1, c2, p2', q2, c3, c4, p3', q3, c5, c6]
        exact ⟨hxx, by rw [bad (by rw [vs, if_pos (by omega)])], rfl⟩
      have sl : exec (.slc 1 true false false) [.slice id off cur.length (some cur.length), .int .i64 4] G2 = some (.slice id (off + 4 * 1) (cur.drop 4).length (some (cur.drop 4).length), G2) := hB2.slc (k := 4) (by omega)
      simp only [stp, if_true, if_false, Int.reduceEq, Int.reduceLT, Int.reduceLE, Int.reduceGT, Int.reduceGE, reduceCtorEq, Nat.reduceEqDiff, List.getElem?_cons_zero, List.getElem?_cons_succ, Option.map_some, hlen, s2, s3, s4, hn, p1', q1, l0, l1, c1, c2, p2', q2, c3, c4, p3', q3, c5, c6, sl, Bool.false_eq_true]
      exact good 4 (by omega) (by omega) (by rw [vs, if_neg (by omega)]) _ (.cons rfl .nil)
    have vs : vStep b0 cur = none := by rw [vStep, if_neg ha, if_neg s2, if_neg s3, if_neg s4]
    simp only [stp, if_true, if_false, Int.reduceEq, Int.reduceLT, Int.reduceLE, Int.reduceGT, Int.reduceGE, reduceCtorEq, Nat.reduceEqDiff, List.getElem?_cons_zero, List.getElem?_cons_succ, Option.map_some, s2, s3, s4]
    exact ⟨hxx, by rw [bad vs], rfl⟩
end Go.Proofs.YtbadbkdpnbacnaaDoor.Fw

/- utf8.Valid's contract as it is asked for. No condition. -/
namespace Go.Proofs.YtbadbkdpnbacnaaDoor.Fw
open Go
set_option linter.unusedSimpArgs false
set_option linter.unusedVariables false

def intsB (s : ByteArray) : List Int := s.data.toList.map fun b => (b.toNat : Int)
theorem intsB_len (s : ByteArray) : (intsB s).length = s.size := by rw [intsB, List.length_map]; rfl
theorem intsB_cells (s : ByteArray) : (intsB s).map (V.int .u8) = bytesV s := by simp [intsB, bytesV, Function.comp_def]
def validS (s : ByteArray) : Bool := vF (intsB s).length (intsB s)
theorem sl_bytes {H : Heap} {id : Nat} {s : ByteArray} (hid : id < H.next) (hg : H.get id = some (.row false 1 (bytesV s))) : SL H (.slice id 0 (intsB s).length none) 1 (byteR (intsB s)) := by
  refine ⟨fun e he => by obtain ⟨b, _, rfl⟩ := List.mem_map.1 he; exact ⟨rfl, rfl⟩, .inr ⟨id, 0, none, by rw [List.length_map], hid, fun i e he => ?_⟩⟩
  have hi : i < (intsB s).length := by have := (List.getElem?_eq_some_iff.1 he).1; simpa using this
  have hl : (bytesV s).length = (intsB s).length := by rw [← intsB_cells, List.length_map]
  refine ⟨hid, false, 1, bytesV s, hg, ?_, fun j v hj => ?_⟩
  · simp [hi] at he; subst he; simp; omega
  · simp [hi] at he; subst he
    match j, hj with
    | 0, hj =>
      simp at hj; subst hj
      rw [← intsB_cells]; simp [hi]
    | j + 1, hj => simp at hj
theorem validIs : ValidIs validS := by
  intro s H id hT hs hid hg
  have := valid_calls hT (off := 0) (sl_bytes hid hg) (by rw [intsB_len]; unfold big; omega) fun b hb => by
    obtain ⟨c, _, rfl⟩ := List.mem_map.1 hb
    have := c.toNat_lt
    omega
  rw [intsB_len] at this
  rw [validS, intsB_len]
  exact this
end Go.Proofs.YtbadbkdpnbacnaaDoor.Fw

/- slices.SortFunc at keys: it ends and turns its own row alone: the toolkit, the comparison, the sort by insertion. No condition. -/
namespace Go.Proofs.YtbadbkdpnbacnaaDoor.Fw
open Go
set_option linter.unusedSimpArgs false
set_option linter.unusedVariables false

/-- H, and at id the row of these keys. -/
def wr (H : Heap) (id : Nat) (ks : List KeyA) : Heap := H.set id (.row false 6 (ks.map KeyA.cells).flatten)
theorem cellsK (ks : List KeyA) : ∀ e ∈ ks.map KeyA.cells, e.length = 6 ∧ e.all V.one = true := fun e he => by obtain ⟨k, _, rfl⟩ := List.mem_map.1 he; exact ⟨rfl, rfl⟩
theorem wr_own {H : Heap} {id : Nat} (hid : id < H.next) (ks : List KeyA) : Own (wr H id ks) id 6 (ks.map KeyA.cells) := ⟨hid, set_get' _ _ _, cellsK ks⟩
theorem wr_wr (H : Heap) (id : Nat) (a b : List KeyA) : (wr H id a).set id (.row false 6 (b.map KeyA.cells).flatten) = wr H id b := by
  unfold wr Heap.set
  congr 1
  funext j
  by_cases h : j = id <;> simp [h]
theorem w_ia {n id : Nat} {i : Int} (h0 : 0 ≤ i) (h1 : i < n) (H : Heap) : exec (.ia 6) [.slice id 0 n none, .int .i64 i] H = some (.ptr id (i.toNat * 6), H) := by
  simp only [exec]
  rw [if_pos ⟨h0, h1⟩, Nat.zero_add]
theorem w_lda {H : Heap} {id : Nat} (hid : id < H.next) {ks : List KeyA} {i : Nat} (h : i < ks.length) : exec (.lda 6) [.ptr id (i * 6)] (wr H id ks) = some (.agg (ks.getD i zeroK).cells, wr H id ks) := by
  have hs := (wr_own hid ks).sl none
  obtain ⟨id', o, h1, h2⟩ := hs.ia (H' := wr H id ks) (i := i) (e := (ks.getD i zeroK).cells) (by simp [List.getD_eq_getElem?_getD, h]) .i64
  rw [List.length_map, w_ia (by omega) (by omega)] at h1
  simp only [Option.some.injEq, Prod.mk.injEq, V.ptr.injEq, and_true, Int.toNat_natCast] at h1
  obtain ⟨rfl, rfl⟩ := h1
  exact h2.lda (n := 6) rfl
theorem w_st {H : Heap} {id : Nat} (hid : id < H.next) {ks : List KeyA} {i : Nat} (h : i < ks.length) (k : KeyA) : exec (.st 6) [.ptr id (i * 6), .agg k.cells] (wr H id ks) = some (.undef, wr H id (ks.set i k)) := by
  obtain ⟨H', h1, h2, _⟩ := (wr_own hid ks).store (i := i) (by simpa using h) (e := k.cells) rfl rfl
  rw [Nat.zero_add] at h1
  rw [h1, h2, ← List.map_set, wr_wr]
theorem wr_next (H : Heap) (id : Nat) (ks : List KeyA) : (wr H id ks).next = H.next := rfl
theorem wr_wf {H : Heap} (hw : WF H) {id : Nat} (hid : id < H.next) (ks : List KeyA) : WF (wr H id ks) := fun j o e => by
  show j < H.next
  unfold wr at e
  rw [Heap.set_get] at e
  split at e
  · rename_i h; omega
  · exact hw j o e

/-! ### cmp -/
theorem compare_calls (a b : Int) (H : Heap) : SCalls PP 28 [.int .i64 a, .int .i64 b] H fun r H' => H' = H ∧ ∃ c : Int, r = .int .i64 c := by
  have h56 : ∀ a, SCalls PP 56 [.int .i64 a] H fun r H' => H' = H ∧ r = .bool false := fun a => by
    refine SCalls.go c56 (by simp [fn56]) fun hw => ?_
    simp only [fn56, enterFr, List.length, List.range, List.range.loop, List.zip, List.zipWith, stp, if_true, if_false, Int.reduceEq, Int.reduceLT, Int.reduceLE, Int.reduceGT, Int.reduceGE, reduceCtorEq, Nat.reduceEqDiff, List.getElem?_cons_zero, List.getElem?_cons_succ, Option.map_some]
    exact ⟨by trivial, by simp⟩
  refine SCalls.go c28 (by simp [fn28]) fun hw => ?_
  simp only [fn28, enterFr, List.length, List.range, List.range.loop, List.zip, List.zipWith, stp, if_true, if_false, Int.reduceEq, Int.reduceLT, Int.reduceLE, Int.reduceGT, Int.reduceGE, reduceCtorEq, Nat.reduceEqDiff, List.getElem?_cons_zero, List.getElem?_cons_succ, Option.map_some]
  refine SCalls.mono (h56 a) ?_
  rintro r H' ⟨rfl, rfl⟩
  simp only [stp, if_true, if_false, Int.reduceEq, Int.reduceLT, Int.reduceLE, Int.reduceGT, Int.reduceGE, reduceCtorEq, Nat.reduceEqDiff, List.getElem?_cons_zero, List.getElem?_cons_succ, Option.map_some]
  refine SCalls.mono (h56 b) ?_
  rintro r H' ⟨rfl, rfl⟩
  by_cases h1 : a < b
  · simp only [stp, if_true, if_false, Int.reduceEq, Int.reduceLT, Int.reduceLE, Int.reduceGT, Int.reduceGE, reduceCtorEq, Nat.reduceEqDiff, List.getElem?_cons_zero, List.getElem?_cons_succ, Option.map_some, h1]
    exact ⟨by trivial, _, rfl⟩
  by_cases h2 : a > b
  · simp only [stp, if_true, if_false, Int.reduceEq, Int.reduceLT, Int.reduceLE, Int.reduceGT, Int.reduceGE, reduceCtorEq, Nat.reduceEqDiff, List.getElem?_cons_zero, List.getElem?_cons_succ, Option.map_some, h1, h2]
    exact ⟨by trivial, _, rfl⟩
  · simp only [stp, if_true, if_false, Int.reduceEq, Int.reduceLT, Int.reduceLE, Int.reduceGT, Int.reduceGE, reduceCtorEq, Nat.reduceEqDiff, List.getElem?_cons_zero, List.getElem?_cons_succ, Option.map_some, h1, h2]
    exact ⟨by trivial, _, rfl⟩
theorem SCalls.keepEx {f : FuncId} {vs : List V} {H : Heap} (h : SCalls PP f vs H fun r H' => Ext H H' ∧ ∃ c : Int, r = .int .i64 c) : SCalls PP f vs H fun r H' => H' = H ∧ ∃ c : Int, r = .int .i64 c :=
  SCalls.keep (R := fun r => ∃ c : Int, r = .int .i64 c) (SCalls.mono h fun r H' ⟨h1, c, h2⟩ => ⟨h1, ⟨c, h2⟩, by subst h2; rfl⟩)
theorem cmp_calls (a b : KeyA) (H : Heap) : SCalls PP 27 [.agg a.cells, .agg b.cells] H fun r H' => H' = H ∧ ∃ c : Int, r = .int .i64 c := by
  refine SCalls.keepEx (SCalls.go c27 (by simp [fn27]) fun hw => ?_)
  obtain ⟨H2, hx2, hw2, ha2, hbx⟩ := x_boxed (Ext.refl H) hw (e := a.cells) rfl
  obtain ⟨H3, hx3, hw3, ha3, hbx3⟩ := x_boxed (Ext.refl H2) hw2 (e := b.cells) rfl
  have l0 := (ha2.ext hx3).ld (j := 0) (v := .int .i64 a.id) rfl 1
  have l1 := ha3.ld (j := 0) (v := .int .i64 b.id) rfl 1
  simp only [fn27, enterFr, List.length, List.range, List.range.loop, List.zip, List.zipWith, stp, if_true, if_false, Int.reduceEq, Int.reduceLT, Int.reduceLE, Int.reduceGT, Int.reduceGE, reduceCtorEq, Nat.reduceEqDiff, List.getElem?_cons_zero, List.getElem?_cons_succ, Option.map_some, hbx, hbx3, l0, l1]
  refine SCalls.mono (compare_calls a.id b.id H3) ?_
  rintro r H' ⟨rfl, c, rfl⟩
  simp only [stp, if_true, if_false, Int.reduceEq, Int.reduceLT, Int.reduceLE, Int.reduceGT, Int.reduceGE, reduceCtorEq, Nat.reduceEqDiff, List.getElem?_cons_zero, List.getElem?_cons_succ, Option.map_some]
  exact ⟨hx2.trans hx3, c, rfl⟩
theorem cmp_ok (a b : KeyA) (H : Heap) (K : V → Heap → Prop) (hK : ∀ c : Int, K (.int .i64 c) H) : SCalls PP 27 ([] ++ [.agg a.cells, .agg b.cells] ++ []) H K :=
  SCalls.mono (cmp_calls a b H) fun r H' ⟨h1, c, h2⟩ => by rw [h1, h2]; exact hK c

theorem x_mul (a b : Int) (H : Heap) : exec (.ibin .mul) [.int .i64 a, .int .i64 b] H = some (.int .i64 (IntKind.i64.wrap (a * b)), H) := rfl
theorem x_quo {a b : Int} (ha : 0 ≤ a) (hb : 0 < b) (h : a ≤ 9223372036854775807) (H : Heap) : exec (.ibin .quo) [.int .i64 a, .int .i64 b] H = some (.int .i64 (a / b), H) := by
  have e : exec (.ibin .quo) [.int .i64 a, .int .i64 b] H = (if b = 0 then none else some (V.int .i64 (IntKind.i64.wrap (a.tdiv b)))).map (·, H) := rfl
  have h1 := Int.ediv_nonneg ha (Int.le_of_lt hb)
  have h2 : a / b ≤ a := Int.ediv_le_self b ha
  rw [e, if_neg (by omega), Int.tdiv_eq_ediv_of_nonneg ha, wrap_i64 (by omega) (by omega)]
  rfl

/-- What a call on the row leaves. -/
def Left (H : Heap) (id n : Nat) (H' : Heap) : Prop := ∃ H2 ks, Ext H H2 ∧ WF H2 ∧ ks.length = n ∧ H' = wr H2 id ks
theorem Left.mk {H : Heap} (hw : WF H) {id n : Nat} {ks : List KeyA} (h : ks.length = n) : Left H id n (wr H id ks) := ⟨H, ks, Ext.refl H, hw, h, rfl⟩
theorem Left.of {H H2 H' : Heap} {id n : Nat} (hx : Ext H H2) (h : Left H2 id n H') : Left H id n H' := by
  obtain ⟨H3, ks, h1, h2, h3, h4⟩ := h
  exact ⟨H3, ks, hx.trans h1, h2, h3, h4⟩
abbrev cmpF : V := .fn (.func 27) [] []

set_option maxRecDepth 20000 in
set_option maxHeartbeats 1000000 in
theorem insertion_calls {H : Heap} (hw : WF H) {id n : Nat} (hid : id < H.next) (hn : n ≤ 64) {ks : List KeyA} (hks : ks.length = n) {a b : Int} (ha : 0 ≤ a) (ha' : a ≤ n) (hb : b ≤ n) :
    SCalls PP 75 [.slice id 0 n none, .int .i64 a, .int .i64 b, cmpF] (wr H id ks) fun _ H' => Left H id n H' := by
  refine SCalls.go c75 (by simp [fn75]) fun _ => ?_
  simp (disch := omega) only [fn75, enterFr, List.length, List.range, List.range.loop, List.zip, List.zipWith, stp, if_true, if_false, Int.reduceEq, Int.reduceLT, Int.reduceLE, Int.reduceGT, Int.reduceGE, reduceCtorEq, Nat.reduceEqDiff, List.getElem?_cons_zero, List.getElem?_cons_succ, Option.map_some, wrap_i64]
  refine wp_loopI (fun m fr G => ∃ (i : Int) (ks : List KeyA), m = (b - i).toNat ∧ a + 1 ≤ i ∧ ks.length = n ∧ G = wr H id ks ∧ FrSub [(8, .int .i64 i), (0, .slice id 0 n none), (1, .int .i64 a), (2, .int .i64 b), (3, cmpF)] fr) (b - (a + 1)).toNat
    ⟨a + 1, ks, rfl, by omega, hks, rfl, .cons rfl (.cons rfl (.cons rfl (.cons rfl (.cons rfl .nil))))⟩ ?_
  rintro m fr G ⟨i, ks, rfl, hi, hks, rfl, hsub⟩
  refine ⟨_, hsub, ?_⟩
  by_cases hib : i < b
  rotate_left
  · simp only [stp, if_true, if_false, Int.reduceEq, Int.reduceLT, Int.reduceLE, Int.reduceGT, Int.reduceGE, reduceCtorEq, Nat.reduceEqDiff, List.getElem?_cons_zero, List.getElem?_cons_succ, Option.map_some, hib]
    exact Left.mk hw hks
  simp only [stp, if_true, if_false, Int.reduceEq, Int.reduceLT, Int.reduceLE, Int.reduceGT, Int.reduceGE, reduceCtorEq, Nat.reduceEqDiff, List.getElem?_cons_zero, List.getElem?_cons_succ, Option.map_some, hib]
  refine wp_loopI (fun m fr G => ∃ (j : Int) (ks : List KeyA), m = (j - a).toNat ∧ a ≤ j ∧ j ≤ i ∧ ks.length = n ∧ G = wr H id ks ∧ FrSub [(9, .int .i64 j), (8, .int .i64 i), (0, .slice id 0 n none), (1, .int .i64 a), (2, .int .i64 b), (3, cmpF)] fr) (i - a).toNat
    ⟨i, ks, rfl, by omega, by omega, hks, rfl, .cons rfl (.cons rfl (.cons rfl (.cons rfl (.cons rfl (.cons rfl .nil)))))⟩ ?_
  clear hks ks
  rintro m fr G ⟨j, ks, rfl, hj, hji, hks, rfl, hsub⟩
  refine ⟨_, hsub, ?_⟩
  have next : ∀ fr2, FrSub [(8, .int .i64 (i + 1)), (0, .slice id 0 n none), (1, .int .i64 a), (2, .int .i64 b), (3, cmpF)] fr2 → ∃ k', k' < (b - i).toNat ∧ ∃ (i : Int) (ks : List KeyA), k' = (b - i).toNat ∧ a + 1 ≤ i ∧ ks.length = n ∧ wr H id ks = wr H id ks ∧ FrSub [(8, .int .i64 i), (0, .slice id 0 n none), (1, .int .i64 a), (2, .int .i64 b), (3, cmpF)] fr2 :=
    fun fr2 h => ⟨(b - (i + 1)).toNat, by omega, i + 1, ks, rfl, by omega, hks, rfl, h⟩
  by_cases hja : j > a
  rotate_left
  · simp (disch := omega) only [stp, if_true, if_false, Int.reduceEq, Int.reduceLT, Int.reduceLE, Int.reduceGT, Int.reduceGE, reduceCtorEq, Nat.reduceEqDiff, List.getElem?_cons_zero, List.getElem?_cons_succ, Option.map_some, hja, wrap_i64]
    exact ⟨(b - (i + 1)).toNat, by omega, i + 1, ks, rfl, by omega, hks, rfl, .cons rfl (.cons rfl (.cons rfl (.cons rfl (.cons rfl .nil))))⟩
  simp (disch := omega) only [stp, if_true, if_false, Int.reduceEq, Int.reduceLT, Int.reduceLE, Int.reduceGT, Int.reduceGE, reduceCtorEq, Nat.reduceEqDiff, List.getElem?_cons_zero, List.getElem?_cons_succ, Option.map_some, hja, wrap_i64, w_ia, w_lda hid]
  refine cmp_ok _ _ _ _ fun c => ?_
  by_cases hc : c < 0
  · simp (maxSteps := 1000000) (disch := (try simp only [List.length_set]); omega) only [stp, if_true, if_false, Int.reduceEq, Int.reduceLT, Int.reduceLE, Int.reduceGT, Int.reduceGE, reduceCtorEq, Nat.reduceEqDiff, List.getElem?_cons_zero, List.getElem?_cons_succ, Option.map_some, hc, wrap_i64, w_ia, w_lda hid, w_st hid]
    exact ⟨(j - 1 - a).toNat, by omega, j - 1, _, rfl, by omega, by omega, by simp [hks], rfl, .cons rfl (.cons rfl (.cons rfl (.cons rfl (.cons rfl (.cons rfl .nil)))))⟩
  · simp (disch := omega) only [stp, if_true, if_false, Int.reduceEq, Int.reduceLT, Int.reduceLE, Int.reduceGT, Int.reduceGE, reduceCtorEq, Nat.reduceEqDiff, List.getElem?_cons_zero, List.getElem?_cons_succ, Option.map_some, hc, wrap_i64]
    exact ⟨(b - (i + 1)).toNat, by omega, i + 1, ks, rfl, by omega, hks, rfl, .cons rfl (.cons rfl (.cons rfl (.cons rfl (.cons rfl .nil))))⟩
end Go.Proofs.YtbadbkdpnbacnaaDoor.Fw

/- slices.SortFunc at keys: the pivots, the turned range, the heap. No condition. -/
namespace Go.Proofs.YtbadbkdpnbacnaaDoor.Fw
open Go
set_option linter.unusedSimpArgs false
set_option linter.unusedVariables false

/-- H, and at q a cell of the call's own. -/
def cv (H : Heap) (q : Nat) (v : V) : Heap := H.set q (.row false 1 [v])
theorem cv_ld {H : Heap} {id q : Nat} (hq : q ≠ id) (v : V) (ks : List KeyA) : exec (.ld 1) [.ptr q 0] (wr (cv H q v) id ks) = some (v, wr (cv H q v) id ks) := by
  have : (wr (cv H q v) id ks).get q = some (.row false 1 [v]) := by unfold wr cv; rw [Heap.set_get, if_neg hq, set_get']
  simp only [exec, this]
  rfl
theorem cv_st {H : Heap} {id q : Nat} (hq : q ≠ id) (v u : V) (hc : u.cells = [u]) (ho : u.one = true) (ks : List KeyA) : exec (.st 1) [.ptr q 0, u] (wr (cv H q v) id ks) = some (.undef, wr (cv H q u) id ks) := by
  have hg : (wr (cv H q v) id ks).get q = some (.row false 1 [v]) := by unfold wr cv; rw [Heap.set_get, if_neg hq, set_get']
  have := x_st (v := u) hg (n := 1) (by rw [hc]; rfl) rfl (by rw [hc]; simp [ho])
  rw [this, hc]
  congr 2
  unfold wr cv Heap.set
  congr 1
  funext j
  by_cases h : j = q
  · subst h
    have : ¬ id = j := fun e => hq e.symm
    simp [hq]
  · by_cases h' : j = id
    · subst h'; simp [h]
    · simp [h, h']

set_option maxRecDepth 20000 in
set_option maxHeartbeats 1000000 in
theorem order2_calls {H : Heap} {id n q : Nat} (hid : id < H.next) (hq : q ≠ id) {ks : List KeyA} (hks : ks.length = n) {lo hi a b : Int} (s : Int) (hlo : 0 ≤ lo) (hhi : hi ≤ n) (ha : lo ≤ a ∧ a < hi) (hb : lo ≤ b ∧ b < hi) :
    SCalls PP 107 [.slice id 0 n none, .int .i64 a, .int .i64 b, .ptr q 0, cmpF] (wr (cv H q (.int .i64 s)) id ks) fun r H' => ∃ a' b' s', r = .tup [.int .i64 a', .int .i64 b'] ∧ (lo ≤ a' ∧ a' < hi) ∧ (lo ≤ b' ∧ b' < hi) ∧ H' = wr (cv H q (.int .i64 s')) id ks := by
  refine SCalls.go c107 (by simp [fn107]) fun _ => ?_
  have hid' : id < (cv H q (.int .i64 s)).next := hid
  have hst := cv_st (H := H) (id := id) hq (.int .i64 s) (.int .i64 (IntKind.i64.wrap (s + 1))) rfl rfl ks
  simp (maxSteps := 1000000) (implicitDefEqProofs := false) (disch := omega) only [stp, if_true, if_false, Int.reduceEq, Int.reduceLT, Int.reduceLE, Int.reduceGT, Int.reduceGE, reduceCtorEq, Nat.reduceEqDiff, List.getElem?_cons_zero, List.getElem?_cons_succ, Option.map_some, wrap_i64, fn107, enterFr, List.length, List.range, List.range.loop, List.zip, List.zipWith, w_ia, w_lda hid']
  refine cmp_ok _ _ _ _ fun c => ?_
  by_cases hc : c < 0
  · simp (maxSteps := 1000000) (implicitDefEqProofs := false) only [stp, if_true, if_false, Int.reduceEq, Int.reduceLT, Int.reduceLE, Int.reduceGT, Int.reduceGE, reduceCtorEq, Nat.reduceEqDiff, List.getElem?_cons_zero, List.getElem?_cons_succ, Option.map_some, hc, cv_ld hq, hst]
    exact ⟨_, _, _, rfl, hb, ha, rfl⟩
  · simp (maxSteps := 1000000) (implicitDefEqProofs := false) only [stp, if_true, if_false, Int.reduceEq, Int.reduceLT, Int.reduceLE, Int.reduceGT, Int.reduceGE, reduceCtorEq, Nat.reduceEqDiff, List.getElem?_cons_zero, List.getElem?_cons_succ, Option.map_some, hc]
    exact ⟨_, _, _, rfl, ha, hb, rfl⟩
set_option maxRecDepth 20000 in
set_option maxHeartbeats 1000000 in
theorem median_calls {H : Heap} {id n q : Nat} (hid : id < H.next) (hq : q ≠ id) {ks : List KeyA} (hks : ks.length = n) {lo hi a b c : Int} (s : Int) (hlo : 0 ≤ lo) (hhi : hi ≤ n) (ha : lo ≤ a ∧ a < hi) (hb : lo ≤ b ∧ b < hi) (hc : lo ≤ c ∧ c < hi) :
    SCalls PP 102 [.slice id 0 n none, .int .i64 a, .int .i64 b, .int .i64 c, .ptr q 0, cmpF] (wr (cv H q (.int .i64 s)) id ks) fun r H' => ∃ a' s', r = .int .i64 a' ∧ (lo ≤ a' ∧ a' < hi) ∧ H' = wr (cv H q (.int .i64 s')) id ks := by
  refine SCalls.go c102 (by simp [fn102]) fun _ => ?_
  generalize hG : wr (cv H q (.int .i64 s)) id ks = G
  simp (maxSteps := 1000000) (implicitDefEqProofs := false) only [stp, if_true, if_false, Int.reduceEq, Int.reduceLT, Int.reduceLE, Int.reduceGT, Int.reduceGE, reduceCtorEq, Nat.reduceEqDiff, List.getElem?_cons_zero, List.getElem?_cons_succ, Option.map_some, fn102, enterFr, List.length, List.range, List.range.loop, List.zip, List.zipWith]
  rw [← hG]
  refine SCalls.mono (order2_calls hid hq hks s hlo hhi ha hb) ?_
  rintro r G ⟨a, b, s, rfl, ha, hb, hG⟩
  simp (maxSteps := 1000000) (implicitDefEqProofs := false) only [stp, if_true, if_false, Int.reduceEq, Int.reduceLT, Int.reduceLE, Int.reduceGT, Int.reduceGE, reduceCtorEq, Nat.reduceEqDiff, List.getElem?_cons_zero, List.getElem?_cons_succ, Option.map_some, if_true]
  rw [hG]
  refine SCalls.mono (order2_calls hid hq hks s hlo hhi hb hc) ?_
  rintro r G ⟨b, c, s, rfl, hb, hc, hG⟩
  simp (maxSteps := 1000000) (implicitDefEqProofs := false) only [stp, if_true, if_false, Int.reduceEq, Int.reduceLT, Int.reduceLE, Int.reduceGT, Int.reduceGE, reduceCtorEq, Nat.reduceEqDiff, List.getElem?_cons_zero, List.getElem?_cons_succ, Option.map_some, if_true]
  rw [hG]
  refine SCalls.mono (order2_calls hid hq hks s hlo hhi ha hb) ?_
  rintro r G ⟨a, b, s, rfl, ha, hb, hG⟩
  simp (maxSteps := 1000000) (implicitDefEqProofs := false) only [stp, if_true, if_false, Int.reduceEq, Int.reduceLT, Int.reduceLE, Int.reduceGT, Int.reduceGE, reduceCtorEq, Nat.reduceEqDiff, List.getElem?_cons_zero, List.getElem?_cons_succ, Option.map_some, if_true]
  exact ⟨_, _, rfl, hb, hG⟩
set_option maxRecDepth 20000 in
theorem medianAdj_calls {H : Heap} {id n q : Nat} (hid : id < H.next) (hq : q ≠ id) {ks : List KeyA} (hks : ks.length = n) {lo hi a : Int} (s : Int) (hlo : 0 ≤ lo) (hhi : hi ≤ n) (hn : n ≤ 64) (ha : lo + 1 ≤ a ∧ a + 1 < hi) :
    SCalls PP 101 [.slice id 0 n none, .int .i64 a, .ptr q 0, cmpF] (wr (cv H q (.int .i64 s)) id ks) fun r H' => ∃ a' s', r = .int .i64 a' ∧ (lo ≤ a' ∧ a' < hi) ∧ H' = wr (cv H q (.int .i64 s')) id ks := by
  refine SCalls.go c101 (by simp [fn101]) fun _ => ?_
  simp (maxSteps := 1000000) (implicitDefEqProofs := false) (disch := omega) only [stp, if_true, if_false, Int.reduceEq, Int.reduceLT, Int.reduceLE, Int.reduceGT, Int.reduceGE, reduceCtorEq, Nat.reduceEqDiff, List.getElem?_cons_zero, List.getElem?_cons_succ, Option.map_some, wrap_i64, fn101, enterFr, List.length, List.range, List.range.loop, List.zip, List.zipWith]
  refine SCalls.mono (median_calls hid hq hks s hlo hhi (a := a - 1) (b := a) (c := a + 1) (by omega) (by omega) (by omega)) ?_
  rintro r G ⟨b, s, rfl, hb, rfl⟩
  simp (maxSteps := 1000000) (implicitDefEqProofs := false) only [stp, if_true, if_false, Int.reduceEq, Int.reduceLT, Int.reduceLE, Int.reduceGT, Int.reduceGE, reduceCtorEq, Nat.reduceEqDiff, List.getElem?_cons_zero, List.getElem?_cons_succ, Option.map_some, if_true]
  exact ⟨_, _, rfl, hb, rfl⟩

theorem wr_new {H : Heap} {id : Nat} (hid : id < H.next) (ks : List KeyA) (o : Ob) : (wr H id ks).new o = wr (H.new o) id ks := by
  unfold wr Heap.set Heap.new
  congr 1
  funext j
  by_cases h : j = H.next
  · subst h
    have : ¬ H.next = id := by omega
    simp [this]
  · by_cases h' : j = id
    · subst h'; simp [h]
    · simp [h, h']
theorem cv_new (H : Heap) (v : V) : cv (H.new (.row false 1 [v])) H.next v = H.new (.row false 1 [v]) := by
  unfold cv Heap.set Heap.new
  congr 1
  funext j
  by_cases h : j = H.next <;> simp [h]
theorem cv_alloc {H : Heap} {id : Nat} (hid : id < H.next) (v : V) (hv : v.one = true) (ks : List KeyA) : exec (.alloc [v]) [] (wr H id ks) = some (.ptr H.next 0, wr (cv (H.new (.row false 1 [v])) H.next v) id ks) := by
  have := x_alloc (wr H id ks) [v] (by simp [hv])
  rw [wr_new hid, wr_next] at this
  rw [cv_new]; exact this
theorem cv_ext {H : Heap} (v u : V) : Ext H (cv (H.new (.row false 1 [v])) H.next u) := ((Ext.refl H).new _).set (Nat.le_refl _) _
theorem cv_wf {H : Heap} (hw : WF H) (v u : V) : WF (cv (H.new (.row false 1 [v])) H.next u) := fun j o e => by
  show j < H.next + 1
  unfold cv at e
  rw [Heap.set_get] at e
  split at e
  · omega
  · exact hw.new _ j o e

set_option maxRecDepth 20000 in
set_option maxHeartbeats 1000000 in
theorem pivot_calls {H : Heap} (hw : WF H) {id n : Nat} (hid : id < H.next) (hn : n ≤ 64) {ks : List KeyA} (hks : ks.length = n) {a b : Int} (ha : 0 ≤ a) (hab : a + 8 ≤ b) (hb : b ≤ n) :
    SCalls PP 78 [.slice id 0 n none, .int .i64 a, .int .i64 b, cmpF] (wr H id ks) fun r H' => ∃ (p h : Int) (H2 : Heap), r = .tup [.int .i64 p, .int .i64 h] ∧ (a ≤ p ∧ p < b) ∧ Ext H H2 ∧ WF H2 ∧ H' = wr H2 id ks := by
  refine SCalls.go c78 (by simp [fn78]) fun _ => ?_
  have hal := cv_alloc hid (.int .i64 0) rfl ks
  have hq : H.next ≠ id := by omega
  have hid1 : id < (H.new (.row false 1 [.int .i64 0])).next := by rw [Heap.new_next]; omega
  have m1 : ∀ x, IntKind.i64.wrap (x * 1) = IntKind.i64.wrap x := fun x => by rw [Int.mul_one]
  have hg8 : b - a ≥ 8 := by omega
  simp (maxSteps := 1000000) (implicitDefEqProofs := false) (disch := omega) only [stp, if_true, if_false, Int.reduceEq, Int.reduceLT, Int.reduceLE, Int.reduceGT, Int.reduceGE, reduceCtorEq, Nat.reduceEqDiff, List.getElem?_cons_zero, List.getElem?_cons_succ, Option.map_some, wrap_i64, fn78, enterFr, List.length, List.range, List.range.loop, List.zip, List.zipWith, x_quo, x_mul, hal, hg8]
  have hx2 : ∀ s, Ext H (cv (H.new (.row false 1 [.int .i64 0])) H.next (.int .i64 s)) := fun s => cv_ext _ _
  have hw2 : ∀ s, WF (cv (H.new (.row false 1 [.int .i64 0])) H.next (.int .i64 s)) := fun s => cv_wf hw _ _
  generalize H.new (.row false 1 [.int .i64 0]) = H1 at *
  by_cases h50 : b - a ≥ 50
  · simp (maxSteps := 1000000) (implicitDefEqProofs := false) (disch := omega) only [stp, if_true, if_false, Int.reduceEq, Int.reduceLT, Int.reduceLE, Int.reduceGT, Int.reduceGE, reduceCtorEq, Nat.reduceEqDiff, List.getElem?_cons_zero, List.getElem?_cons_succ, Option.map_some, wrap_i64, h50]
    refine SCalls.mono (medianAdj_calls (H := H1) hid1 hq hks 0 ha hb hn (by omega)) ?_
    rintro r G ⟨i, s1, rfl, hi, rfl⟩
    simp (maxSteps := 1000000) (implicitDefEqProofs := false) only [stp, if_true, if_false, Int.reduceEq, Int.reduceLT, Int.reduceLE, Int.reduceGT, Int.reduceGE, reduceCtorEq, Nat.reduceEqDiff, List.getElem?_cons_zero, List.getElem?_cons_succ, Option.map_some, if_true]
    refine SCalls.mono (medianAdj_calls (H := H1) hid1 hq hks s1 ha hb hn (by omega)) ?_
    rintro r G ⟨j, s2, rfl, hj, rfl⟩
    simp (maxSteps := 1000000) (implicitDefEqProofs := false) only [stp, if_true, if_false, Int.reduceEq, Int.reduceLT, Int.reduceLE, Int.reduceGT, Int.reduceGE, reduceCtorEq, Nat.reduceEqDiff, List.getElem?_cons_zero, List.getElem?_cons_succ, Option.map_some, if_true]
    refine SCalls.mono (medianAdj_calls (H := H1) hid1 hq hks s2 ha hb hn (by omega)) ?_
    rintro r G ⟨k, s3, rfl, hk, rfl⟩
    simp (maxSteps := 1000000) (implicitDefEqProofs := false) only [stp, if_true, if_false, Int.reduceEq, Int.reduceLT, Int.reduceLE, Int.reduceGT, Int.reduceGE, reduceCtorEq, Nat.reduceEqDiff, List.getElem?_cons_zero, List.getElem?_cons_succ, Option.map_some, if_true]
    refine SCalls.mono (median_calls (H := H1) hid1 hq hks s3 ha hb hi hj hk) ?_
    rintro r G ⟨j, s4, rfl, hj, rfl⟩
    by_cases e0 : s4 = 0
    · simp (maxSteps := 1000000) (implicitDefEqProofs := false) only [stp, if_true, if_false, Int.reduceEq, Int.reduceLT, Int.reduceLE, Int.reduceGT, Int.reduceGE, reduceCtorEq, Nat.reduceEqDiff, List.getElem?_cons_zero, List.getElem?_cons_succ, Option.map_some, e0, cv_ld hq]
      exact ⟨_, _, _, rfl, hj, hx2 s4, hw2 s4, by rw [e0]⟩
    by_cases e1 : s4 = 12
    · simp (maxSteps := 1000000) (implicitDefEqProofs := false) only [stp, if_true, if_false, Int.reduceEq, Int.reduceLT, Int.reduceLE, Int.reduceGT, Int.reduceGE, reduceCtorEq, Nat.reduceEqDiff, List.getElem?_cons_zero, List.getElem?_cons_succ, Option.map_some, e0, e1, cv_ld hq]
      exact ⟨_, _, _, rfl, hj, hx2 s4, hw2 s4, by rw [e1]⟩
    simp (maxSteps := 1000000) (implicitDefEqProofs := false) only [stp, if_true, if_false, Int.reduceEq, Int.reduceLT, Int.reduceLE, Int.reduceGT, Int.reduceGE, reduceCtorEq, Nat.reduceEqDiff, List.getElem?_cons_zero, List.getElem?_cons_succ, Option.map_some, e0, e1, cv_ld hq]
    exact ⟨_, _, _, rfl, hj, hx2 s4, hw2 s4, rfl⟩
  · simp (maxSteps := 1000000) (implicitDefEqProofs := false) (disch := omega) only [stp, if_true, if_false, Int.reduceEq, Int.reduceLT, Int.reduceLE, Int.reduceGT, Int.reduceGE, reduceCtorEq, Nat.reduceEqDiff, List.getElem?_cons_zero, List.getElem?_cons_succ, Option.map_some, wrap_i64, h50]
    refine SCalls.mono (median_calls (H := H1) hid1 hq hks 0 (lo := a) (hi := b) ha hb (by omega) (by omega) (by omega)) ?_
    rintro r G ⟨j, s4, rfl, hj, rfl⟩
    by_cases e0 : s4 = 0
    · simp (maxSteps := 1000000) (implicitDefEqProofs := false) only [stp, if_true, if_false, Int.reduceEq, Int.reduceLT, Int.reduceLE, Int.reduceGT, Int.reduceGE, reduceCtorEq, Nat.reduceEqDiff, List.getElem?_cons_zero, List.getElem?_cons_succ, Option.map_some, e0, cv_ld hq]
      exact ⟨_, _, _, rfl, hj, hx2 s4, hw2 s4, by rw [e0]⟩
    by_cases e1 : s4 = 12
    · simp (maxSteps := 1000000) (implicitDefEqProofs := false) only [stp, if_true, if_false, Int.reduceEq, Int.reduceLT, Int.reduceLE, Int.reduceGT, Int.reduceGE, reduceCtorEq, Nat.reduceEqDiff, List.getElem?_cons_zero, List.getElem?_cons_succ, Option.map_some, e0, e1, cv_ld hq]
      exact ⟨_, _, _, rfl, hj, hx2 s4, hw2 s4, by rw [e1]⟩
    simp (maxSteps := 1000000) (implicitDefEqProofs := false) only [stp, if_true, if_false, Int.reduceEq, Int.reduceLT, Int.reduceLE, Int.reduceGT, Int.reduceGE, reduceCtorEq, Nat.reduceEqDiff, List.getElem?_cons_zero, List.getElem?_cons_succ, Option.map_some, e0, e1, cv_ld hq]
    exact ⟨_, _, _, rfl, hj, hx2 s4, hw2 s4, rfl⟩
end Go.Proofs.YtbadbkdpnbacnaaDoor.Fw

/- slices.SortFunc at keys: the turned range, the heap, the broken patterns. No condition. -/
namespace Go.Proofs.YtbadbkdpnbacnaaDoor.Fw
open Go
set_option linter.unusedSimpArgs false
set_option linter.unusedVariables false

set_option maxRecDepth 20000 in
set_option maxHeartbeats 1000000 in
theorem reverse_calls {H : Heap} (hw : WF H) {id n : Nat} (hid : id < H.next) (hn : n ≤ 64) {ks : List KeyA} (hks : ks.length = n) {a b : Int} (ha : 0 ≤ a) (hab : a ≤ b) (hb : b ≤ n) :
    SCalls PP 79 [.slice id 0 n none, .int .i64 a, .int .i64 b, cmpF] (wr H id ks) fun _ H' => Left H id n H' := by
  refine SCalls.go c79 (by simp [fn79]) fun hz => ?_
  clear hz
  simp (maxSteps := 1000000) (implicitDefEqProofs := false) (disch := omega) only [stp, if_true, if_false, Int.reduceEq, Int.reduceLT, Int.reduceLE, Int.reduceGT, Int.reduceGE, reduceCtorEq, Nat.reduceEqDiff, List.getElem?_cons_zero, List.getElem?_cons_succ, Option.map_some, wrap_i64, fn79, enterFr, List.length, List.range, List.range.loop, List.zip, List.zipWith]
  refine wp_loopI (fun m fr G => ∃ (i j : Int) (ks : List KeyA), m = (j - i + 1).toNat ∧ a ≤ i ∧ i ≤ j + 1 ∧ j < b ∧ ks.length = n ∧ G = wr H id ks ∧ FrSub [(8, .int .i64 i), (9, .int .i64 j), (0, .slice id 0 n none)] fr) (b - 1 - a + 1).toNat
    ⟨a, b - 1, ks, rfl, by omega, by omega, by omega, hks, rfl, .cons rfl (.cons rfl (.cons rfl .nil))⟩ ?_
  clear hks ks
  rintro m fr G ⟨i, j, ks, rfl, hi, hij, hj, hks, rfl, hsub⟩
  refine ⟨_, hsub, ?_⟩
  by_cases hlt : i < j
  · simp (maxSteps := 1000000) (implicitDefEqProofs := false) (disch := (try simp only [List.length_set]); omega) only [stp, if_true, if_false, Int.reduceEq, Int.reduceLT, Int.reduceLE, Int.reduceGT, Int.reduceGE, reduceCtorEq, Nat.reduceEqDiff, List.getElem?_cons_zero, List.getElem?_cons_succ, Option.map_some, wrap_i64, hlt, w_ia, w_lda hid, w_st hid]
    exact ⟨(j - 1 - (i + 1) + 1).toNat, by omega, i + 1, j - 1, _, rfl, by omega, by omega, by omega, by simp [hks], rfl, .cons rfl (.cons rfl (.cons rfl .nil))⟩
  · simp (maxSteps := 1000000) (implicitDefEqProofs := false) only [stp, if_true, if_false, Int.reduceEq, Int.reduceLT, Int.reduceLE, Int.reduceGT, Int.reduceGE, reduceCtorEq, Nat.reduceEqDiff, List.getElem?_cons_zero, List.getElem?_cons_succ, Option.map_some, hlt]
    exact Left.mk hw hks

set_option maxRecDepth 20000 in
set_option maxHeartbeats 2000000 in
theorem sift_calls {H : Heap} (hw : WF H) {id n : Nat} (hid : id < H.next) (hn : n ≤ 64) {ks : List KeyA} (hks : ks.length = n) {lo hi first : Int} (h0 : 0 ≤ lo) (h1 : lo ≤ 64) (h2 : 0 ≤ first) (h3 : first + hi ≤ n) (h4 : first ≤ n) :
    SCalls PP 98 [.slice id 0 n none, .int .i64 lo, .int .i64 hi, .int .i64 first, cmpF] (wr H id ks) fun _ H' => Left H id n H' := by
  refine SCalls.go c98 (by simp [fn98]) fun hz => ?_
  clear hz
  simp (maxSteps := 1000000) (implicitDefEqProofs := false) (disch := omega) only [stp, if_true, if_false, Int.reduceEq, Int.reduceLT, Int.reduceLE, Int.reduceGT, Int.reduceGE, reduceCtorEq, Nat.reduceEqDiff, List.getElem?_cons_zero, List.getElem?_cons_succ, Option.map_some, wrap_i64, fn98, enterFr, List.length, List.range, List.range.loop, List.zip, List.zipWith]
  refine wp_loopI (fun m fr G => ∃ (r : Int) (ks : List KeyA), m = (64 - r).toNat ∧ 0 ≤ r ∧ r ≤ 64 ∧ ks.length = n ∧ G = wr H id ks ∧ FrSub [(10, .int .i64 r), (0, .slice id 0 n none), (2, .int .i64 hi), (3, .int .i64 first), (4, cmpF)] fr) (64 - lo).toNat
    ⟨lo, ks, rfl, by omega, by omega, hks, rfl, .cons rfl (.cons rfl (.cons rfl (.cons rfl (.cons rfl .nil))))⟩ ?_
  clear hks ks
  rintro m fr G ⟨r, ks, rfl, hr0, hr1, hks, rfl, hsub⟩
  refine ⟨_, hsub, ?_⟩
  by_cases hge : 2 * r + 1 ≥ hi
  · simp (maxSteps := 1000000) (implicitDefEqProofs := false) (disch := omega) only [stp, if_true, if_false, Int.reduceEq, Int.reduceLT, Int.reduceLE, Int.reduceGT, Int.reduceGE, reduceCtorEq, Nat.reduceEqDiff, List.getElem?_cons_zero, List.getElem?_cons_succ, Option.map_some, wrap_i64, x_mul, hge]
    exact Left.mk hw hks
  have tail : ∀ ch : Int, r < ch → ch < hi → ∀ c : Int, ∀ ks' : List KeyA, ks'.length = n → ∀ fr2, FrSub [(10, .int .i64 ch), (0, .slice id 0 n none), (2, .int .i64 hi), (3, .int .i64 first), (4, cmpF)] fr2 →
      ∃ k', k' < (64 - r).toNat ∧ ∃ (r : Int) (ks : List KeyA), k' = (64 - r).toNat ∧ 0 ≤ r ∧ r ≤ 64 ∧ ks.length = n ∧ wr H id ks' = wr H id ks ∧ FrSub [(10, .int .i64 r), (0, .slice id 0 n none), (2, .int .i64 hi), (3, .int .i64 first), (4, cmpF)] fr2 :=
    fun ch q1 q2 c ks' q3 fr2 q4 => ⟨(64 - ch).toNat, by omega, ch, ks', rfl, by omega, by omega, q3, rfl, q4⟩
  by_cases hlt : 2 * r + 1 + 1 < hi
  · simp (maxSteps := 1000000) (implicitDefEqProofs := false) (disch := omega) only [stp, if_true, if_false, Int.reduceEq, Int.reduceLT, Int.reduceLE, Int.reduceGT, Int.reduceGE, reduceCtorEq, Nat.reduceEqDiff, List.getElem?_cons_zero, List.getElem?_cons_succ, Option.map_some, wrap_i64, x_mul, hge, hlt, w_ia, w_lda hid]
    refine cmp_ok _ _ _ _ fun c => ?_
    by_cases hc : c < 0
    · simp (maxSteps := 1000000) (implicitDefEqProofs := false) (disch := omega) only [stp, if_true, if_false, Int.reduceEq, Int.reduceLT, Int.reduceLE, Int.reduceGT, Int.reduceGE, reduceCtorEq, Nat.reduceEqDiff, List.getElem?_cons_zero, List.getElem?_cons_succ, Option.map_some, wrap_i64, hc, w_ia, w_lda hid]
      refine cmp_ok _ _ _ _ fun d => ?_
      by_cases hd : d < 0
      · simp (maxSteps := 1000000) (implicitDefEqProofs := false) (disch := (try simp only [List.length_set]); omega) only [stp, if_true, if_false, Int.reduceEq, Int.reduceLT, Int.reduceLE, Int.reduceGT, Int.reduceGE, reduceCtorEq, Nat.reduceEqDiff, List.getElem?_cons_zero, List.getElem?_cons_succ, Option.map_some, wrap_i64, hd, w_ia, w_lda hid, w_st hid]
        exact tail (2 * r + 1 + 1) (by omega) (by omega) 0 _ (by simp [hks]) _ (.cons rfl (.cons rfl (.cons rfl (.cons rfl (.cons rfl .nil)))))
      · simp (maxSteps := 1000000) (implicitDefEqProofs := false) only [stp, if_true, if_false, Int.reduceEq, Int.reduceLT, Int.reduceLE, Int.reduceGT, Int.reduceGE, reduceCtorEq, Nat.reduceEqDiff, List.getElem?_cons_zero, List.getElem?_cons_succ, Option.map_some, hd]
        exact Left.mk hw hks
    · simp (maxSteps := 1000000) (implicitDefEqProofs := false) (disch := omega) only [stp, if_true, if_false, Int.reduceEq, Int.reduceLT, Int.reduceLE, Int.reduceGT, Int.reduceGE, reduceCtorEq, Nat.reduceEqDiff, List.getElem?_cons_zero, List.getElem?_cons_succ, Option.map_some, wrap_i64, hc, w_ia, w_lda hid]
      refine cmp_ok _ _ _ _ fun d => ?_
      by_cases hd : d < 0
      · simp (maxSteps := 1000000) (implicitDefEqProofs := false) (disch := (try simp only [List.length_set]); omega) only [stp, if_true, if_false, Int.reduceEq, Int.reduceLT, Int.reduceLE, Int.reduceGT, Int.reduceGE, reduceCtorEq, Nat.reduceEqDiff, List.getElem?_cons_zero, List.getElem?_cons_succ, Option.map_some, wrap_i64, hd, w_ia, w_lda hid, w_st hid]
        exact tail (2 * r + 1) (by omega) (by omega) 0 _ (by simp [hks]) _ (.cons rfl (.cons rfl (.cons rfl (.cons rfl (.cons rfl .nil)))))
      · simp (maxSteps := 1000000) (implicitDefEqProofs := false) only [stp, if_true, if_false, Int.reduceEq, Int.reduceLT, Int.reduceLE, Int.reduceGT, Int.reduceGE, reduceCtorEq, Nat.reduceEqDiff, List.getElem?_cons_zero, List.getElem?_cons_succ, Option.map_some, hd]
        exact Left.mk hw hks
  · simp (maxSteps := 1000000) (implicitDefEqProofs := false) (disch := omega) only [stp, if_true, if_false, Int.reduceEq, Int.reduceLT, Int.reduceLE, Int.reduceGT, Int.reduceGE, reduceCtorEq, Nat.reduceEqDiff, List.getElem?_cons_zero, List.getElem?_cons_succ, Option.map_some, wrap_i64, x_mul, hge, hlt, w_ia, w_lda hid]
    refine cmp_ok _ _ _ _ fun d => ?_
    by_cases hd : d < 0
    · simp (maxSteps := 1000000) (implicitDefEqProofs := false) (disch := (try simp only [List.length_set]); omega) only [stp, if_true, if_false, Int.reduceEq, Int.reduceLT, Int.reduceLE, Int.reduceGT, Int.reduceGE, reduceCtorEq, Nat.reduceEqDiff, List.getElem?_cons_zero, List.getElem?_cons_succ, Option.map_some, wrap_i64, hd, w_ia, w_lda hid, w_st hid]
      exact tail (2 * r + 1) (by omega) (by omega) 0 _ (by simp [hks]) _ (.cons rfl (.cons rfl (.cons rfl (.cons rfl (.cons rfl .nil)))))
    · simp (maxSteps := 1000000) (implicitDefEqProofs := false) only [stp, if_true, if_false, Int.reduceEq, Int.reduceLT, Int.reduceLE, Int.reduceGT, Int.reduceGE, reduceCtorEq, Nat.reduceEqDiff, List.getElem?_cons_zero, List.getElem?_cons_succ, Option.map_some, hd]
      exact Left.mk hw hks

theorem Left.out {H G : Heap} {id n : Nat} (h : Left H id n G) : ∃ H2 ks, Ext H H2 ∧ WF H2 ∧ ks.length = n ∧ G = wr H2 id ks := h
theorem Left.hid {H H2 : Heap} {id : Nat} (hid : id < H.next) (hx : Ext H H2) : id < H2.next := Nat.lt_of_lt_of_le hid hx.next

set_option maxRecDepth 20000 in
set_option maxHeartbeats 2000000 in
theorem heap_calls {H : Heap} (hw : WF H) {id n : Nat} (hid : id < H.next) (hn : n ≤ 64) {ks : List KeyA} (hks : ks.length = n) {a b : Int} (ha : 0 ≤ a) (hab : a < b) (hb : b ≤ n) :
    SCalls PP 76 [.slice id 0 n none, .int .i64 a, .int .i64 b, cmpF] (wr H id ks) fun _ H' => Left H id n H' := by
  refine SCalls.go c76 (by simp [fn76]) fun hz => ?_
  clear hz
  simp (maxSteps := 1000000) (implicitDefEqProofs := false) (disch := omega) only [stp, if_true, if_false, Int.reduceEq, Int.reduceLT, Int.reduceLE, Int.reduceGT, Int.reduceGE, reduceCtorEq, Nat.reduceEqDiff, List.getElem?_cons_zero, List.getElem?_cons_succ, Option.map_some, wrap_i64, fn76, enterFr, List.length, List.range, List.range.loop, List.zip, List.zipWith, x_quo]
  refine wp_loopI (fun m fr G => ∃ (i : Int), m = (i + 1).toNat ∧ -1 ≤ i ∧ i ≤ 64 ∧ Left H id n G ∧ FrSub [(11, .int .i64 i), (8, .int .i64 a), (9, .int .i64 0), (10, .int .i64 (b - a)), (0, .slice id 0 n none), (3, cmpF)] fr) ((b - a - 1) / 2 + 1).toNat
    ⟨(b - a - 1) / 2, rfl, by omega, by omega, Left.mk hw hks, .cons rfl (.cons rfl (.cons rfl (.cons rfl (.cons rfl (.cons rfl .nil)))))⟩ ?_
  clear hks ks
  rintro m fr G ⟨i, rfl, hi0, hi1, hL, hsub⟩
  refine ⟨_, hsub, ?_⟩
  obtain ⟨H2, ks, hx, hw2, hks, rfl⟩ := hL.out
  have hid2 := Left.hid hid hx
  by_cases hge : i ≥ 0
  · simp (maxSteps := 1000000) (implicitDefEqProofs := false) (disch := omega) only [stp, if_true, if_false, Int.reduceEq, Int.reduceLT, Int.reduceLE, Int.reduceGT, Int.reduceGE, reduceCtorEq, Nat.reduceEqDiff, List.getElem?_cons_zero, List.getElem?_cons_succ, Option.map_some, wrap_i64, hge]
    refine SCalls.mono (sift_calls hw2 hid2 hn hks hge (by omega) ha (by omega) (by omega)) ?_
    rintro r G hL2
    simp (maxSteps := 1000000) (implicitDefEqProofs := false) (disch := omega) only [stp, if_true, if_false, Int.reduceEq, Int.reduceLT, Int.reduceLE, Int.reduceGT, Int.reduceGE, reduceCtorEq, Nat.reduceEqDiff, List.getElem?_cons_zero, List.getElem?_cons_succ, Option.map_some, wrap_i64, hge]
    exact ⟨(i - 1 + 1).toNat, by omega, i - 1, rfl, by omega, by omega, hL2.of hx, .cons rfl (.cons rfl (.cons rfl (.cons rfl (.cons rfl (.cons rfl .nil)))))⟩
  simp (maxSteps := 1000000) (implicitDefEqProofs := false) (disch := omega) only [stp, if_true, if_false, Int.reduceEq, Int.reduceLT, Int.reduceLE, Int.reduceGT, Int.reduceGE, reduceCtorEq, Nat.reduceEqDiff, List.getElem?_cons_zero, List.getElem?_cons_succ, Option.map_some, wrap_i64, hge]
  refine wp_loopI (fun m fr G => ∃ (i : Int), m = (i + 1).toNat ∧ -1 ≤ i ∧ i < b - a ∧ Left H id n G ∧ FrSub [(12, .int .i64 i), (8, .int .i64 a), (9, .int .i64 0), (10, .int .i64 (b - a)), (0, .slice id 0 n none), (3, cmpF)] fr) (b - a - 1 + 1).toNat
    ⟨b - a - 1, rfl, by omega, by omega, hL, .cons rfl (.cons rfl (.cons rfl (.cons rfl (.cons rfl (.cons rfl .nil)))))⟩ ?_
  clear hks ks hx hw2 hid2 hL H2 hsub hi0 hi1 hge
  rintro m fr G ⟨i, rfl, hi0, hi1, hL, hsub⟩
  refine ⟨_, hsub, ?_⟩
  obtain ⟨H2, ks, hx, hw2, hks, rfl⟩ := hL.out
  have hid2 := Left.hid hid hx
  by_cases hge : i ≥ 0
  · simp (maxSteps := 1000000) (implicitDefEqProofs := false) (disch := (try simp only [List.length_set]); omega) only [stp, if_true, if_false, Int.reduceEq, Int.reduceLT, Int.reduceLE, Int.reduceGT, Int.reduceGE, reduceCtorEq, Nat.reduceEqDiff, List.getElem?_cons_zero, List.getElem?_cons_succ, Option.map_some, wrap_i64, hge, w_ia, w_lda hid2, w_st hid2]
    refine SCalls.mono (sift_calls (hi := i) (first := a) hw2 hid2 hn (by simp [hks]) (Int.le_refl 0) (by omega) ha (by omega) (by omega)) ?_
    rintro r G hL2
    simp (maxSteps := 1000000) (implicitDefEqProofs := false) (disch := omega) only [stp, if_true, if_false, Int.reduceEq, Int.reduceLT, Int.reduceLE, Int.reduceGT, Int.reduceGE, reduceCtorEq, Nat.reduceEqDiff, List.getElem?_cons_zero, List.getElem?_cons_succ, Option.map_some, wrap_i64, hge]
    exact ⟨(i - 1 + 1).toNat, by omega, i - 1, rfl, by omega, by omega, hL2.of hx, .cons rfl (.cons rfl (.cons rfl (.cons rfl (.cons rfl (.cons rfl .nil)))))⟩
  · simp (maxSteps := 1000000) (implicitDefEqProofs := false) only [stp, if_true, if_false, Int.reduceEq, Int.reduceLT, Int.reduceLE, Int.reduceGT, Int.reduceGE, reduceCtorEq, Nat.reduceEqDiff, List.getElem?_cons_zero, List.getElem?_cons_succ, Option.map_some, hge]
    exact hL

/-! ### The broken patterns -/
theorem x_xor64 (a b : Int) (H : Heap) : ∃ c : Int, exec (.ibin .xor) [.int .u64 a, .int .u64 b] H = some (.int .u64 c, H) := ⟨_, rfl⟩
def xor64 (a b : Int) : Int := IntKind.u64.wrap (BitVec.ofInt 64 a ^^^ BitVec.ofInt 64 b).toNat
theorem x_xor (a b : Int) (H : Heap) : exec (.ibin .xor) [.int .u64 a, .int .u64 b] H = some (.int .u64 (xor64 a b), H) := rfl
theorem x_subu (a b : Int) (H : Heap) : exec (.ibin .sub) [.int .u64 a, .int .u64 b] H = some (.int .u64 (IntKind.u64.wrap (a - b)), H) := rfl
theorem x_shr7 (a : Int) (H : Heap) : exec (.ibin .shr) [.int .u64 a, .int .u64 7] H = some (.int .u64 (a.fdiv 128), H) := rfl
theorem wrap_u64 {n : Int} (h : 0 ≤ n) (k : n < 18446744073709551616) : IntKind.u64.wrap n = n := by
  simp only [IntKind.wrap, IntKind.bits, IntKind.signed, Bool.false_and]
  simp
  omega
theorem and64_le {a b : Int} (h0 : 0 ≤ b) (h1 : b < 18446744073709551616) : 0 ≤ and64 a b ∧ and64 a b ≤ b := by
  have e : ((BitVec.ofInt 64 b).toNat : Int) = b := by
    rw [BitVec.toNat_ofInt]
    omega
  have h2 : (BitVec.ofInt 64 a &&& BitVec.ofInt 64 b).toNat ≤ (BitVec.ofInt 64 b).toNat := by rw [BitVec.toNat_and]; exact Nat.and_le_right
  unfold and64
  rw [wrap_u64 (by omega) (by omega)]
  omega

set_option maxRecDepth 20000 in
set_option maxHeartbeats 2000000 in
theorem xorshift_calls {H : Heap} {id q : Nat} (hq : q ≠ id) {ks : List KeyA} (s : Int) :
    SCalls PP 100 [.ptr q 0] (wr (cv H q (.int .u64 s)) id ks) fun r H' => ∃ s', r = .int .u64 s' ∧ H' = wr (cv H q (.int .u64 s')) id ks := by
  refine SCalls.go c100 (by simp [fn100]) fun hz => ?_
  clear hz
  have st : ∀ s s', exec (.st 1) [.ptr q 0, .int .u64 s'] (wr (cv H q (.int .u64 s)) id ks) = some (.undef, wr (cv H q (.int .u64 s')) id ks) := fun s s' => cv_st hq _ _ rfl rfl ks
  have s13 : ∀ a G, exec (.ibin .shl) [.int .u64 a, .int .u64 13] G = some (.int .u64 (shl64 a 13), G) := fun a G => x_shl a 13 (by decide) G
  have s17 : ∀ a G, exec (.ibin .shl) [.int .u64 a, .int .u64 17] G = some (.int .u64 (shl64 a 17), G) := fun a G => x_shl a 17 (by decide) G
  simp (maxSteps := 1000000) (implicitDefEqProofs := false) only [stp, if_true, if_false, Int.reduceEq, Int.reduceLT, Int.reduceLE, Int.reduceGT, Int.reduceGE, reduceCtorEq, Nat.reduceEqDiff, List.getElem?_cons_zero, List.getElem?_cons_succ, Option.map_some, fn100, enterFr, List.length, List.range, List.range.loop, List.zip, List.zipWith, cv_ld hq, st, s13, s17, x_xor, x_shr7]
  exact ⟨_, rfl, rfl⟩

def pw (k : Nat) : Int := if k = 0 then 1 else 2 ^ (Nat.log2 k + 1)
def tblP : List (Nat × AFn) := [(99, fn99), (55, fn55), (84, fn84)]
theorem tblP_ok : ∀ p ∈ tblP, compFn Go.Proofs.Tryd.prog p.1 = some p.2 := tbl_cons c99 (tbl_cons c55 (tbl_cons c84 tbl_nil))
def isU (m : Int) : Option V → Bool
  | some (.int .u64 k) => decide (k = m)
  | _ => false
theorem isU_eq {m : Int} {o : Option V} (h : isU m o = true) : o = some (.int .u64 m) := by
  unfold isU at h
  split at h
  · simp at h; rw [h]
  · cases h
theorem pw_fin : (List.range 65).all (fun k => isU (pw k) ((runFn (tblGet tblP) 10 5 99 [.int .i64 k] H0).map (·.1))) = true := by kernel_rfl
theorem pw_le : ∀ k : Fin 65, 1 ≤ pw k.val ∧ (k.val = 0 ∨ pw k.val ≤ 2 * k.val) ∧ pw k.val ≤ 128 := by decide +kernel
theorem next_calls {k : Int} (h0 : 0 ≤ k) (h1 : k ≤ 64) (H : Heap) : SCalls PP 99 [.int .i64 k] H fun r H' => H' = H ∧ r = .int .u64 (pw k.toNat) := by
  have := List.all_eq_true.1 pw_fin k.toNat (by simp; omega)
  have e := isU_eq this
  rw [show ((k.toNat : Nat) : Int) = k by omega] at e
  exact SCalls.worked (fun f af => tblGet_ok tblP_ok) rfl rfl e H

set_option maxRecDepth 20000 in
set_option maxHeartbeats 2000000 in
theorem break_calls {H : Heap} (hw : WF H) {id n : Nat} (hid : id < H.next) (hn : n ≤ 64) {ks : List KeyA} (hks : ks.length = n) {a b : Int} (ha : 0 ≤ a) (hab : a + 8 ≤ b) (hb : b ≤ n) :
    SCalls PP 77 [.slice id 0 n none, .int .i64 a, .int .i64 b, cmpF] (wr H id ks) fun _ H' => Left H id n H' := by
  refine SCalls.go c77 (by simp [fn77]) fun hz => ?_
  clear hz
  have hal := cv_alloc hid (.int .u64 0) rfl ks
  have hq : H.next ≠ id := by omega
  have hid1 : id < (H.new (.row false 1 [.int .u64 0])).next := by rw [Heap.new_next]; omega
  have hst : ∀ s s' ks, exec (.st 1) [.ptr H.next 0, .int .u64 s'] (wr (cv (H.new (.row false 1 [.int .u64 0])) H.next (.int .u64 s)) id ks) = some (.undef, wr (cv (H.new (.row false 1 [.int .u64 0])) H.next (.int .u64 s')) id ks) := fun s s' ks => cv_st hq _ _ rfl rfl ks
  have hx2 : ∀ s, Ext H (cv (H.new (.row false 1 [.int .u64 0])) H.next (.int .u64 s)) := fun s => cv_ext _ _
  have hw2 : ∀ s, WF (cv (H.new (.row false 1 [.int .u64 0])) H.next (.int .u64 s)) := fun s => cv_wf hw _ _
  have hg8 : b - a ≥ 8 := by omega
  generalize H.new (.row false 1 [.int .u64 0]) = H1 at *
  simp (maxSteps := 1000000) (implicitDefEqProofs := false) (disch := omega) only [stp, if_true, if_false, Int.reduceEq, Int.reduceLT, Int.reduceLE, Int.reduceGT, Int.reduceGE, reduceCtorEq, Nat.reduceEqDiff, List.getElem?_cons_zero, List.getElem?_cons_succ, Option.map_some, wrap_i64, fn77, enterFr, List.length, List.range, List.range.loop, List.zip, List.zipWith, hg8, hal, x_toInt, hst]
  generalize IntKind.u64.wrap (b - a) = s0
  refine SCalls.mono (next_calls (k := b - a) (by omega) (by omega) _) ?_
  rintro r G ⟨rfl, rfl⟩
  simp (maxSteps := 1000000) (implicitDefEqProofs := false) (disch := omega) only [stp, if_true, if_false, Int.reduceEq, Int.reduceLT, Int.reduceLE, Int.reduceGT, Int.reduceGE, reduceCtorEq, Nat.reduceEqDiff, List.getElem?_cons_zero, List.getElem?_cons_succ, Option.map_some, wrap_i64, x_quo, x_mul]
  obtain ⟨p0, p1, p2⟩ := pw_le ⟨(b - a).toNat, by omega⟩
  simp only at p0 p1 p2
  generalize pw (b - a).toNat = pm at *
  refine wp_loopI (fun m fr G => ∃ (i s : Int) (ks : List KeyA), m = (a + (b - a) / 4 * 2 + 2 - i).toNat ∧ a + (b - a) / 4 * 2 - 1 ≤ i ∧ ks.length = n ∧ G = wr (cv H1 H.next (.int .u64 s)) id ks ∧ i ≤ 100 ∧
    FrSub [(11, .int .i64 i), (10, .int .u64 pm), (9, .ptr H.next 0), (8, .int .i64 (b - a)), (0, .slice id 0 n none), (1, .int .i64 a)] fr) (a + (b - a) / 4 * 2 + 2 - (a + (b - a) / 4 * 2 - 1)).toNat
    ⟨_, s0, ks, rfl, by omega, hks, rfl, by omega, .cons rfl (.cons rfl (.cons rfl (.cons rfl (.cons rfl (.cons rfl .nil)))))⟩ ?_
  clear hks ks hal
  rintro m fr G ⟨i, s, ks, rfl, hi, hks, rfl, hi2, hsub⟩
  refine ⟨_, hsub, ?_⟩
  by_cases hle : i ≤ a + (b - a) / 4 * 2 + 1
  rotate_left
  · simp (maxSteps := 1000000) (implicitDefEqProofs := false) (disch := omega) only [stp, if_true, if_false, Int.reduceEq, Int.reduceLT, Int.reduceLE, Int.reduceGT, Int.reduceGE, reduceCtorEq, Nat.reduceEqDiff, List.getElem?_cons_zero, List.getElem?_cons_succ, Option.map_some, wrap_i64, x_quo, x_mul, hle]
    exact ⟨_, _, hx2 s, hw2 s, hks, rfl⟩
  simp (maxSteps := 1000000) (implicitDefEqProofs := false) (disch := omega) only [stp, if_true, if_false, Int.reduceEq, Int.reduceLT, Int.reduceLE, Int.reduceGT, Int.reduceGE, reduceCtorEq, Nat.reduceEqDiff, List.getElem?_cons_zero, List.getElem?_cons_succ, Option.map_some, wrap_i64, x_quo, x_mul, hle]
  refine SCalls.mono (xorshift_calls hq s) ?_
  rintro r G ⟨s', rfl, rfl⟩
  have hid2 : id < (cv H1 H.next (.int .u64 s')).next := hid1
  have hwp : IntKind.u64.wrap (pm - 1) = pm - 1 := wrap_u64 (by omega) (by omega)
  obtain ⟨q0, q1⟩ := and64_le (a := s') (b := pm - 1) (by omega) (by omega)
  generalize hA : and64 s' (pm - 1) = A at *
  by_cases hge : A ≥ b - a
  · simp (maxSteps := 1000000) (implicitDefEqProofs := false) (disch := (try simp only [List.length_set]); omega) only [stp, if_true, if_false, Int.reduceEq, Int.reduceLT, Int.reduceLE, Int.reduceGT, Int.reduceGE, reduceCtorEq, Nat.reduceEqDiff, List.getElem?_cons_zero, List.getElem?_cons_succ, Option.map_some, wrap_i64, x_subu, hwp, x_and, hA, x_toInt, hge, w_ia, w_lda hid2, w_st hid2]
    exact ⟨(a + (b - a) / 4 * 2 + 2 - (i + 1)).toNat, by omega, i + 1, s', _, rfl, by omega, by simp [hks], rfl, by omega, .cons rfl (.cons rfl (.cons rfl (.cons rfl (.cons rfl (.cons rfl .nil)))))⟩
  · simp (maxSteps := 1000000) (implicitDefEqProofs := false) (disch := (try simp only [List.length_set]); omega) only [stp, if_true, if_false, Int.reduceEq, Int.reduceLT, Int.reduceLE, Int.reduceGT, Int.reduceGE, reduceCtorEq, Nat.reduceEqDiff, List.getElem?_cons_zero, List.getElem?_cons_succ, Option.map_some, wrap_i64, x_subu, hwp, x_and, hA, x_toInt, hge, w_ia, w_lda hid2, w_st hid2]
    exact ⟨(a + (b - a) / 4 * 2 + 2 - (i + 1)).toNat, by omega, i + 1, s', _, rfl, by omega, by simp [hks], rfl, by omega, .cons rfl (.cons rfl (.cons rfl (.cons rfl (.cons rfl (.cons rfl .nil)))))⟩
end Go.Proofs.YtbadbkdpnbacnaaDoor.Fw

/- slices.SortFunc at keys: the partitions, the sort. No condition. Printed by mkWd.py. -/
namespace Go.Proofs.YtbadbkdpnbacnaaDoor.Fw
open Go
set_option linter.unusedSimpArgs false
set_option linter.unusedVariables false

/-- Behind a scan: the range is at i and j. -/
def PS (H : Heap) (id n : Nat) (x : Nat) (si sj : Nat) (l : Fr) (C : Int → Int → Prop) (e : Exit) (f : Fr) (G : Heap) : Prop :=
  e = .exit x ∧ ∃ (i j : Int) (ks : List KeyA), C i j ∧ ks.length = n ∧ G = wr H id ks ∧ FrSub ((si, .int .i64 i) :: (sj, .int .i64 j) :: l) f

set_option maxRecDepth 20000 in
set_option maxHeartbeats 4000000 in
theorem partition_calls {H : Heap} (hw : WF H) {id n : Nat} (hid : id < H.next) (hn : n ≤ 64) {ks : List KeyA} (hks : ks.length = n) {a b p : Int} (ha : 0 ≤ a) (hab : a < b) (hb : b ≤ n) (hp : a ≤ p ∧ p < b) :
    SCalls PP 82 [.slice id 0 n none, .int .i64 a, .int .i64 b, .int .i64 p, cmpF] (wr H id ks) fun r H' => ∃ (q : Int) (t : Bool), r = .tup [.int .i64 q, .bool t] ∧ (a ≤ q ∧ q < b) ∧ Left H id n H' := by
  refine SCalls.go c82 (by simp [fn82]) fun hz => ?_
  clear hz
  simp (maxSteps := 1000000) (implicitDefEqProofs := false) (disch := (try simp only [List.length_set]); omega) only [stp, if_true, if_false, Int.reduceEq, Int.reduceLT, Int.reduceLE, Int.reduceGT, Int.reduceGE, reduceCtorEq, Nat.reduceEqDiff, List.getElem?_cons_zero, List.getElem?_cons_succ, Option.map_some, wrap_i64, fn82, enterFr, List.length, List.range, List.range.loop, List.zip, List.zipWith, w_ia, w_lda hid, w_st hid]
  refine wpC_mono SCalls.scMono _ _ _ (PS H id n 0 12 13 [(0, .slice id 0 n none), (1, .int .i64 a), (4, cmpF)] (fun i j => a + 1 ≤ i ∧ i ≤ b ∧ a ≤ j ∧ j < b)) _ ?_ ?_
  · refine wp_loopI (fun m fr G => ∃ (i j : Int) (ks : List KeyA), m = (j - i + 1).toNat ∧ (fun i j => a + 1 ≤ i ∧ i ≤ b ∧ a ≤ j ∧ j < b) i j ∧ ks.length = n ∧ G = wr H id ks ∧ FrSub ((12, .int .i64 i) :: (13, .int .i64 j) :: [(0, .slice id 0 n none), (1, .int .i64 a), (4, cmpF)]) fr) _
      ⟨_, _, _, rfl, ⟨by omega, by omega, by omega, by omega⟩, by simp [hks], rfl, (.cons rfl (.cons rfl (.cons rfl (.cons rfl (.cons rfl .nil)))))⟩ ?_
    clear hks
    rintro m fr G ⟨i, j, ks, rfl, hC, hks, rfl, hsub⟩
    obtain ⟨c1, c2, c3, c4⟩ := hC
    refine ⟨_, hsub, ?_⟩
    by_cases hle : i ≤ j
    rotate_left
    · simp (maxSteps := 1000000) (implicitDefEqProofs := false) only [stp, if_true, if_false, Int.reduceEq, Int.reduceLT, Int.reduceLE, Int.reduceGT, Int.reduceGE, reduceCtorEq, Nat.reduceEqDiff, List.getElem?_cons_zero, List.getElem?_cons_succ, Option.map_some, hle]
      exact ⟨rfl, i, j, ks, ⟨c1, c2, c3, c4⟩, hks, rfl, (.cons rfl (.cons rfl (.cons rfl (.cons rfl (.cons rfl .nil)))))⟩
    simp (maxSteps := 1000000) (implicitDefEqProofs := false) (disch := omega) only [stp, if_true, if_false, Int.reduceEq, Int.reduceLT, Int.reduceLE, Int.reduceGT, Int.reduceGE, reduceCtorEq, Nat.reduceEqDiff, List.getElem?_cons_zero, List.getElem?_cons_succ, Option.map_some, wrap_i64, hle, w_ia, w_lda hid]
    refine cmp_ok _ _ _ _ fun c => ?_
    by_cases hc : c < 0
    · simp (maxSteps := 1000000) (implicitDefEqProofs := false) (disch := omega) only [stp, if_true, if_false, Int.reduceEq, Int.reduceLT, Int.reduceLE, Int.reduceGT, Int.reduceGE, reduceCtorEq, Nat.reduceEqDiff, List.getElem?_cons_zero, List.getElem?_cons_succ, Option.map_some, wrap_i64, hc]
      exact ⟨(j - (i + 1) + 1).toNat, by omega, i + 1, j, ks, rfl, ⟨by omega, by omega, by omega, by omega⟩, hks, rfl, (.cons rfl (.cons rfl (.cons rfl (.cons rfl (.cons rfl .nil)))))⟩
    · simp (maxSteps := 1000000) (implicitDefEqProofs := false) (disch := omega) only [stp, if_true, if_false, Int.reduceEq, Int.reduceLT, Int.reduceLE, Int.reduceGT, Int.reduceGE, reduceCtorEq, Nat.reduceEqDiff, List.getElem?_cons_zero, List.getElem?_cons_succ, Option.map_some, wrap_i64, hc]
      exact ⟨rfl, i, j, ks, ⟨c1, c2, c3, c4⟩, hks, rfl, (.cons rfl (.cons rfl (.cons rfl (.cons rfl (.cons rfl .nil)))))⟩
  clear hks
  rintro e f G ⟨rfl, i, j, ks, ⟨c1, c2, c3, c4⟩, hks, rfl, hf⟩
  have g12 := hf 12 _ rfl
  have g13 := hf 13 _ rfl
  have g0 := hf 0 _ rfl
  have g1 := hf 1 _ rfl
  have g4 := hf 4 _ rfl
  simp (maxSteps := 1000000) (implicitDefEqProofs := false) only [stp, if_true, if_false, Int.reduceEq, Int.reduceLT, Int.reduceLE, Int.reduceGT, Int.reduceGE, reduceCtorEq, Nat.reduceEqDiff, List.getElem?_cons_zero, List.getElem?_cons_succ, Option.map_some, if_true]
  refine wpC_mono SCalls.scMono _ _ _ (PS H id n 2 12 13 [(0, .slice id 0 n none), (1, .int .i64 a), (4, cmpF)] (fun i j => a + 1 ≤ i ∧ i ≤ b ∧ a ≤ j ∧ j < b)) _ ?_ ?_
  · refine wp_loopI (fun m fr G => ∃ (i j : Int) (ks : List KeyA), m = (j - i + 1).toNat ∧ (fun i j => a + 1 ≤ i ∧ i ≤ b ∧ a ≤ j ∧ j < b) i j ∧ ks.length = n ∧ G = wr H id ks ∧ FrSub ((12, .int .i64 i) :: (13, .int .i64 j) :: [(0, .slice id 0 n none), (1, .int .i64 a), (4, cmpF)]) fr) _
      ⟨_, _, _, rfl, ⟨by omega, by omega, by omega, by omega⟩, by simp [hks], rfl, (.cons g12 (.cons g13 (.cons g0 (.cons g1 (.cons g4 .nil)))))⟩ ?_
    clear hks
    rintro m fr G ⟨i, j, ks, rfl, hC, hks, rfl, hsub⟩
    obtain ⟨c1, c2, c3, c4⟩ := hC
    refine ⟨_, hsub, ?_⟩
    by_cases hle : i ≤ j
    rotate_left
    · simp (maxSteps := 1000000) (implicitDefEqProofs := false) only [stp, if_true, if_false, Int.reduceEq, Int.reduceLT, Int.reduceLE, Int.reduceGT, Int.reduceGE, reduceCtorEq, Nat.reduceEqDiff, List.getElem?_cons_zero, List.getElem?_cons_succ, Option.map_some, hle]
      exact ⟨rfl, i, j, ks, ⟨c1, c2, c3, c4⟩, hks, rfl, (.cons rfl (.cons rfl (.cons rfl (.cons rfl (.cons rfl .nil)))))⟩
    simp (maxSteps := 1000000) (implicitDefEqProofs := false) (disch := omega) only [stp, if_true, if_false, Int.reduceEq, Int.reduceLT, Int.reduceLE, Int.reduceGT, Int.reduceGE, reduceCtorEq, Nat.reduceEqDiff, List.getElem?_cons_zero, List.getElem?_cons_succ, Option.map_some, wrap_i64, hle, w_ia, w_lda hid]
    refine cmp_ok _ _ _ _ fun c => ?_
    by_cases hc : c < 0
    · simp (maxSteps := 1000000) (implicitDefEqProofs := false) (disch := omega) only [stp, if_true, if_false, Int.reduceEq, Int.reduceLT, Int.reduceLE, Int.reduceGT, Int.reduceGE, reduceCtorEq, Nat.reduceEqDiff, List.getElem?_cons_zero, List.getElem?_cons_succ, Option.map_some, wrap_i64, hc]
      exact ⟨rfl, i, j, ks, ⟨c1, c2, c3, c4⟩, hks, rfl, (.cons rfl (.cons rfl (.cons rfl (.cons rfl (.cons rfl .nil)))))⟩
    · simp (maxSteps := 1000000) (implicitDefEqProofs := false) (disch := omega) only [stp, if_true, if_false, Int.reduceEq, Int.reduceLT, Int.reduceLE, Int.reduceGT, Int.reduceGE, reduceCtorEq, Nat.reduceEqDiff, List.getElem?_cons_zero, List.getElem?_cons_succ, Option.map_some, wrap_i64, hc]
      exact ⟨(j - 1 - (i) + 1).toNat, by omega, i, j - 1, ks, rfl, ⟨by omega, by omega, by omega, by omega⟩, hks, rfl, (.cons rfl (.cons rfl (.cons rfl (.cons rfl (.cons rfl .nil)))))⟩
  clear hks
  rintro e f G ⟨rfl, i, j, ks, ⟨c1, c2, c3, c4⟩, hks, rfl, hf⟩
  have g12 := hf 12 _ rfl
  have g13 := hf 13 _ rfl
  have g0 := hf 0 _ rfl
  have g1 := hf 1 _ rfl
  have g4 := hf 4 _ rfl
  by_cases hgt : i > j
  · simp (maxSteps := 1000000) (implicitDefEqProofs := false) (disch := (try simp only [List.length_set]); omega) only [stp, if_true, if_false, Int.reduceEq, Int.reduceLT, Int.reduceLE, Int.reduceGT, Int.reduceGE, reduceCtorEq, Nat.reduceEqDiff, List.getElem?_cons_zero, List.getElem?_cons_succ, Option.map_some, wrap_i64, g12, g13, g0, g1, g4, hgt, w_ia, w_lda hid, w_st hid]
    exact ⟨_, _, rfl, by omega, Left.mk hw (by simp [hks])⟩
  simp (maxSteps := 1000000) (implicitDefEqProofs := false) (disch := (try simp only [List.length_set]); omega) only [stp, if_true, if_false, Int.reduceEq, Int.reduceLT, Int.reduceLE, Int.reduceGT, Int.reduceGE, reduceCtorEq, Nat.reduceEqDiff, List.getElem?_cons_zero, List.getElem?_cons_succ, Option.map_some, wrap_i64, g12, g13, g0, g1, g4, hgt, w_ia, w_lda hid, w_st hid]
  refine wp_loopI (fun m fr G => ∃ (i j : Int) (ks : List KeyA), m = (j - i + 2).toNat ∧ (fun i j => a + 1 ≤ i ∧ i ≤ b ∧ a ≤ j ∧ j < b) i j ∧ ks.length = n ∧ G = wr H id ks ∧ FrSub ((12, .int .i64 i) :: (13, .int .i64 j) :: [(0, .slice id 0 n none), (1, .int .i64 a), (4, cmpF)]) fr) _
    ⟨_, _, _, rfl, ⟨by omega, by omega, by omega, by omega⟩, by simp [hks], rfl, (.cons rfl (.cons rfl (.cons g0 (.cons g1 (.cons g4 .nil)))))⟩ ?_
  clear hks g12 g13 g0 g1 g4 hf hgt c1 c2 c3 c4
  rintro m fr G ⟨i0, j0, ks, rfl, ⟨c1, c2, c3, c4⟩, hks, rfl, hsub⟩
  refine ⟨_, hsub, ?_⟩
  simp (maxSteps := 1000000) (implicitDefEqProofs := false) only [stp, if_true, if_false, Int.reduceEq, Int.reduceLT, Int.reduceLE, Int.reduceGT, Int.reduceGE, reduceCtorEq, Nat.reduceEqDiff, List.getElem?_cons_zero, List.getElem?_cons_succ, Option.map_some, if_true]
  refine wpC_mono SCalls.scMono _ _ _ (PS H id n 6 12 13 [(0, .slice id 0 n none), (1, .int .i64 a), (4, cmpF)] (fun i j => a + 1 ≤ i ∧ i ≤ b ∧ a ≤ j ∧ (j < b ∧ j - i ≤ j0 - i0))) _ ?_ ?_
  · refine wp_loopI (fun m fr G => ∃ (i j : Int) (ks : List KeyA), m = (j - i + 1).toNat ∧ (fun i j => a + 1 ≤ i ∧ i ≤ b ∧ a ≤ j ∧ (j < b ∧ j - i ≤ j0 - i0)) i j ∧ ks.length = n ∧ G = wr H id ks ∧ FrSub ((12, .int .i64 i) :: (13, .int .i64 j) :: [(0, .slice id 0 n none), (1, .int .i64 a), (4, cmpF)]) fr) _
      ⟨_, _, _, rfl, ⟨by omega, by omega, by omega, by omega⟩, by simp [hks], rfl, (.cons rfl (.cons rfl (.cons rfl (.cons rfl (.cons rfl .nil)))))⟩ ?_
    clear hks
    rintro m fr G ⟨i, j, ks, rfl, hC, hks, rfl, hsub⟩
    obtain ⟨c1, c2, c3, c4⟩ := hC
    refine ⟨_, hsub, ?_⟩
    by_cases hle : i ≤ j
    rotate_left
    · simp (maxSteps := 1000000) (implicitDefEqProofs := false) only [stp, if_true, if_false, Int.reduceEq, Int.reduceLT, Int.reduceLE, Int.reduceGT, Int.reduceGE, reduceCtorEq, Nat.reduceEqDiff, List.getElem?_cons_zero, List.getElem?_cons_succ, Option.map_some, hle]
      exact ⟨rfl, i, j, ks, ⟨c1, c2, c3, c4⟩, hks, rfl, (.cons rfl (.cons rfl (.cons rfl (.cons rfl (.cons rfl .nil)))))⟩
    simp (maxSteps := 1000000) (implicitDefEqProofs := false) (disch := omega) only [stp, if_true, if_false, Int.reduceEq, Int.reduceLT, Int.reduceLE, Int.reduceGT, Int.reduceGE, reduceCtorEq, Nat.reduceEqDiff, List.getElem?_cons_zero, List.getElem?_cons_succ, Option.map_some, wrap_i64, hle, w_ia, w_lda hid]
    refine cmp_ok _ _ _ _ fun c => ?_
    by_cases hc : c < 0
    · simp (maxSteps := 1000000) (implicitDefEqProofs := false) (disch := omega) only [stp, if_true, if_false, Int.reduceEq, Int.reduceLT, Int.reduceLE, Int.reduceGT, Int.reduceGE, reduceCtorEq, Nat.reduceEqDiff, List.getElem?_cons_zero, List.getElem?_cons_succ, Option.map_some, wrap_i64, hc]
      exact ⟨(j - (i + 1) + 1).toNat, by omega, i + 1, j, ks, rfl, ⟨by omega, by omega, by omega, by omega⟩, hks, rfl, (.cons rfl (.cons rfl (.cons rfl (.cons rfl (.cons rfl .nil)))))⟩
    · simp (maxSteps := 1000000) (implicitDefEqProofs := false) (disch := omega) only [stp, if_true, if_false, Int.reduceEq, Int.reduceLT, Int.reduceLE, Int.reduceGT, Int.reduceGE, reduceCtorEq, Nat.reduceEqDiff, List.getElem?_cons_zero, List.getElem?_cons_succ, Option.map_some, wrap_i64, hc]
      exact ⟨rfl, i, j, ks, ⟨c1, c2, c3, c4⟩, hks, rfl, (.cons rfl (.cons rfl (.cons rfl (.cons rfl (.cons rfl .nil)))))⟩
  clear hks
  rintro e f G ⟨rfl, i, j, ks, ⟨c1, c2, c3, c4⟩, hks, rfl, hf⟩
  have g12 := hf 12 _ rfl
  have g13 := hf 13 _ rfl
  have g0 := hf 0 _ rfl
  have g1 := hf 1 _ rfl
  have g4 := hf 4 _ rfl
  simp (maxSteps := 1000000) (implicitDefEqProofs := false) only [stp, if_true, if_false, Int.reduceEq, Int.reduceLT, Int.reduceLE, Int.reduceGT, Int.reduceGE, reduceCtorEq, Nat.reduceEqDiff, List.getElem?_cons_zero, List.getElem?_cons_succ, Option.map_some, if_true]
  refine wpC_mono SCalls.scMono _ _ _ (PS H id n 8 12 13 [(0, .slice id 0 n none), (1, .int .i64 a), (4, cmpF)] (fun i j => a + 1 ≤ i ∧ i ≤ b ∧ a ≤ j ∧ (j < b ∧ j - i ≤ j0 - i0))) _ ?_ ?_
  · refine wp_loopI (fun m fr G => ∃ (i j : Int) (ks : List KeyA), m = (j - i + 1).toNat ∧ (fun i j => a + 1 ≤ i ∧ i ≤ b ∧ a ≤ j ∧ (j < b ∧ j - i ≤ j0 - i0)) i j ∧ ks.length = n ∧ G = wr H id ks ∧ FrSub ((12, .int .i64 i) :: (13, .int .i64 j) :: [(0, .slice id 0 n none), (1, .int .i64 a), (4, cmpF)]) fr) _
      ⟨_, _, _, rfl, ⟨by omega, by omega, by omega, by omega⟩, by simp [hks], rfl, (.cons g12 (.cons g13 (.cons g0 (.cons g1 (.cons g4 .nil)))))⟩ ?_
    clear hks
    rintro m fr G ⟨i, j, ks, rfl, hC, hks, rfl, hsub⟩
    obtain ⟨c1, c2, c3, c4⟩ := hC
    refine ⟨_, hsub, ?_⟩
    by_cases hle : i ≤ j
    rotate_left
    · simp (maxSteps := 1000000) (implicitDefEqProofs := false) only [stp, if_true, if_false, Int.reduceEq, Int.reduceLT, Int.reduceLE, Int.reduceGT, Int.reduceGE, reduceCtorEq, Nat.reduceEqDiff, List.getElem?_cons_zero, List.getElem?_cons_succ, Option.map_some, hle]
      exact ⟨rfl, i, j, ks, ⟨c1, c2, c3, c4⟩, hks, rfl, (.cons rfl (.cons rfl (.cons rfl (.cons rfl (.cons rfl .nil)))))⟩
    simp (maxSteps := 1000000) (implicitDefEqProofs := false) (disch := omega) only [stp, if_true, if_false, Int.reduceEq, Int.reduceLT, Int.reduceLE, Int.reduceGT, Int.reduceGE, reduceCtorEq, Nat.reduceEqDiff, List.getElem?_cons_zero, List.getElem?_cons_succ, Option.map_some, wrap_i64, hle, w_ia, w_lda hid]
    refine cmp_ok _ _ _ _ fun c => ?_
    by_cases hc : c < 0
    · simp (maxSteps := 1000000) (implicitDefEqProofs := false) (disch := omega) only [stp, if_true, if_false, Int.reduceEq, Int.reduceLT, Int.reduceLE, Int.reduceGT, Int.reduceGE, reduceCtorEq, Nat.reduceEqDiff, List.getElem?_cons_zero, List.getElem?_cons_succ, Option.map_some, wrap_i64, hc]
      exact ⟨rfl, i, j, ks, ⟨c1, c2, c3, c4⟩, hks, rfl, (.cons rfl (.cons rfl (.cons rfl (.cons rfl (.cons rfl .nil)))))⟩
    · simp (maxSteps := 1000000) (implicitDefEqProofs := false) (disch := omega) only [stp, if_true, if_false, Int.reduceEq, Int.reduceLT, Int.reduceLE, Int.reduceGT, Int.reduceGE, reduceCtorEq, Nat.reduceEqDiff, List.getElem?_cons_zero, List.getElem?_cons_succ, Option.map_some, wrap_i64, hc]
      exact ⟨(j - 1 - (i) + 1).toNat, by omega, i, j - 1, ks, rfl, ⟨by omega, by omega, by omega, by omega⟩, hks, rfl, (.cons rfl (.cons rfl (.cons rfl (.cons rfl (.cons rfl .nil)))))⟩
  clear hks
  rintro e f G ⟨rfl, i, j, ks, ⟨c1, c2, c3, c4⟩, hks, rfl, hf⟩
  have g12 := hf 12 _ rfl
  have g13 := hf 13 _ rfl
  have g0 := hf 0 _ rfl
  have g1 := hf 1 _ rfl
  have g4 := hf 4 _ rfl
  by_cases hgt : i > j
  · simp (maxSteps := 1000000) (implicitDefEqProofs := false) (disch := (try simp only [List.length_set]); omega) only [stp, if_true, if_false, Int.reduceEq, Int.reduceLT, Int.reduceLE, Int.reduceGT, Int.reduceGE, reduceCtorEq, Nat.reduceEqDiff, List.getElem?_cons_zero, List.getElem?_cons_succ, Option.map_some, wrap_i64, g12, g13, g0, g1, g4, hgt, w_ia, w_lda hid, w_st hid]
    exact ⟨_, _, rfl, by omega, Left.mk hw (by simp [hks])⟩
  simp (maxSteps := 1000000) (implicitDefEqProofs := false) (disch := (try simp only [List.length_set]); omega) only [stp, if_true, if_false, Int.reduceEq, Int.reduceLT, Int.reduceLE, Int.reduceGT, Int.reduceGE, reduceCtorEq, Nat.reduceEqDiff, List.getElem?_cons_zero, List.getElem?_cons_succ, Option.map_some, wrap_i64, g12, g13, g0, g1, g4, hgt, w_ia, w_lda hid, w_st hid]
  exact ⟨(j - 1 - (i + 1) + 2).toNat, by omega, i + 1, j - 1, _, rfl, ⟨by omega, by omega, by omega, by omega⟩, by simp [hks], rfl, (.cons rfl (.cons rfl (.cons g0 (.cons g1 (.cons g4 .nil)))))⟩

set_option maxRecDepth 20000 in
set_option maxHeartbeats 4000000 in
theorem partitionEq_calls {H : Heap} (hw : WF H) {id n : Nat} (hid : id < H.next) (hn : n ≤ 64) {ks : List KeyA} (hks : ks.length = n) {a b p : Int} (ha : 0 ≤ a) (hab : a < b) (hb : b ≤ n) (hp : a ≤ p ∧ p < b) :
    SCalls PP 81 [.slice id 0 n none, .int .i64 a, .int .i64 b, .int .i64 p, cmpF] (wr H id ks) fun r H' => ∃ (q : Int), r = .int .i64 q ∧ (a + 1 ≤ q ∧ q ≤ b) ∧ Left H id n H' := by
  refine SCalls.go c81 (by simp [fn81]) fun hz => ?_
  clear hz
  simp (maxSteps := 1000000) (implicitDefEqProofs := false) (disch := (try simp only [List.length_set]); omega) only [stp, if_true, if_false, Int.reduceEq, Int.reduceLT, Int.reduceLE, Int.reduceGT, Int.reduceGE, reduceCtorEq, Nat.reduceEqDiff, List.getElem?_cons_zero, List.getElem?_cons_succ, Option.map_some, wrap_i64, fn81, enterFr, List.length, List.range, List.range.loop, List.zip, List.zipWith, w_ia, w_lda hid, w_st hid]
  refine wp_loopI (fun m fr G => ∃ (i j : Int) (ks : List KeyA), m = (j - i + 2).toNat ∧ (fun i j => a + 1 ≤ i ∧ i ≤ b ∧ a ≤ j ∧ j < b) i j ∧ ks.length = n ∧ G = wr H id ks ∧ FrSub ((11, .int .i64 i) :: (12, .int .i64 j) :: [(0, .slice id 0 n none), (1, .int .i64 a), (4, cmpF)]) fr) _
    ⟨_, _, _, rfl, ⟨by omega, by omega, by omega, by omega⟩, by simp [hks], rfl, (.cons rfl (.cons rfl (.cons rfl (.cons rfl (.cons rfl .nil)))))⟩ ?_
  clear hks ks
  rintro m fr G ⟨i0, j0, ks, rfl, ⟨c1, c2, c3, c4⟩, hks, rfl, hsub⟩
  refine ⟨_, hsub, ?_⟩
  simp (maxSteps := 1000000) (implicitDefEqProofs := false) only [stp, if_true, if_false, Int.reduceEq, Int.reduceLT, Int.reduceLE, Int.reduceGT, Int.reduceGE, reduceCtorEq, Nat.reduceEqDiff, List.getElem?_cons_zero, List.getElem?_cons_succ, Option.map_some, if_true]
  refine wpC_mono SCalls.scMono _ _ _ (PS H id n 2 11 12 [(0, .slice id 0 n none), (1, .int .i64 a), (4, cmpF)] (fun i j => a + 1 ≤ i ∧ i ≤ b ∧ a ≤ j ∧ (j < b ∧ j - i ≤ j0 - i0))) _ ?_ ?_
  · refine wp_loopI (fun m fr G => ∃ (i j : Int) (ks : List KeyA), m = (j - i + 1).toNat ∧ (fun i j => a + 1 ≤ i ∧ i ≤ b ∧ a ≤ j ∧ (j < b ∧ j - i ≤ j0 - i0)) i j ∧ ks.length = n ∧ G = wr H id ks ∧ FrSub ((11, .int .i64 i) :: (12, .int .i64 j) :: [(0, .slice id 0 n none), (1, .int .i64 a), (4, cmpF)]) fr) _
      ⟨_, _, _, rfl, ⟨by omega, by omega, by omega, by omega⟩, by simp [hks], rfl, (.cons rfl (.cons rfl (.cons rfl (.cons rfl (.cons rfl .nil)))))⟩ ?_
    clear hks
    rintro m fr G ⟨i, j, ks, rfl, hC, hks, rfl, hsub⟩
    obtain ⟨c1, c2, c3, c4⟩ := hC
    refine ⟨_, hsub, ?_⟩
    by_cases hle : i ≤ j
    rotate_left
    · simp (maxSteps := 1000000) (implicitDefEqProofs := false) only [stp, if_true, if_false, Int.reduceEq, Int.reduceLT, Int.reduceLE, Int.reduceGT, Int.reduceGE, reduceCtorEq, Nat.reduceEqDiff, List.getElem?_cons_zero, List.getElem?_cons_succ, Option.map_some, hle]
      exact ⟨rfl, i, j, ks, ⟨c1, c2, c3, c4⟩, hks, rfl, (.cons rfl (.cons rfl (.cons rfl (.cons rfl (.cons rfl .nil)))))⟩
    simp (maxSteps := 1000000) (implicitDefEqProofs := false) (disch := omega) only [stp, if_true, if_false, Int.reduceEq, Int.reduceLT, Int.reduceLE, Int.reduceGT, Int.reduceGE, reduceCtorEq, Nat.reduceEqDiff, List.getElem?_cons_zero, List.getElem?_cons_succ, Option.map_some, wrap_i64, hle, w_ia, w_lda hid]
    refine cmp_ok _ _ _ _ fun c => ?_
    by_cases hc : c < 0
    · simp (maxSteps := 1000000) (implicitDefEqProofs := false) (disch := omega) only [stp, if_true, if_false, Int.reduceEq, Int.reduceLT, Int.reduceLE, Int.reduceGT, Int.reduceGE, reduceCtorEq, Nat.reduceEqDiff, List.getElem?_cons_zero, List.getElem?_cons_succ, Option.map_some, wrap_i64, hc]
      exact ⟨rfl, i, j, ks, ⟨c1, c2, c3, c4⟩, hks, rfl, (.cons rfl (.cons rfl (.cons rfl (.cons rfl (.cons rfl .nil)))))⟩
    · simp (maxSteps := 1000000) (implicitDefEqProofs := false) (disch := omega) only [stp, if_true, if_false, Int.reduceEq, Int.reduceLT, Int.reduceLE, Int.reduceGT, Int.reduceGE, reduceCtorEq, Nat.reduceEqDiff, List.getElem?_cons_zero, List.getElem?_cons_succ, Option.map_some, wrap_i64, hc]
      exact ⟨(j - (i + 1) + 1).toNat, by omega, i + 1, j, ks, rfl, ⟨by omega, by omega, by omega, by omega⟩, hks, rfl, (.cons rfl (.cons rfl (.cons rfl (.cons rfl (.cons rfl .nil)))))⟩
  clear hks
  rintro e f G ⟨rfl, i, j, ks, ⟨c1, c2, c3, c4⟩, hks, rfl, hf⟩
  have g12 := hf 11 _ rfl
  have g13 := hf 12 _ rfl
  have g0 := hf 0 _ rfl
  have g1 := hf 1 _ rfl
  have g4 := hf 4 _ rfl
  simp (maxSteps := 1000000) (implicitDefEqProofs := false) only [stp, if_true, if_false, Int.reduceEq, Int.reduceLT, Int.reduceLE, Int.reduceGT, Int.reduceGE, reduceCtorEq, Nat.reduceEqDiff, List.getElem?_cons_zero, List.getElem?_cons_succ, Option.map_some, if_true]
  refine wpC_mono SCalls.scMono _ _ _ (PS H id n 4 11 12 [(0, .slice id 0 n none), (1, .int .i64 a), (4, cmpF)] (fun i j => a + 1 ≤ i ∧ i ≤ b ∧ a ≤ j ∧ (j < b ∧ j - i ≤ j0 - i0))) _ ?_ ?_
  · refine wp_loopI (fun m fr G => ∃ (i j : Int) (ks : List KeyA), m = (j - i + 1).toNat ∧ (fun i j => a + 1 ≤ i ∧ i ≤ b ∧ a ≤ j ∧ (j < b ∧ j - i ≤ j0 - i0)) i j ∧ ks.length = n ∧ G = wr H id ks ∧ FrSub ((11, .int .i64 i) :: (12, .int .i64 j) :: [(0, .slice id 0 n none), (1, .int .i64 a), (4, cmpF)]) fr) _
      ⟨_, _, _, rfl, ⟨by omega, by omega, by omega, by omega⟩, by simp [hks], rfl, (.cons g12 (.cons g13 (.cons g0 (.cons g1 (.cons g4 .nil)))))⟩ ?_
    clear hks
    rintro m fr G ⟨i, j, ks, rfl, hC, hks, rfl, hsub⟩
    obtain ⟨c1, c2, c3, c4⟩ := hC
    refine ⟨_, hsub, ?_⟩
    by_cases hle : i ≤ j
    rotate_left
    · simp (maxSteps := 1000000) (implicitDefEqProofs := false) only [stp, if_true, if_false, Int.reduceEq, Int.reduceLT, Int.reduceLE, Int.reduceGT, Int.reduceGE, reduceCtorEq, Nat.reduceEqDiff, List.getElem?_cons_zero, List.getElem?_cons_succ, Option.map_some, hle]
      exact ⟨rfl, i, j, ks, ⟨c1, c2, c3, c4⟩, hks, rfl, (.cons rfl (.cons rfl (.cons rfl (.cons rfl (.cons rfl .nil)))))⟩
    simp (maxSteps := 1000000) (implicitDefEqProofs := false) (disch := omega) only [stp, if_true, if_false, Int.reduceEq, Int.reduceLT, Int.reduceLE, Int.reduceGT, Int.reduceGE, reduceCtorEq, Nat.reduceEqDiff, List.getElem?_cons_zero, List.getElem?_cons_succ, Option.map_some, wrap_i64, hle, w_ia, w_lda hid]
    refine cmp_ok _ _ _ _ fun c => ?_
    by_cases hc : c < 0
    · simp (maxSteps := 1000000) (implicitDefEqProofs := false) (disch := omega) only [stp, if_true, if_false, Int.reduceEq, Int.reduceLT, Int.reduceLE, Int.reduceGT, Int.reduceGE, reduceCtorEq, Nat.reduceEqDiff, List.getElem?_cons_zero, List.getElem?_cons_succ, Option.map_some, wrap_i64, hc]
      exact ⟨(j - 1 - (i) + 1).toNat, by omega, i, j - 1, ks, rfl, ⟨by omega, by omega, by omega, by omega⟩, hks, rfl, (.cons rfl (.cons rfl (.cons rfl (.cons rfl (.cons rfl .nil)))))⟩
    · simp (maxSteps := 1000000) (implicitDefEqProofs := false) (disch := omega) only [stp, if_true, if_false, Int.reduceEq, Int.reduceLT, Int.reduceLE, Int.reduceGT, Int.reduceGE, reduceCtorEq, Nat.reduceEqDiff, List.getElem?_cons_zero, List.getElem?_cons_succ, Option.map_some, wrap_i64, hc]
      exact ⟨rfl, i, j, ks, ⟨c1, c2, c3, c4⟩, hks, rfl, (.cons rfl (.cons rfl (.cons rfl (.cons rfl (.cons rfl .nil)))))⟩
  clear hks
  rintro e f G ⟨rfl, i, j, ks, ⟨c1, c2, c3, c4⟩, hks, rfl, hf⟩
  have g12 := hf 11 _ rfl
  have g13 := hf 12 _ rfl
  have g0 := hf 0 _ rfl
  have g1 := hf 1 _ rfl
  have g4 := hf 4 _ rfl
  by_cases hgt : i > j
  · simp (maxSteps := 1000000) (implicitDefEqProofs := false) only [stp, if_true, if_false, Int.reduceEq, Int.reduceLT, Int.reduceLE, Int.reduceGT, Int.reduceGE, reduceCtorEq, Nat.reduceEqDiff, List.getElem?_cons_zero, List.getElem?_cons_succ, Option.map_some, g12, g13, g0, g1, g4, hgt]
    exact ⟨_, rfl, by omega, Left.mk hw hks⟩
  simp (maxSteps := 1000000) (implicitDefEqProofs := false) (disch := (try simp only [List.length_set]); omega) only [stp, if_true, if_false, Int.reduceEq, Int.reduceLT, Int.reduceLE, Int.reduceGT, Int.reduceGE, reduceCtorEq, Nat.reduceEqDiff, List.getElem?_cons_zero, List.getElem?_cons_succ, Option.map_some, wrap_i64, g12, g13, g0, g1, g4, hgt, w_ia, w_lda hid, w_st hid]
  exact ⟨(j - 1 - (i + 1) + 2).toNat, by omega, i + 1, j - 1, _, rfl, ⟨by omega, by omega, by omega, by omega⟩, by simp [hks], rfl, (.cons rfl (.cons rfl (.cons g0 (.cons g1 (.cons g4 .nil)))))⟩

end Go.Proofs.YtbadbkdpnbacnaaDoor.Fw

