/- HistoryBrackets: what is pushed in a bracket is one group; a bracket with nothing is none, and leaves what can be done again; undo and redo are refused within; on the one condition that the arguments hold together at most 2^20 data, as the statement's own bound says. -/
import Derived.Test.YtkmaikggdbielaaGreatDoorBracketsM4

/- Compose: a reader is cut. No condition. -/
namespace Go.Proofs.YtkmaikggdbielaaGreatDoor.Fw
open Go
set_option linter.unusedSimpArgs false
set_option linter.unusedVariables false

theorem x_mnN (a b : Nat) (H : Heap) : exec .mn [.int .i64 (a : Nat), .int .i64 (b : Nat)] H = some (.int .i64 ((min a b : Nat) : Int), H) := by
  have : (if (b : Int) < (a : Int) then (b : Int) else (a : Int)) = ((min a b : Nat) : Int) := by split <;> omega
  simp only [exec, mnI]
  rw [this]
  rfl
/-- A copy of an element in a row: written again later. -/
theorem x_box5 {H : Heap} (hw : WF H) {e : List V} (hn : e.length = 5) (ho : e.all V.one = true) :
    ∃ H1 H2, exec (.alloc zo) [] H = some (.ptr H.next 0, H1) ∧ exec (.st 5) [.ptr H.next 0, .agg e] H1 = some (.undef, H2) ∧ Ext H H2 ∧ WF H2 ∧ H2.next = H.next + 1 ∧ H2.get H.next = some (.row false 5 e) := by
  have a1 : exec (.alloc zo) [] H = some (.ptr H.next 0, H.new (.row false 5 zo)) := x_alloc H zo rfl
  have x1 : Ext H (H.new (.row false 5 zo)) := (Ext.refl H).new _
  have w1 : WF (H.new (.row false 5 zo)) := hw.new _
  have g1 := new_get H (.row false 5 zo)
  have n1 : (H.new (.row false 5 zo)).next = H.next + 1 := rfl
  generalize H.new (.row false 5 zo) = H1 at *
  exact ⟨H1, H1.set H.next (.row false 5 e), a1, x_st g1 hn rfl ho, x1.set (Nat.le_refl _) _, w1.set g1 _, n1, set_get' _ _ _⟩
theorem row5 {H : Heap} {id : Nat} {e : List V} (hl : id < H.next) (hg : H.get id = some (.row false 5 e)) (hn : e.length = 5) : At H id 0 e :=
  ⟨hl, false, 5, e, hg, by omega, fun j v hj => by rw [Nat.zero_add]; exact hj⟩
theorem st_row5 {G : Heap} (hw : WF G) {p : Nat} {e e' : List V} (hg : G.get p = some (.row false 5 e)) (hn : e.length = 5) (hn' : e'.length = 5) (ho : e'.all V.one = true) :
    ∃ G', exec (.st 5) [.ptr p 0, .agg e'] G = some (.undef, G') ∧ WF G' ∧ G'.get p = some (.row false 5 e') ∧ G'.next = G.next ∧ G'.gn = G.gn ∧ ∀ j, j ≠ p → G'.get j = G.get j :=
  ⟨G.set p (.row false 5 e'), x_st hg hn' hn ho, hw.set hg _, set_get' _ _ _, rfl, rfl, fun j hj => by rw [Heap.set_get, if_neg hj]⟩

set_option maxRecDepth 40000 in
set_option maxHeartbeats 4000000 in
theorem take_calls {H0 G : Heap} {p : Nat} {r : RdC} (h : RdP H0 G p r) (x : Ext H0 G) (ok : r.Ok) {n : Nat} (hn : n ≤ 536870912) :
    SCalls PP 79 [.ptr p 0, .int .i64 (n : Nat)] G fun v H' => WF H' ∧ ExtM (fun j => j = p) G H' ∧ RdP H0 H' p (r.take n) ∧ ∃ o : OpA, v = .agg o.cells ∧ o.In H0 ∧ o.con = r.op n ∧ o.cells.all V.one = true ∧ o.Cut H0 := by
  refine SCalls.go c79 (by simp [fn79]) fun hw => ?_
  -- the result's box
  obtain ⟨hpl, hrow⟩ : p < G.next ∧ ∃ c, G.get p = some (.row false 2 c) := by
    obtain ⟨xv, os, h1, _, h2, _⟩ := h
    exact ⟨h1, _, h2⟩
  have a1 : exec (.alloc zo) [] G = some (.ptr G.next 0, G.new (.row false 5 zo)) := x_alloc G zo rfl
  have x1 : Ext G (G.new (.row false 5 zo)) := (Ext.refl G).new _
  have w1 : WF (G.new (.row false 5 zo)) := hw.new _
  have g1 := new_get G (.row false 5 zo)
  have n1 : (G.new (.row false 5 zo)).next = G.next + 1 := rfl
  generalize G.new (.row false 5 zo) = G1 at *
  have hr1 : RdP H0 G1 p r := h.keep x1.next (x1.get p hpl)
  have e01 := x.trans x1
  simp (maxSteps := 1000000) (implicitDefEqProofs := false) only [stp, if_true, if_false, Int.reduceEq, Int.reduceLT, Int.reduceLE, Int.reduceGT, Int.reduceGE, reduceCtorEq, Nat.reduceEqDiff, List.getElem?_cons_zero, List.getElem?_cons_succ, Option.map_some, fn79, enterFr, List.length, List.range, List.range.loop, List.zip, List.zipWith, a1]
  refine SCalls.mono (over_calls hr1 e01) ?_
  rintro _ G1 ⟨rfl, rfl⟩
  by_cases e : r.xs = []
  · have hb : exec (.build [.int .u8 0, .int .i64 0, .nils, .nils, .nils] [(0, 1), (1, 1)]) [.int .u8 1, .int .i64 (n : Nat)] G1 = some (.agg [.int .u8 1, .int .i64 (n : Nat), .nils, .nils, .nils], G1) := rfl
    obtain ⟨G2, s2, w2, g2, n2, gn2, k2⟩ := st_row5 w1 (p := G.next) (e := zo) (e' := [.int .u8 1, .int .i64 (n : Nat), .nils, .nils, .nils]) g1 rfl rfl rfl
    have hca := (row5 (by omega) g2 rfl).cells (n := 5) rfl
    simp (maxSteps := 1000000) (implicitDefEqProofs := false) only [stp, if_true, if_false, Int.reduceEq, Int.reduceLT, Int.reduceLE, Int.reduceGT, Int.reduceGE, reduceCtorEq, Nat.reduceEqDiff, List.getElem?_cons_zero, List.getElem?_cons_succ, Option.map_some, e, hb, s2, hca]
    have nl : ∀ sz, SL H0 .nils sz [] := fun sz => ⟨by simp, .inl ⟨rfl, rfl⟩⟩
    refine ⟨w2, ⟨gn2.trans x1.gn, by omega, fun j hj hm => by rw [k2 j (by omega), x1.get j hj]⟩, ?_, ⟨1, n, .nils, .nils, .nils, [], [], []⟩, by trivial, ⟨nl 1, nl 5, nl 6, by simp [big], by simp [big], by simp [big], by simp, by simp, by simp only; omega, by simp only; omega⟩, by simp [RdC.op, e, OpA.con], rfl, CutOk.nils _ _, CutOk.nils _ _, CutOk.nils _ _⟩
    have : r.take n = r := by simp [RdC.take, e]
    rw [this]
    exact hr1.keep (by omega) (k2 p (by omega))
  obtain ⟨xv, os, h1, hp0, h2, h3, h4⟩ := hr1
  cases os with
  | nil => exact absurd (by rw [← h4]; rfl) e
  | cons o t =>
    have ec : r.xs = o.con :: t.map OpA.con := by rw [← h4]; rfl
    have hsz := ok.all o.con (by rw [ec]; simp)
    have hd := ok.hd _ _ ec
    have hlong : r.long = szN o.con - r.dn := by simp [RdC.long, ec]
    have hle := hsz.2.2
    have hinH := h3.ops.ins o (by simp)
    have hs := szC_eq o hinH hsz
    have hone := (h3.ops.sl.1 o.cells (by simp)).2
    have hat : At G1 p 0 [xv, .int .i64 (r.dn : Nat)] := ⟨h1, false, 2, _, h2, by simp, fun j v hj => by rw [Nat.zero_add]; exact hj⟩
    have l0 := hat.ld (j := 0) (v := xv) rfl 1
    obtain ⟨i, q, ha, ht⟩ := (h3.ops.sl.ext e01).ia (H' := G1) (i := 0) (e := o.cells) rfl .i64
    have ha' : exec (.ia 5) [xv, .int .i64 0] G1 = some (.ptr i q, G1) := ha
    have lo := ht.lda (n := 5) rfl
    obtain ⟨G2, G3, b1, b2, x3, w3, n3, g3⟩ := x_box5 w1 (e := o.cells) rfl hone
    have e03 := e01.trans x3
    have hr3 : RdP H0 G3 p r := ⟨xv, o :: t, by have := x3.next; omega, hp0, by rw [x3.get p h1]; exact h2, h3, h4⟩
    simp (maxSteps := 1000000) (implicitDefEqProofs := false) only [stp, if_true, if_false, Int.reduceEq, Int.reduceLT, Int.reduceLE, Int.reduceGT, Int.reduceGE, reduceCtorEq, Nat.reduceEqDiff, List.getElem?_cons_zero, List.getElem?_cons_succ, Option.map_some, e, l0, ha', lo, b1, b2]
    refine SCalls.mono (left_calls hr3 e03 ok.all (fun c t q => Nat.le_of_lt (ok.hd c t q)) e) ?_
    rintro _ G3 ⟨rfl, rfl⟩
    obtain ⟨m, hm⟩ : ∃ m, m = min n r.long := ⟨_, rfl⟩
    have hmn := x_mnN n r.long G3
    rw [← hm] at hmn
    have hm1 : r.dn + m ≤ szN o.con := by omega
    have hat3 : At G3 G1.next 0 o.cells := row5 (by omega) g3 rfl
    have lk := hat3.ld (j := 0) (v := .int .u8 o.kind) rfl 1
    have hp3 : G3.get p = some (.row false 2 [xv, .int .i64 (r.dn : Nat)]) := by rw [x3.get p h1]; exact h2
    have hatp : At G3 p 0 [xv, .int .i64 (r.dn : Nat)] := ⟨by omega, false, 2, _, hp3, by simp, fun j v hj => by rw [Nat.zero_add]; exact hj⟩
    have ldn := hatp.ld (j := 1) (v := .int .i64 (r.dn : Nat)) rfl 1
    have hadd : IntKind.i64.wrap (((r.dn : Nat) : Int) + (m : Nat)) = ((r.dn + m : Nat) : Int) := by rw [wrap_i64 (by omega) (by omega)]; omega
    -- the op that is cut off
    have key : ∃ o' : OpA, o'.In H0 ∧ o'.con = r.op n ∧ o'.cells.all V.one = true ∧ o'.Cut H0 ∧ ∃ G4, WF G4 ∧ G4.get G1.next = some (.row false 5 o'.cells) ∧ G4.next = G3.next ∧ G4.gn = G3.gn ∧ (∀ j, j ≠ G1.next → G4.get j = G3.get j) ∧
        ((o.kind = 2 ∧ ∃ a, exec (.slc 1 true true false) [o.runes, .int .i64 (r.dn : Nat), .int .i64 ((r.dn + m : Nat) : Int)] G3 = some (a, G3) ∧ exec (.st 1) [.ptr G1.next (0 + 2), a] G3 = some (.undef, G4)) ∨ (o.kind ≠ 2 ∧ exec (.st 1) [.ptr G1.next (0 + 1), .int .i64 (m : Nat)] G3 = some (.undef, G4))) := by
      have hcut : r.op n = cutC o.con r.dn m := by simp [RdC.op, ec, hm, hlong]
      by_cases hk : o.kind = 2
      · have hszr : szN o.con = o.rs.length := by simp [szN, OpA.con, hk]
        obtain ⟨a, q1, q2, q3⟩ := hinH.runes.sub (h3.cuts o (by simp)).1 (l := r.dn) (m := r.dn + m) (by omega) (by rw [List.length_map]; omega)
        have ha1 : a.one = true ∧ a.cells = [a] := by
          obtain ⟨_, ⟨rfl, _⟩ | ⟨id, off, cap, rfl, _⟩⟩ := q2 <;> exact ⟨rfl, rfl⟩
        obtain ⟨G4, s4, w4, g4, n4, gn4, k4⟩ := st_row w3 (k := 0 + 2) (v := a) g3 (by simp [OpA.cells]) ha1.2 ha1.1 rfl
        rw [← List.map_drop, ← List.map_take, Nat.add_sub_cancel_left] at q2
        refine ⟨⟨o.kind, o.n, a, o.set, o.patch, (o.rs.drop r.dn).take m, o.ats, o.chs⟩, ⟨q2, hinH.set, hinH.patch, ?_, hinH.al, hinH.cl, hinH.sa, hinH.sc, hinH.nlo, hinH.nhi⟩, ?_, ?_, ⟨q3, (h3.cuts o (by simp)).2⟩, G4, w4, g4, n4, gn4, k4, .inl ⟨hk, a, q1 G3 ((h3.cuts o (by simp)).1.ext e03), s4⟩⟩
        · have := hinH.rl
          simp only [List.length_take, List.length_drop]
          omega
        · rw [hcut]
          simp [cutC, OpA.con, hk]
        · have h5 := hone
          simp only [OpA.cells, List.all_cons, List.all_nil, Bool.and_true, Bool.and_eq_true] at h5 ⊢
          exact ⟨h5.1, h5.2.1, ha1.1, h5.2.2.2⟩
      · obtain ⟨G4, s4, w4, g4, n4, gn4, k4⟩ := st_row w3 (k := 0 + 1) (v := .int .i64 (m : Nat)) g3 (by simp [OpA.cells]) rfl rfl rfl
        refine ⟨⟨o.kind, m, o.runes, o.set, o.patch, o.rs, o.ats, o.chs⟩, ⟨hinH.runes, hinH.set, hinH.patch, hinH.rl, hinH.al, hinH.cl, hinH.sa, hinH.sc, by simp only; omega, by simp only; omega⟩, ?_, ?_, h3.cuts o (by simp), G4, w4, g4, n4, gn4, k4, .inr ⟨hk, s4⟩⟩
        · rw [hcut]
          simp [cutC, OpA.con, hk]
        · have h5 := hone
          simp only [OpA.cells, List.all_cons, List.all_nil, Bool.and_true, Bool.and_eq_true] at h5 ⊢
          exact ⟨h5.1, rfl, h5.2.2⟩
    obtain ⟨o', ho', hc', hone', hcut', G4, w4, g4, n4, gn4, k4, hcase⟩ := key
    have hp4 : G4.get p = some (.row false 2 [xv, .int .i64 (r.dn : Nat)]) := by rw [k4 p (by omega)]; exact hp3
    have hatp4 : At G4 p 0 [xv, .int .i64 (r.dn : Nat)] := ⟨by omega, false, 2, _, hp4, by simp, fun j v hj => by rw [Nat.zero_add]; exact hj⟩
    have ldn4 := hatp4.ld (j := 1) (v := .int .i64 (r.dn : Nat)) rfl 1
    obtain ⟨G5, s5, w5, g5, n5, gn5, k5⟩ := st_row w4 (k := 0 + 1) (v := .int .i64 ((r.dn + m : Nat) : Int)) (c' := [xv, .int .i64 ((r.dn + m : Nat) : Int)]) hp4 (by simp) rfl rfl rfl
    have x13 := x1.trans x3
    have hn0 := x.next
    have e05 : Ext H0 G5 := ⟨by rw [gn5, gn4]; exact e03.gn, by have := e03.next; omega, fun j hj => by rw [k5 j (by omega), k4 j (by omega), e03.get j hj]⟩
    have hr5 : RdP H0 G5 p ⟨r.xs, r.dn + m⟩ := ⟨xv, o :: t, by omega, hp0, g5, h3, h4⟩
    have hx13 : ∀ j, j < G.next → G3.get j = G.get j := fun j hj => x13.get j hj
    have hlda : ∀ F, F.next = G5.next → (∀ j, j ≠ p → F.get j = G5.get j) → exec (.lda 5) [.ptr G1.next 0] F = some (.agg o'.cells, F) := fun F h1 h2 => (row5 (by omega) (by rw [h2 _ (by omega), k5 _ (by omega)]; exact g4) rfl).lda (n := 5) rfl
    have fin : ∀ F, WF F → F.next = G5.next → F.gn = G5.gn → (∀ j, j ≠ p → F.get j = G5.get j) → RdP H0 F p (r.take n) → ∃ F', exec (.st 5) [.ptr G.next 0, .agg o'.cells] F = some (.undef, F') ∧ cellsAt F' 5 (some (.ptr G.next 0)) = some (.agg o'.cells) ∧ WF F' ∧ ExtM (fun j => j = p) G F' ∧ RdP H0 F' p (r.take n) := by
      intro F hwF hnF hgF hkF hrF
      obtain ⟨F', s, w, g, n', gn', k'⟩ := st_row5 hwF (p := G.next) (e := zo) (e' := o'.cells) (by rw [hkF _ (by omega), k5 _ (by omega), k4 _ (by omega), x3.get _ (by omega)]; exact g1) rfl rfl hone'
      exact ⟨F', s, (row5 (by omega) g rfl).cells rfl, w, ⟨by rw [gn', hgF, gn5, gn4]; exact x13.gn, by omega, fun j hj hm => by rw [k' j (by omega), hkF j hm, k5 j hm, k4 j (by omega), hx13 j hj]⟩, hrF.keep (by omega) (k' p (by omega))⟩
    have hlo := (row5 (by omega) (by rw [k5 _ (by omega)]; exact g4) rfl : At G5 G1.next 0 o'.cells).lda (n := 5) rfl
    have hleft := left_calls hr5 e05 ok.all (fun c t' q => by rw [ec] at q; cases q; omega) e
    have hlv : RdC.long ⟨r.xs, r.dn + m⟩ = szN o.con - (r.dn + m) := by simp [RdC.long, ec]
    rw [hlv] at hleft
    have htake : r.take n = if r.dn + m = szN o.con then ⟨t.map OpA.con, 0⟩ else ⟨r.xs, r.dn + m⟩ := by
      have : min n (szN o.con - r.dn) = m := by rw [hm, hlong]
      simp only [RdC.take, ec, this]
    rcases hcase with ⟨hk, a, sl, st⟩ | ⟨hk, st⟩
    all_goals
      first
      | simp (maxSteps := 1000000) (implicitDefEqProofs := false) only [stp, if_true, if_false, Int.reduceEq, Int.reduceLT, Int.reduceLE, Int.reduceGT, Int.reduceGE, reduceCtorEq, Nat.reduceEqDiff, List.getElem?_cons_zero, List.getElem?_cons_succ, Option.map_some, hmn, lk, hk, ldn, hadd, ldn4, sl, st, s5, (hat3.ld (j := 2) (v := o.runes) rfl 1)]
      | simp (maxSteps := 1000000) (implicitDefEqProofs := false) only [stp, if_true, if_false, Int.reduceEq, Int.reduceLT, Int.reduceLE, Int.reduceGT, Int.reduceGE, reduceCtorEq, Nat.reduceEqDiff, List.getElem?_cons_zero, List.getElem?_cons_succ, Option.map_some, hmn, lk, hk, ldn, hadd, ldn4, st, s5]
      refine SCalls.mono hleft ?_
      rintro _ G5 ⟨rfl, rfl⟩
      by_cases hz : r.dn + m = szN o.con
      · have hz0 : ((szN o.con - (r.dn + m) : Nat) : Int) = 0 := by omega
        have hat5 : At G5 p 0 [xv, .int .i64 ((r.dn + m : Nat) : Int)] := ⟨by omega, false, 2, _, g5, by simp, fun j v hj => by rw [Nat.zero_add]; exact hj⟩
        have ldx := hat5.ld (j := 0) (v := xv) rfl 1
        obtain ⟨a', q1, q2, q3⟩ := h3.ops.sl.tail h3.cut (l := 1) (by simp)
        have q1' : exec (.slc 5 true false false) [xv, .int .i64 1] G5 = some (a', G5) := q1 G5 (h3.cut.ext e05)
        have ha1 : a'.one = true ∧ a'.cells = [a'] := by
          obtain ⟨_, ⟨rfl, _⟩ | ⟨id, off, cap, rfl, _⟩⟩ := q2 <;> exact ⟨rfl, rfl⟩
        obtain ⟨G6, s6, w6, g6, n6, gn6, k6⟩ := st_row w5 (k := 0 + 0) (v := a') (c' := [a', .int .i64 ((r.dn + m : Nat) : Int)]) g5 (by simp) ha1.2 ha1.1 rfl
        obtain ⟨G7, s7, w7, g7, n7, gn7, k7⟩ := st_row w6 (k := 0 + 1) (v := .int .i64 0) (c' := [a', .int .i64 0]) g6 (by simp) rfl rfl rfl
        rw [if_pos hz] at htake
        obtain ⟨F', f1, f2, f3, f4, f5⟩ := fin G7 w7 (by omega) (by rw [gn7, gn6]) (fun j hj => by rw [k7 j hj, k6 j hj]) (by
          rw [htake]
          exact ⟨a', t, by omega, hp0, g7, ⟨⟨by simpa using q2, fun o ho => h3.ops.ins o (List.mem_cons_of_mem _ ho), by have := h3.ops.len; simp only [List.length_cons] at this; omega⟩, q3, fun o ho => h3.cuts o (List.mem_cons_of_mem _ ho)⟩, rfl⟩)
        have hl7 := hlda G7 (by omega) (fun j hj => by rw [k7 j hj, k6 j hj])
        simp (maxSteps := 1000000) (implicitDefEqProofs := false) only [stp, if_true, if_false, Int.reduceEq, Int.reduceLT, Int.reduceLE, Int.reduceGT, Int.reduceGE, reduceCtorEq, Nat.reduceEqDiff, List.getElem?_cons_zero, List.getElem?_cons_succ, Option.map_some, hz0, ldx, q1', s6, s7, hl7, f1, f2]
        exact ⟨f3, f4, f5, o', by trivial, ho', hc', hone', hcut'⟩
      · have hz0 : ¬ ((szN o.con - (r.dn + m) : Nat) : Int) = 0 := by omega
        rw [if_neg hz] at htake
        obtain ⟨F', f1, f2, f3, f4, f5⟩ := fin G5 w5 rfl rfl (fun _ _ => rfl) (by rw [htake]; exact hr5)
        simp (maxSteps := 1000000) (implicitDefEqProofs := false) only [stp, if_true, if_false, Int.reduceEq, Int.reduceLT, Int.reduceLE, Int.reduceGT, Int.reduceGE, reduceCtorEq, Nat.reduceEqDiff, List.getElem?_cons_zero, List.getElem?_cons_succ, Option.map_some, hz0, hlo, f1, f2]
        exact ⟨f3, f4, f5, o', by trivial, ho', hc', hone', hcut'⟩
end Go.Proofs.YtkmaikggdbielaaGreatDoor.Fw

/- Compose: the maker grows, is left alone, deletes, is told. No condition. -/
namespace Go.Proofs.YtkmaikggdbielaaGreatDoor.Fw
open Go
set_option linter.unusedSimpArgs false
set_option linter.unusedVariables false

theorem InsZ.step {M M' : Nat → Prop} {H H' : Heap} {ics : List (List V)} {ins : List OpC} {rk : Option Nat} (h : InsZ M H ics ins rk) (x : ExtM M H H') (g : MGrow M M' H) (hr : ∀ j, rk = some j → H'.get j = H.get j ∧ M' j) : InsZ M' H' ics ins rk := by
  rcases h with q | ⟨ei, el, ci, cl, r, e1, e2, e3, ha, hz⟩
  · exact .inl q
  · exact .inr ⟨ei, el, ci, cl, r, e1, e2, e3, All2.imp (fun a b z => z.step x g) ha, hz.step x g (hr r e3).1 (hr r e3).2⟩
theorem InsZ.own {M : Nat → Prop} {H : Heap} {ics : List (List V)} {ins : List OpC} {rk : Option Nat} (h : InsZ M H ics ins rk) {j : Nat} (e : rk = some j) : M j ∧ j < H.next := by
  rcases h with ⟨_, _, q⟩ | ⟨ei, el, ci, cl, r, e1, e2, e3, ha, hz⟩
  · rw [q] at e; cases e
  · rw [e3] at e; cases e; exact ⟨hz.mr, hz.own.lt⟩
/-- The maker where other rows change. -/
theorem MkI.move {H H' : Heap} {M N M' N' : Nat → Prop} {p : Nat} {m : MkC} (h : MkI H M N p m) (x : ExtM N H H') (hM : ∀ j, M j → M' j) (hG : MGrow M M' H) (hb : ∀ j, M' j → j < H'.next) (hN : ∀ j, N' j → M' j ∧ (N j ∨ H.next ≤ j)) : MkI H' M' N' p m := by
  obtain ⟨dv, iv, dcs, ics, dk, ik, rk, h⟩ := h
  have xM : ExtM M H H' := ⟨x.gn, x.next, fun j hj hm => x.get j hj fun e => hm (h.nn j e).1⟩
  have hdl : ∀ j, dk = some j → j < H.next := fun j e => by have := h.dvec; rw [e] at this; exact this.lt
  have hil : ∀ j, ik = some j → j < H.next := fun j e => by have := h.ivec; rw [e] at this; exact this.lt
  have hxn := x.next
  have hpl := h.lt
  refine ⟨dv, iv, dcs, ics, dk, ik, rk, by omega, hM _ h.mp, hb, by rw [x.get p h.lt fun e => (h.nn p e).2.1 rfl]; exact h.at', h.dvec.keep hxn (fun j e => x.get j (hdl j e) fun k => (h.nn j k).2.2.1 e) (fun e s => ?_), h.ivec.keep hxn (fun j e => x.get j (hil j e) fun k => (h.nn j k).2.2.2.1 e) (fun e s => ?_), fun j e => ⟨hM j (h.md j e).1, (h.md j e).2⟩, fun j e => ⟨hM j (h.mi j e).1, (h.mi j e).2⟩, h.di, h.mr, All2.imp (fun a b q => q.step xM hG) h.done, h.ins.step xM hG fun j e => ⟨x.get j (h.ins.own e).2 fun k => (h.nn j k).2.2.2.2 e, hM j (h.ins.own e).1⟩, h.dn, h.inn, fun j e => ?_⟩
  · rw [h.dn e] at s ⊢; exact s.empty hxn
  · rw [h.inn e] at s ⊢; exact s.empty hxn
  · obtain ⟨a, b | b⟩ := hN j e
    · exact ⟨a, (h.nn j b).2⟩
    · exact ⟨a, by omega, fun q => by have := hdl j q; omega, fun q => by have := hil j q; omega, fun q => by have := (h.ins.own q).2; omega⟩
theorem MkI.mb {H : Heap} {M N : Nat → Prop} {p : Nat} {m : MkC} (h : MkI H M N p m) {j : Nat} (e : M j) : j < H.next := by
  obtain ⟨dv, iv, dcs, ics, dk, ik, rk, h⟩ := h
  exact h.mb j e
theorem MkI.nM {H : Heap} {M N : Nat → Prop} {p : Nat} {m : MkC} (h : MkI H M N p m) {j : Nat} (e : N j) : M j ∧ j ≠ p := by
  obtain ⟨dv, iv, dcs, ics, dk, ik, rk, h⟩ := h
  exact ⟨(h.nn j e).1, (h.nn j e).2.1⟩
theorem MkI.poke {H H' : Heap} {M N : Nat → Prop} {p : Nat} {m : MkC} (h : MkI H M N p m) (x : ExtM N H H') : MkI H' M N p m :=
  h.move x (fun _ e => e) (MGrow.refl M H) (fun j e => Nat.lt_of_lt_of_le (h.mb e) x.next) fun j e => ⟨(h.nM e).1, .inl e⟩
theorem MkI.grow {H H' : Heap} {M N : Nat → Prop} {p : Nat} {m : MkC} (h : MkI H M N p m) (x : Ext H H') : MkI H' M N p m := h.poke (x.toM N)
/-- The maker after a call. -/
def MkS (H : Heap) (M N : Nat → Prop) (p : Nat) (H' : Heap) (m' : MkC) : Prop := ∃ M', MkI H' M' N p m' ∧ ExtM (fun j => M j ∧ ¬ N j) H H' ∧ MGrow M M' H ∧ WF H'
theorem MkS.before {H H1 H2 : Heap} {M N : Nat → Prop} {p : Nat} {m' : MkC} (x : Ext H H1) (a : MkS H1 M N p H2 m') : MkS H M N p H2 m' := by
  obtain ⟨M1, q1, e1, g1, w⟩ := a
  exact ⟨M1, q1, (x.toM _).trans e1, fun j e => (g1 j e).imp id fun k => Nat.le_trans x.next k, w⟩
theorem MkS.then {H H1 H2 : Heap} {M N : Nat → Prop} {p : Nat} {m1 m2 : MkC} (a : MkS H M N p H1 m1) (b : ∀ M', MkI H1 M' N p m1 → MGrow M M' H → WF H1 → MkS H1 M' N p H2 m2) : MkS H M N p H2 m2 := by
  obtain ⟨M1, q1, e1, g1, w1⟩ := a
  obtain ⟨M2, q2, e2, g2, w2⟩ := b M1 q1 g1 w1
  exact ⟨M2, q2, e1.stepN g1 e2, g1.trans g2 e1.next, w2⟩
theorem MkS.ofExt {H H' : Heap} {M N : Nat → Prop} {p : Nat} {m : MkC} (h : MkI H M N p m) (x : Ext H H') (w : WF H') : MkS H M N p H' m := ⟨M, h.grow x, x.toM _, MGrow.refl M H, w⟩

def MkC.del (m : MkC) (n : Int) : MkC := ⟨m.done, m.ins, m.gone + n⟩
set_option maxRecDepth 20000 in
theorem delete_calls {H : Heap} {M N : Nat → Prop} {p : Nat} {m : MkC} (h : MkI H M N p m) {n : Int} (hn : 0 ≤ n) (hg : 0 ≤ m.gone) (hb : m.gone + n ≤ 4611686018427387904) :
    SCalls PP 103 [.ptr p 0, .int .i64 n] H fun _ H' => MkS H M N p H' (m.del n) := by
  refine SCalls.go c103 (by simp [fn103]) fun hw => ?_
  have hI := h
  obtain ⟨dv, iv, dcs, ics, dk, ik, rk, h⟩ := h
  have hnp : exec (.eqnil 0 true) [.ptr p 0, .nilp] H = some (.bool true, H) := rfl
  have l2 := h.at3.ld (j := 2) (v := .int .i64 m.gone) rfl 1
  have hmx : exec .mx [.int .i64 n, .int .i64 0] H = some (.int .i64 n, H) := by
    have : (if (0 : Int) > n then (0 : Int) else n) = n := if_neg (by omega)
    simp only [exec, mxI]
    rw [this]
    rfl
  have hw1 : IntKind.i64.wrap (m.gone + n) = m.gone + n := wrap_i64 (by omega) (by omega)
  obtain ⟨G, st, w, g, hn', gn, k⟩ := st_row hw (k := 0 + 2) (v := .int .i64 (m.gone + n)) h.at' (by simp) rfl rfl rfl
  simp (maxSteps := 1000000) (implicitDefEqProofs := false) only [stp, if_true, if_false, Int.reduceEq, Int.reduceLT, Int.reduceLE, Int.reduceGT, Int.reduceGE, reduceCtorEq, Nat.reduceEqDiff, List.getElem?_cons_zero, List.getElem?_cons_succ, Option.map_some, fn103, enterFr, List.length, List.range, List.range.loop, List.zip, List.zipWith, hnp, l2, hmx, hw1, st]
  have hM : ExtM M H G := ⟨gn, by omega, fun j hj hm => k j fun e => hm (by rw [e]; exact h.mp)⟩
  refine ⟨M, ⟨dv, iv, dcs, ics, dk, ik, rk, by have := h.lt; omega, h.mp, fun j e => by have := h.mb j e; omega, g, h.dvec.keep (by omega) (fun j e => k j (h.md j e).2) (fun e s => ?_), h.ivec.keep (by omega) (fun j e => k j (h.mi j e).2) (fun e s => ?_), h.md, h.mi, h.di, h.mr, All2.imp (fun a b q => q.step hM (MGrow.refl M H)) h.done, h.ins.step hM (MGrow.refl M H) fun j e => ⟨k j (h.mr j e).1, (h.ins.own e).1⟩, h.dn, h.inn, h.nn⟩, hM.minus fun j hj e => k j (h.nn j e).2.1, MGrow.refl M H, w⟩
  · rw [h.dn e] at s ⊢; exact s.empty (by omega)
  · rw [h.inn e] at s ⊢; exact s.empty (by omega)

/-- What a maker is told. -/
def tellC (m : MkC) (c : OpC) : MkC := if c.kind = 1 then m.retain c.n c.chs else if c.kind = 2 then m.insert c.rs c.ats else m.del c.n
/-- A maker that is not too great for an op more. -/
structure MkC.Fit (m : MkC) (k : Nat) : Prop where
  len : m.done.length + m.ins.length + 3 ≤ big
  rs : ∀ c ∈ m.ins, c.rs.length + k ≤ big
  lo : 0 ≤ m.gone
  hi : m.gone ≤ 2305843009213693952
set_option maxRecDepth 20000 in
set_option maxHeartbeats 1000000 in
theorem tell_calls {H0 H : Heap} {M N : Nat → Prop} {p : Nat} {m : MkC} (h : MkI H M N p m) (x : Ext H0 H) (hlo : ∀ j, M j → H0.next ≤ j) {o : OpA} (ho : o.In H0) (hone : o.cells.all V.one = true) (hf : m.Fit o.rs.length) (hn : o.kind ≠ 2 → 0 ≤ o.n) (hn2 : o.n ≤ 536870912) :
    SCalls PP 78 [.ptr p 0, .agg o.cells] H fun _ H' => MkS H M N p H' (tellC m o.con) := by
  refine SCalls.go c78 (by simp [fn78]) fun hw => ?_
  obtain ⟨G, hx, hwG, ha, hb⟩ := x_boxed (Ext.refl H) hw (e := o.cells) hone
  have hG := h.grow hx
  have xG := x.trans hx
  have l0 := ha.ld (j := 0) (v := .int .u8 o.kind) rfl 1
  have l1 := ha.ld (j := 1) (v := .int .i64 o.n) rfl 1
  have l2 := ha.ld (j := 2) (v := o.runes) rfl 1
  have l3 := ha.ld (j := 3) (v := o.set) rfl 1
  have l4 := ha.ld (j := 4) (v := o.patch) rfl 1
  have hin := ho.ext xG
  by_cases h1 : o.kind = 1
  · have e : tellC m o.con = m.retain o.n o.chs := by simp [tellC, OpA.con, h1]
    have hn0 := hn (by omega)
    rw [e]
    simp (maxSteps := 1000000) (implicitDefEqProofs := false) only [stp, if_true, if_false, Int.reduceEq, Int.reduceLT, Int.reduceLE, Int.reduceGT, Int.reduceGE, reduceCtorEq, Nat.reduceEqDiff, List.getElem?_cons_zero, List.getElem?_cons_succ, Option.map_some, fn78, enterFr, List.length, List.range, List.range.loop, List.zip, List.zipWith, hb, l0, h1, l1, l4]
    refine SCalls.mono (retain_calls hG (pv := o.patch) (ps := o.chs) (n := o.n) (fun F hF => ho.patch.ext ⟨hF.gn.trans xG.gn, Nat.le_trans xG.next hF.next, fun j hj => by rw [hF.get j (Nat.lt_of_lt_of_le hj xG.next) fun e => by have := hlo j e; omega, xG.get j hj]⟩) ⟨by simp, by simp, ho.cl, by simp, ho.sc, by simp only; omega, by simp only; omega⟩ hf.len (by have := hf.hi; omega)) ?_
    rintro v F ⟨M', q1, q2, q3, q4⟩
    simp (maxSteps := 1000000) (implicitDefEqProofs := false) only [stp, if_true, if_false, Int.reduceEq, Int.reduceLT, Int.reduceLE, Int.reduceGT, Int.reduceGE, reduceCtorEq, Nat.reduceEqDiff, List.getElem?_cons_zero, List.getElem?_cons_succ, Option.map_some, if_true]
    exact MkS.before hx ⟨M', q1, q2, q3, q4⟩
  by_cases h2 : o.kind = 2
  · have e : tellC m o.con = m.insert o.rs o.ats := by simp [tellC, OpA.con, h2]
    rw [e]
    simp (maxSteps := 1000000) (implicitDefEqProofs := false) only [stp, if_true, if_false, Int.reduceEq, Int.reduceLT, Int.reduceLE, Int.reduceGT, Int.reduceGE, reduceCtorEq, Nat.reduceEqDiff, List.getElem?_cons_zero, List.getElem?_cons_succ, Option.map_some, fn78, enterFr, List.length, List.range, List.range.loop, List.zip, List.zipWith, hb, l0, h1, h2, l2, l3]
    refine SCalls.mono (insert_calls hG hin.runes hin.set hin.rl hin.al hin.sa (by have := hf.len; omega) hf.rs) ?_
    rintro v F ⟨M', q1, q2, q3, q4⟩
    simp (maxSteps := 1000000) (implicitDefEqProofs := false) only [stp, if_true, if_false, Int.reduceEq, Int.reduceLT, Int.reduceLE, Int.reduceGT, Int.reduceGE, reduceCtorEq, Nat.reduceEqDiff, List.getElem?_cons_zero, List.getElem?_cons_succ, Option.map_some, if_true]
    exact MkS.before hx ⟨M', q1, q2, q3, q4⟩
  · have e : tellC m o.con = m.del o.n := by simp [tellC, OpA.con, h1, h2]
    rw [e]
    simp (maxSteps := 1000000) (implicitDefEqProofs := false) only [stp, if_true, if_false, Int.reduceEq, Int.reduceLT, Int.reduceLE, Int.reduceGT, Int.reduceGE, reduceCtorEq, Nat.reduceEqDiff, List.getElem?_cons_zero, List.getElem?_cons_succ, Option.map_some, fn78, enterFr, List.length, List.range, List.range.loop, List.zip, List.zipWith, hb, l0, h1, h2, l1]
    refine SCalls.mono (delete_calls hG (hn h2) hf.lo (by have := hf.hi; omega)) ?_
    rintro v F q
    simp (maxSteps := 1000000) (implicitDefEqProofs := false) only [stp, if_true, if_false, Int.reduceEq, Int.reduceLT, Int.reduceLE, Int.reduceGT, Int.reduceGE, reduceCtorEq, Nat.reduceEqDiff, List.getElem?_cons_zero, List.getElem?_cons_succ, Option.map_some, if_true]
    exact MkS.before hx q
end Go.Proofs.YtkmaikggdbielaaGreatDoor.Fw

/- Compose: what a retain or delete does to what is made. No condition. -/
namespace Go.Proofs.YtkmaikggdbielaaGreatDoor.Fw
open Go
set_option linter.unusedSimpArgs false
set_option linter.unusedVariables false

theorem pcF_len : ∀ (qs ps : List ChgA), (pcF ps qs).length ≤ ps.length + qs.length
  | [], ps => by simp [pcF]
  | c :: q, ps => by
    have h := pcF_len q (ps.dropWhile fun a => decide (a.key ≤ c.key))
    have h2 := congrArg List.length (List.takeWhile_append_dropWhile (p := fun a : ChgA => decide (a.key ≤ c.key)) (l := ps))
    have h3 := List.length_filter_le (fun a : ChgA => decide (a.key < c.key)) (ps.takeWhile fun a => decide (a.key ≤ c.key))
    rw [List.length_append] at h2
    simp only [pcF, List.length_append, List.length_cons]
    omega
theorem pcF_mem : ∀ (qs ps : List ChgA), ∀ a ∈ pcF ps qs, a ∈ ps ∨ a ∈ qs
  | [], ps, a, h => .inl (by simpa [pcF] using h)
  | c :: q, ps, a, h => by
    simp only [pcF, List.mem_append, List.mem_cons] at h
    rcases h with h | rfl | h
    · exact .inl ((List.takeWhile_sublist _).subset (List.mem_filter.1 h).1)
    · exact .inr (by simp)
    · rcases pcF_mem q _ a h with k | k
      · exact .inl ((List.dropWhile_sublist _).subset k)
      · exact .inr (by simp [k])
theorem skipKey_sub (k : Int) (l : List AttrA) : List.Sublist (skipKey k l) l := by
  cases l with
  | nil => exact List.Sublist.refl _
  | cons a t =>
    simp only [skipKey]
    split
    · exact List.sublist_cons_self _ _
    · exact List.Sublist.refl _
theorem paF_len : ∀ (qs : List ChgA) (us : List AttrA), (paF us qs).length ≤ us.length + qs.length
  | [], us => by simp [paF]
  | c :: q, us => by
    have h := paF_len q (skipKey c.key (us.dropWhile fun a => decide (a.key < c.key)))
    have h2 := congrArg List.length (List.takeWhile_append_dropWhile (p := fun a : AttrA => decide (a.key < c.key)) (l := us))
    have h3 := (skipKey_sub c.key (us.dropWhile fun a => decide (a.key < c.key))).length_le
    have h4 : (insA c).length ≤ 1 := by unfold insA; split <;> simp
    rw [List.length_append] at h2
    simp only [paF, List.length_append, List.length_cons]
    omega
theorem paF_mem : ∀ (qs : List ChgA) (us : List AttrA), ∀ a ∈ paF us qs, a ∈ us ∨ ∃ c ∈ qs, a = ⟨c.key, c.val⟩
  | [], us, a, h => .inl (by simpa [paF] using h)
  | c :: q, us, a, h => by
    simp only [paF, List.mem_append] at h
    rcases h with h | h | h
    · exact .inl ((List.takeWhile_sublist _).subset h)
    · unfold insA at h
      split at h
      · simp at h
      · exact .inr ⟨c, by simp, by simpa using h⟩
    · rcases paF_mem q _ a h with k | ⟨d, k1, k2⟩
      · exact .inl ((List.dropWhile_sublist _).subset ((skipKey_sub _ _).subset k))
      · exact .inr ⟨d, by simp [k1], k2⟩
theorem cellA_sa {ks : List KeyA} {r : Int} {us : List AttrA} {ps : List ChgA} (h1 : ∀ a ∈ us, a.val.s.size ≤ big) (h2 : ∀ c ∈ ps, c.val.s.size ≤ big) : ∀ a ∈ cellA ks r us ps, a.val.s.size ≤ big := fun a ha => by
  rcases paF_mem _ _ a ha with k | ⟨c, k1, rfl⟩
  · exact h1 a k
  · exact h2 c (List.mem_filter.1 k1).1
theorem cellA_len (ks : List KeyA) (r : Int) (us : List AttrA) (ps : List ChgA) : (cellA ks r us ps).length ≤ us.length + ps.length :=
  Nat.le_trans (paF_len _ _) (Nat.add_le_add_left (part_len ks _ ps) _)

def bothIns (ks : List KeyA) (us : List AttrA) (ps : List ChgA) (m : MkC) (rs : List Int) : MkC := rs.foldl (fun m r => m.insert [r] (cellA ks r us ps)) m
def bothC (ks : List KeyA) (m : MkC) (u v : OpC) : MkC :=
  if u.kind = 1 then (if v.kind = 1 then m.retain v.n (pcF u.chs v.chs) else m.del v.n)
  else if v.kind = 1 then bothIns ks u.ats v.chs m u.rs else m
set_option maxRecDepth 40000 in
set_option maxHeartbeats 8000000 in
theorem both_calls {H0 H : Heap} {M N : Nat → Prop} {p : Nat} {m : MkC} {s : V} {ks : List KeyA} (h : MkI H M N p m) (x : Ext H0 H) (hlo : ∀ j, M j → H0.next ≤ j) (hs : Sch H0 s ks) {u v : OpA} (hu : u.In H0) (hv : v.In H0) (hu1 : u.cells.all V.one = true) (hv1 : v.cells.all V.one = true) (cu : u.Cut H0)
    (hl1 : u.chs.length + v.chs.length ≤ big) (hl2 : u.ats.length + v.chs.length ≤ big) (hf : m.Fit 0) (hn : 0 ≤ v.n) (hn2 : v.n ≤ 536870912) (hfit : u.kind ≠ 1 → ∀ k, k ≤ u.rs.length → (bothIns ks u.ats v.chs m (u.rs.take k)).Fit 1) :
    SCalls PP 81 [s, .ptr p 0, .agg u.cells, .agg v.cells] H fun _ H' => MkS H M N p H' (bothC ks m u.con v.con) := by
  refine SCalls.go c81 (by simp [fn81]) fun hw => ?_
  obtain ⟨G1, hx1, hw1, ha1, hb1⟩ := x_boxed (Ext.refl H) hw (e := u.cells) hu1
  obtain ⟨G2, hx2, hw2, ha2, hb2⟩ := x_boxed (Ext.refl G1) hw1 (e := v.cells) hv1
  have hx12 := hx1.trans hx2
  have hG := h.grow hx12
  have xG := x.trans hx12
  have hau := ha1.ext hx2
  have l60 := hau.ld (j := 0) (v := .int .u8 u.kind) rfl 1
  have l70 := ha2.ld (j := 0) (v := .int .u8 v.kind) rfl 1
  have l71 : ∀ F, Ext G2 F → exec (.ld 1) [.ptr G1.next (0 + 1)] F = some (.int .i64 v.n, F) := fun F e => (ha2.ext e).ld (j := 1) (v := .int .i64 v.n) rfl 1
  have l64 := hau.ld (j := 4) (v := u.patch) rfl 1
  have l74 := ha2.ld (j := 4) (v := v.patch) rfl 1
  have l710 := l71 G2 (Ext.refl _)
  by_cases h1 : u.kind = 1
  · by_cases h2 : v.kind = 1
    · have e : bothC ks m u.con v.con = m.retain v.n (pcF u.chs v.chs) := by simp [bothC, OpA.con, h1, h2]
      rw [e]
      simp (maxSteps := 1000000) (implicitDefEqProofs := false) only [stp, if_true, if_false, Int.reduceEq, Int.reduceLT, Int.reduceLE, Int.reduceGT, Int.reduceGE, reduceCtorEq, Nat.reduceEqDiff, List.getElem?_cons_zero, List.getElem?_cons_succ, Option.map_some, fn81, enterFr, List.length, List.range, List.range.loop, List.zip, List.zipWith, hb1, hb2, l60, h1, l70, h2, l64, l74, l710]
      refine ⟨?_, ?_⟩
      all_goals
        refine SCalls.mono (patchCompose_calls (hu.patch.ext xG) (cu.2.2.ext xG) (hv.patch.ext xG) hl1) ?_
        rintro q F ⟨hxF, hwF, k, hvF, hkF, hk0⟩
        have l71F := l71 F hxF
        simp (maxSteps := 1000000) (implicitDefEqProofs := false) only [stp, if_true, if_false, Int.reduceEq, Int.reduceLT, Int.reduceLE, Int.reduceGT, Int.reduceGE, reduceCtorEq, Nat.reduceEqDiff, List.getElem?_cons_zero, List.getElem?_cons_succ, Option.map_some, l71F]
        refine SCalls.mono (retain_calls (hG.grow hxF) (pv := q) (ps := pcF u.chs v.chs) (n := v.n) (hvF.fz (fun e => by rw [hk0 e]; rfl) (Nat.le_refl _) fun j e => ⟨fun e2 => by have := hG.mb e2; have := hkF j e; omega, rfl⟩) ⟨by simp, by simp, Nat.le_trans (pcF_len _ _) hl1, by simp, fun a ha => ?_, by simp only; omega, by simp only; omega⟩ hf.len (by have := hf.hi; omega)) ?_
        · rcases pcF_mem _ _ a ha with k | k
          · exact hu.sc a k
          · exact hv.sc a k
        rintro _ F2 ⟨M', q1, q2, q3, q4⟩
        simp (maxSteps := 1000000) (implicitDefEqProofs := false) only [stp, if_true, if_false, Int.reduceEq, Int.reduceLT, Int.reduceLE, Int.reduceGT, Int.reduceGE, reduceCtorEq, Nat.reduceEqDiff, List.getElem?_cons_zero, List.getElem?_cons_succ, Option.map_some, if_true]
        exact MkS.before (hx12.trans hxF) ⟨M', q1, q2, q3, q4⟩
    · have e : bothC ks m u.con v.con = m.del v.n := by simp [bothC, OpA.con, h1, h2]
      rw [e]
      simp (maxSteps := 1000000) (implicitDefEqProofs := false) only [stp, if_true, if_false, Int.reduceEq, Int.reduceLT, Int.reduceLE, Int.reduceGT, Int.reduceGE, reduceCtorEq, Nat.reduceEqDiff, List.getElem?_cons_zero, List.getElem?_cons_succ, Option.map_some, fn81, enterFr, List.length, List.range, List.range.loop, List.zip, List.zipWith, hb1, hb2, l60, h1, l70, h2, l710]
      refine SCalls.mono (delete_calls hG hn hf.lo (by have := hf.hi; omega)) ?_
      rintro _ F q
      simp (maxSteps := 1000000) (implicitDefEqProofs := false) only [stp, if_true, if_false, Int.reduceEq, Int.reduceLT, Int.reduceLE, Int.reduceGT, Int.reduceGE, reduceCtorEq, Nat.reduceEqDiff, List.getElem?_cons_zero, List.getElem?_cons_succ, Option.map_some, if_true]
      exact MkS.before hx12 q
  by_cases h2 : v.kind = 1
  rotate_left
  · have e : bothC ks m u.con v.con = m := by simp [bothC, OpA.con, h1, h2]
    rw [e]
    simp (maxSteps := 1000000) (implicitDefEqProofs := false) only [stp, if_true, if_false, Int.reduceEq, Int.reduceLT, Int.reduceLE, Int.reduceGT, Int.reduceGE, reduceCtorEq, Nat.reduceEqDiff, List.getElem?_cons_zero, List.getElem?_cons_succ, Option.map_some, fn81, enterFr, List.length, List.range, List.range.loop, List.zip, List.zipWith, hb1, hb2, l60, h1, l70, h2]
    exact MkS.ofExt h hx12 hw2
  have e : bothC ks m u.con v.con = bothIns ks u.ats v.chs m u.rs := by simp [bothC, OpA.con, h1, h2]
  rw [e]
  have l62 := hau.ld (j := 2) (v := u.runes) rfl 1
  have hlr : ∀ F, exec .len [u.runes] F = some (.int .i64 u.rs.length, F) := fun F => by have := hu.runes.len (H' := F); rwa [List.length_map] at this
  have hrl := hu.rl
  unfold big at hrl
  simp (maxSteps := 1000000) (implicitDefEqProofs := false) only [stp, if_true, if_false, Int.reduceEq, Int.reduceLT, Int.reduceLE, Int.reduceGT, Int.reduceGE, reduceCtorEq, Nat.reduceEqDiff, List.getElem?_cons_zero, List.getElem?_cons_succ, Option.map_some, fn81, enterFr, List.length, List.range, List.range.loop, List.zip, List.zipWith, hb1, hb2, l60, h1, l70, h2, l62, hlr]
  refine wp_range (len := u.rs.length) SCalls.scMono (by omega) (fun _ : Unit => [(0, s), (1, .ptr p 0), (6, .ptr H.next 0), (7, .ptr G1.next 0), (42, u.runes)]) (fun k _ F => MkS G2 M N p F (bothIns ks u.ats v.chs m (u.rs.take k))) () ⟨M, by simpa [bothIns] using hG, ExtM.refl _ _, MGrow.refl _ _, hw2⟩
    (.cons rfl (.cons rfl (.cons rfl (.cons rfl (.cons rfl (.cons rfl (.cons rfl .nil))))))) (by decide) (fun s => ⟨rfl, rfl, rfl⟩) ?_ ?_
  · rintro k _ F hk ⟨M', hI, hE, hGr, hwF⟩
    have hEw := hE.whole
    have x0F : Ext H0 F := ⟨hE.gn.trans xG.gn, Nat.le_trans xG.next hE.next, fun j hj => by rw [hEw.get j (Nat.lt_of_lt_of_le hj xG.next) fun e => by have := hlo j e; omega, xG.get j hj]⟩
    have h1n := hx1.next
    have h1l : H.next < G1.next := ha1.1
    have h2l : G1.next < G2.next := ha2.1
    have hauF : At F H.next 0 u.cells := hau.extM hEw fun e => by have := h.mb e; omega
    have havF : At F G1.next 0 v.cells := ha2.extM hEw fun e => by have := h.mb e; omega
    obtain ⟨i1, o1, hia, ht1⟩ := (hu.runes.ext x0F).ia (H' := F) (i := k) (e := [V.int .i32 u.rs[k]]) (by rw [List.getElem?_map, List.getElem?_eq_getElem hk]; rfl) .i64
    have lr := ht1.ld (j := 0) (v := .int .i32 u.rs[k]) rfl 1
    rw [Nat.add_zero] at lr
    have l63 := hauF.ld (j := 3) (v := u.set) rfl 1
    have l74F := havF.ld (j := 4) (v := v.patch) rfl 1
    have hus : u.set.one = true ∧ u.set.cells = [u.set] := by
      obtain ⟨_, ⟨e, _⟩ | ⟨id, off, cap, e, _⟩⟩ := hu.set <;> rw [e] <;> exact ⟨rfl, rfl⟩
    have hbc := x_buildCell (r := u.rs[k]) hus.2 F
    simp (maxSteps := 1000000) (implicitDefEqProofs := false) only [stp, if_true, if_false, Int.reduceEq, Int.reduceLT, Int.reduceLE, Int.reduceGT, Int.reduceGE, reduceCtorEq, Nat.reduceEqDiff, List.getElem?_cons_zero, List.getElem?_cons_succ, Option.map_some, hia, lr, l63, hbc, l74F]
    refine SCalls.mono (applyCell_calls (hs.ext x0F) (hu.set.ext x0F) (cu.2.1.ext x0F) (hv.patch.ext x0F) hl2 hus) ?_
    rintro _ F2 ⟨hx3, hw3, sv', kk, rfl, hvv, hkk, hkk0⟩
    obtain ⟨F3, hx4, hw4, ht4, c1, c2⟩ := x_copy (Ext.refl F2) hw3 (z := [.int .i32 0, .nils]) (e := [.int .i32 u.rs[k], sv']) (n := 2) rfl rfl rfl (by simp [hvv.one.1]; rfl)
    have lc0 := ht4.ld (j := 0) (v := .int .i32 u.rs[k]) rfl 1
    have bs : exec (.bsl 1 1 [.int .i32 0] [(0, 1)]) [.int .i32 u.rs[k]] F3 = some (.slice F3.next 0 1 (some 1), F3.new (.row false 1 [.int .i32 u.rs[k]])) := rfl
    have hx5 : Ext F3 (F3.new (.row false 1 [.int .i32 u.rs[k]])) := (Ext.refl F3).new _
    have hw5 : WF (F3.new (.row false 1 [.int .i32 u.rs[k]])) := hw4.new _
    have ho5 : Own (F3.new (.row false 1 [.int .i32 u.rs[k]])) F3.next 1 [[.int .i32 u.rs[k]]] := ⟨Nat.lt_succ_self _, new_get _ _, fun e he => by simp only [List.mem_cons, List.not_mem_nil, or_false] at he; subst he; exact ⟨rfl, rfl⟩⟩
    generalize F3.new (.row false 1 [.int .i32 u.rs[k]]) = F4 at *
    have lc1 := (ht4.ext hx5).ld (j := 1) (v := sv') rfl 1
    simp (maxSteps := 1000000) (implicitDefEqProofs := false) only [stp, if_true, if_false, Int.reduceEq, Int.reduceLT, Int.reduceLE, Int.reduceGT, Int.reduceGE, reduceCtorEq, Nat.reduceEqDiff, List.getElem?_cons_zero, List.getElem?_cons_succ, Option.map_some, c1, c2, lc0, bs, lc1]
    have hft := hfit h1 k (by omega)
    have hx345 := hx3.trans (hx4.trans hx5)
    refine SCalls.mono (insert_calls (ls := [u.rs[k]]) (ats := cellA ks u.rs[k] u.ats v.chs) (hI.grow hx345) (ho5.sl (some 1)) ((hvv.ext (hx4.trans hx5)).sl) (by simp [big]) (Nat.le_trans (cellA_len _ _ _ _) hl2) (cellA_sa hu.sa hv.sc) (by have := hft.len; omega) (fun c hc => hft.rs c hc)) ?_
    rintro _ F5 ⟨M5, q1, q2, q3, q4⟩
    simp (maxSteps := 1000000) (implicitDefEqProofs := false) only [stp, if_true, if_false, Int.reduceEq, Int.reduceLT, Int.reduceLE, Int.reduceGT, Int.reduceGE, reduceCtorEq, Nat.reduceEqDiff, List.getElem?_cons_zero, List.getElem?_cons_succ, Option.map_some, if_true]
    have hT : bothIns ks u.ats v.chs m (u.rs.take (k + 1)) = (bothIns ks u.ats v.chs m (u.rs.take k)).insert [u.rs[k]] (cellA ks u.rs[k] u.ats v.chs) := by
      unfold bothIns
      rw [List.take_succ_eq_append_getElem hk, List.foldl_append]
      rfl
    obtain ⟨M6, z1, z2, z3, z4⟩ := MkS.before hx345 ⟨M5, q1, q2, q3, q4⟩
    exact ⟨(), ⟨M6, by rw [hT]; exact z1, hE.stepN hGr z2, hGr.trans z3 hE.next, z4⟩, .cons rfl (.cons rfl (.cons rfl (.cons rfl (.cons rfl (.cons rfl (.cons rfl .nil))))))⟩
  · rintro _ F q
    rw [List.take_length] at q
    simp (maxSteps := 1000000) (implicitDefEqProofs := false) only [stp, if_true, if_false, Int.reduceEq, Int.reduceLT, Int.reduceLE, Int.reduceGT, Int.reduceGE, reduceCtorEq, Nat.reduceEqDiff, List.getElem?_cons_zero, List.getElem?_cons_succ, Option.map_some, if_true]
    exact MkS.before hx12 q
end Go.Proofs.YtkmaikggdbielaaGreatDoor.Fw

/- Compose: what is computed, and how great it grows: no program in sight. No condition. -/
namespace Go.Proofs.YtkmaikggdbielaaGreatDoor.Fw
open Go
set_option linter.unusedSimpArgs false
set_option linter.unusedVariables false

abbrev LL : Nat := 536870912
/-- One round of the first loop. -/
def cmpStep (ks : List KeyA) (m : MkC) (ru ro : RdC) : MkC × RdC × RdC :=
  if ro.kind = 2 then (tellC m (ro.op LL), ru, ro.take LL)
  else if ru.kind = 3 then (tellC m (ru.op LL), ru.take LL, ro)
  else (bothC ks m (ru.op (min ru.long ro.long)) (ro.op (min ru.long ro.long)), ru.take (min ru.long ro.long), ro.take (min ru.long ro.long))
def cmp (ks : List KeyA) : Nat → MkC → RdC → RdC → MkC × RdC
  | 0, m, ru, ro => (m, ru)
  | k + 1, m, ru, ro => if ro.xs = [] then (m, ru) else cmp ks k (cmpStep ks m ru ro).1 (cmpStep ks m ru ro).2.1 (cmpStep ks m ru ro).2.2
def drain : Nat → MkC → RdC → MkC
  | 0, m, r => m
  | k + 1, m, r => if r.xs = [] then m else drain k (tellC m (r.op LL)) (r.take LL)

def wtC (c : OpC) : Nat := 1 + 2 * c.rs.length
def RdC.W (r : RdC) : Nat := match r.xs with
  | [] => 0
  | c :: t => (wtC c - (if c.kind = 2 then 2 * r.dn else 0)) + (t.map wtC).sum
def cntM (m : MkC) : Nat := m.done.length + m.ins.length + (m.ins.map fun c => c.rs.length).sum + (if m.gone > 0 then 1 else 0)

theorem cnt_retain (m : MkC) (n : Int) (ps : List ChgA) : cntM (m.retain n ps) ≤ cntM m + 1 ∧ ((m.retain n ps).gone = m.gone ∨ (m.retain n ps).gone = 0) := by
  unfold MkC.retain
  split
  · exact ⟨by omega, .inl rfl⟩
  · refine ⟨?_, .inr rfl⟩
    have h1 : (delO m.gone).length = if m.gone > 0 then 1 else 0 := by unfold delO; split <;> simp
    have h2 : ∀ l : List OpC, (retainDone l n ps).length ≤ l.length + 1 := fun l => by
      unfold retainDone
      split
      · rename_i c e
        split
        · have : l ≠ [] := by intro h; rw [h] at e; cases e
          have := List.length_pos_iff.2 this
          simp only [List.length_append, List.length_dropLast, List.length_cons, List.length_nil]
          omega
        · simp
      · simp
    have h3 := h2 (m.done ++ (m.ins ++ delO m.gone))
    simp only [List.length_append, h1] at h3
    simp only [cntM, List.length_nil, List.map_nil, List.sum_nil]
    split
    · omega
    · omega
theorem cnt_insert (m : MkC) (ls : List Int) (us : List AttrA) : cntM (m.insert ls us) ≤ cntM m + 1 + ls.length ∧ (m.insert ls us).gone = m.gone := by
  unfold MkC.insert
  split
  · exact ⟨by omega, rfl⟩
  · refine ⟨?_, rfl⟩
    have h2 : (insLast m.ins ls us).length + ((insLast m.ins ls us).map fun c => c.rs.length).sum ≤ m.ins.length + (m.ins.map fun c => c.rs.length).sum + 1 + ls.length := by
      unfold insLast
      split
      · rename_i c e
        obtain ⟨t, ht⟩ : ∃ t, m.ins = t ++ [c] := by
          rcases List.eq_nil_or_concat m.ins with h | ⟨t, x, h⟩
          · rw [h] at e; cases e
          · rw [List.concat_eq_append] at h
            rw [h] at e
            simp at e
            exact ⟨t, by rw [h, e]⟩
        split
        · rw [ht, List.dropLast_concat]
          simp only [List.length_append, List.map_append, List.sum_append, List.map_cons, List.map_nil, List.sum_cons, List.sum_nil, List.length_cons, List.length_nil]
          omega
        · simp only [List.length_append, List.map_append, List.sum_append, List.map_cons, List.map_nil, List.sum_cons, List.sum_nil, List.length_cons, List.length_nil]
          omega
      · simp only [List.length_append, List.map_append, List.sum_append, List.map_cons, List.map_nil, List.sum_cons, List.sum_nil, List.length_cons, List.length_nil]
        omega
    simp only [cntM]
    omega
theorem cnt_del (m : MkC) (n : Int) : cntM (m.del n) ≤ cntM m + 1 ∧ (m.del n).gone = m.gone + n := by
  refine ⟨?_, rfl⟩
  simp only [cntM, MkC.del]
  by_cases h1 : m.gone + n > 0 <;> by_cases h2 : m.gone > 0 <;> simp only [h1, h2, if_true, if_false] <;> omega
theorem cnt_tell (m : MkC) (c : OpC) : cntM (tellC m c) ≤ cntM m + 1 + c.rs.length := by
  unfold tellC
  split
  · have := (cnt_retain m c.n c.chs).1; omega
  · split
    · exact (cnt_insert m c.rs c.ats).1
    · have := (cnt_del m c.n).1; omega
theorem cnt_bothIns (ks : List KeyA) (us : List AttrA) (ps : List ChgA) : ∀ (rs : List Int) (m : MkC), cntM (bothIns ks us ps m rs) ≤ cntM m + 2 * rs.length ∧ (bothIns ks us ps m rs).gone = m.gone
  | [], m => ⟨by simp [bothIns], rfl⟩
  | r :: rs, m => by
    have h1 := cnt_insert m [r] (cellA ks r us ps)
    have h2 := cnt_bothIns ks us ps rs (m.insert [r] (cellA ks r us ps))
    have e : bothIns ks us ps m (r :: rs) = bothIns ks us ps (m.insert [r] (cellA ks r us ps)) rs := rfl
    rw [e]
    simp only [List.length_cons, List.length_nil] at h1 ⊢
    exact ⟨by omega, by rw [h2.2, h1.2]⟩
theorem sum_mem {l : List OpC} {c : OpC} (h : c ∈ l) : c.rs.length ≤ (l.map fun c => c.rs.length).sum := by
  induction l with
  | nil => simp at h
  | cons a t ih =>
    rw [List.map_cons, List.sum_cons]
    rcases List.mem_cons.1 h with rfl | h
    · omega
    · have := ih h; omega
theorem cnt_fit {m : MkC} {k : Nat} (h : cntM m + k + 3 ≤ big) (h0 : 0 ≤ m.gone) (h1 : m.gone ≤ 2305843009213693952) : m.Fit k := by
  unfold cntM at h
  exact ⟨by omega, fun c hc => by have := sum_mem hc; omega, h0, h1⟩

/-- What a take leaves and gives. -/
theorem take_W {r : RdC} (h : r.Ok) {n : Nat} (hn : 1 ≤ n) : (r.take n).W + (if r.kind = 2 then 2 * (r.op n).rs.length else 0) + (if r.xs ≠ [] ∧ r.long ≤ n then 1 else 0) ≤ r.W := by
  obtain ⟨xs, dn⟩ := r
  cases xs with
  | nil => simp [RdC.take, RdC.W, RdC.kind]
  | cons c t =>
    have hd := h.hd c t rfl
    have hs := h.all c (by simp)
    simp only at hd
    have hsum : ∀ t : List OpC, (match t with | [] => 0 | c :: t => (wtC c - (if c.kind = 2 then 2 * 0 else 0)) + (t.map wtC).sum) = (t.map wtC).sum := fun t => by
      cases t with
      | nil => rfl
      | cons a b => simp
    obtain ⟨hs1, hs2, hs3⟩ := hs
    have hlong : RdC.long ⟨c :: t, dn⟩ = szN c - dn := rfl
    have hkind : RdC.kind ⟨c :: t, dn⟩ = c.kind := rfl
    have hW : RdC.W ⟨c :: t, dn⟩ = (wtC c - (if c.kind = 2 then 2 * dn else 0)) + (t.map wtC).sum := rfl
    have hop : c.kind = 2 → (RdC.op ⟨c :: t, dn⟩ n).rs.length = min (min n (szN c - dn)) (c.rs.length - dn) := fun hk => by
      simp only [RdC.op, cutC, hk, if_true, List.length_take, List.length_drop]
    have hne : (RdC.mk (c :: t) dn).xs ≠ [] := by simp
    by_cases hfin : dn + min n (szN c - dn) = szN c
    · have e1 : RdC.take ⟨c :: t, dn⟩ n = ⟨t, 0⟩ := by simp only [RdC.take, hfin, if_true]
      have hWt : RdC.W ⟨t, 0⟩ = (t.map wtC).sum := hsum t
      have hl : (if (RdC.mk (c :: t) dn).xs ≠ [] ∧ RdC.long ⟨c :: t, dn⟩ ≤ n then 1 else 0) ≤ 1 := by split <;> omega
      refine Nat.le_trans (Nat.add_le_add_left hl _) ?_
      rw [e1, hWt, hW, hkind]
      by_cases hk : c.kind = 2
      · have hsz : szN c = c.rs.length := by simp [szN, hk]
        have := hop hk
        simp only [hk, if_true] at this ⊢
        unfold wtC
        omega
      · simp only [hk, if_false]
        unfold wtC
        omega
    · have e1 : RdC.take ⟨c :: t, dn⟩ n = ⟨c :: t, dn + min n (szN c - dn)⟩ := by simp only [RdC.take, hfin, if_false]
      have hl : ¬ ((RdC.mk (c :: t) dn).xs ≠ [] ∧ RdC.long ⟨c :: t, dn⟩ ≤ n) := by
        rintro ⟨_, q⟩
        rw [hlong] at q
        omega
      have hWt : RdC.W ⟨c :: t, dn + min n (szN c - dn)⟩ = (wtC c - (if c.kind = 2 then 2 * (dn + min n (szN c - dn)) else 0)) + (t.map wtC).sum := rfl
      rw [e1, if_neg hl, hWt, hW, hkind]
      by_cases hk : c.kind = 2
      · have hsz : szN c = c.rs.length := by simp [szN, hk]
        have := hop hk
        simp only [hk, if_true] at this ⊢
        unfold wtC
        omega
      · simp only [hk, if_false]
        omega
theorem take_all {r : RdC} (h : r.Ok) (hne : r.xs ≠ []) : (r.take LL).W + 1 + (r.op LL).rs.length ≤ r.W := by
  obtain ⟨xs, dn⟩ := r
  cases xs with
  | nil => exact absurd rfl hne
  | cons c t =>
    have hd := h.hd c t rfl
    have hs := h.all c (by simp)
    simp only at hd
    have hle := hs.2.2
    have hmin : min LL (szN c - dn) = szN c - dn := by unfold LL; omega
    have hfin : dn + (szN c - dn) = szN c := by omega
    have hsum : ∀ t : List OpC, (match t with | [] => 0 | c :: t => (wtC c - (if c.kind = 2 then 2 * 0 else 0)) + (t.map wtC).sum) = (t.map wtC).sum := fun t => by
      cases t with
      | nil => rfl
      | cons a b => simp
    have e1 : RdC.take ⟨c :: t, dn⟩ LL = ⟨t, 0⟩ := by simp only [RdC.take, hmin, hfin, if_true]
    rw [e1]
    have := hsum t
    simp only [RdC.W, RdC.op, hmin, this]
    by_cases hk : c.kind = 2
    · have hsz : szN c = c.rs.length := by simp [szN, hk]
      obtain ⟨hs1, hs2, hs3⟩ := hs
      rw [hsz] at hd hs2 hs3 ⊢
      simp only [cutC, hk, if_true, List.length_take, List.length_drop]
      unfold wtC
      omega
    · simp only [cutC, hk, if_false]
      unfold wtC
      omega
end Go.Proofs.YtkmaikggdbielaaGreatDoor.Fw

/- Compose: a round's numbers: no program in sight. No condition. -/
namespace Go.Proofs.YtkmaikggdbielaaGreatDoor.Fw
open Go
set_option linter.unusedSimpArgs false
set_option linter.unusedVariables false

structure CmpOk (c : OpC) : Prop where
  sz : SzOk c
  chs : c.chs.length ≤ 524288
  ats : c.ats.length ≤ 524288
  n0 : c.kind = 2 → c.n = 0
  kd : c.kind = 1 ∨ c.kind = 2 ∨ c.kind = 3
structure RdC.Good (r : RdC) : Prop where
  ok : r.Ok
  all : ∀ c ∈ r.xs, CmpOk c
theorem RdC.Good.take {r : RdC} (h : r.Good) {n : Nat} (hn : 1 ≤ n) : (r.take n).Good := by
  refine ⟨h.ok.take hn, fun c hc => ?_⟩
  obtain ⟨xs, dn⟩ := r
  cases xs with
  | nil => exact h.all c hc
  | cons a t =>
    simp only [RdC.take] at hc
    split at hc
    · exact h.all c (List.mem_cons_of_mem _ hc)
    · exact h.all c hc
theorem RdC.Good.start {xs : List OpC} (h : ∀ c ∈ xs, CmpOk c) : (RdC.mk xs 0).Good :=
  ⟨⟨fun c hc => (h c hc).sz, fun _ => rfl, fun c t e => by simp only at e; have := (h c (by rw [e]; simp)).sz.2.1; simp only; omega⟩, h⟩
theorem long_pos {r : RdC} (h : r.Ok) : 1 ≤ r.long ∧ r.long ≤ LL := by
  obtain ⟨xs, dn⟩ := r
  cases xs with
  | nil => exact ⟨by simp [RdC.long], Nat.le_refl _⟩
  | cons c t =>
    have := h.hd c t rfl
    have := (h.all c (by simp)).2.2
    simp only [RdC.long, LL] at *
    omega
theorem op_kind (r : RdC) (n : Nat) : (r.op n).kind = r.kind := by
  obtain ⟨xs, dn⟩ := r
  cases xs with
  | nil => rfl
  | cons c t =>
    simp only [RdC.op, RdC.kind, cutC]
    split <;> rfl
theorem op_fields {r : RdC} (h : r.Good) {n : Nat} (hn : n ≤ LL) : ((r.op n).kind ≠ 2 → 0 ≤ (r.op n).n) ∧ (r.op n).n ≤ 536870912 ∧ (r.op n).chs.length ≤ 524288 ∧ (r.op n).ats.length ≤ 524288 := by
  obtain ⟨xs, dn⟩ := r
  cases xs with
  | nil => simp only [RdC.op]; unfold LL at hn; exact ⟨fun _ => by omega, by omega, by simp, by simp⟩
  | cons c t =>
    have hc := h.all c (by simp)
    unfold LL at hn
    simp only [RdC.op, cutC]
    split
    · rename_i hk
      simp only
      have := hc.n0 hk
      exact ⟨fun e => absurd hk e, by omega, hc.chs, hc.ats⟩
    · simp only
      exact ⟨fun _ => by omega, by omega, hc.chs, hc.ats⟩
theorem kind_cases {r : RdC} (h : r.Good) : r.kind = 1 ∨ r.kind = 2 ∨ r.kind = 3 := by
  obtain ⟨xs, dn⟩ := r
  cases xs with
  | nil => exact .inl rfl
  | cons c t => exact (h.all c (by simp)).kd
theorem kind_ne {r : RdC} (h : r.kind ≠ 1) : r.xs ≠ [] := by
  obtain ⟨xs, dn⟩ := r
  cases xs with
  | nil => exact absurd rfl h
  | cons c t => simp
theorem gone_tell {m : MkC} {c : OpC} (h0 : 0 ≤ m.gone) (hn : c.kind ≠ 2 → 0 ≤ c.n) (hn2 : c.n ≤ 536870912) : 0 ≤ (tellC m c).gone ∧ (tellC m c).gone ≤ m.gone + 536870912 := by
  unfold tellC
  split
  · rcases (cnt_retain m c.n c.chs).2 with e | e <;> rw [e] <;> omega
  · split
    · rw [(cnt_insert m c.rs c.ats).2]; omega
    · rename_i h1 h2
      have := hn h2
      rw [(cnt_del m c.n).2]; omega
/-- The numbers: the maker's size and what is left, together; what is left alone; the delete. -/
structure Num (m : MkC) (w : Nat) (m' : MkC) (w' : Nat) : Prop where
  cnt : cntM m' + w' ≤ cntM m + w
  w : w' + 1 ≤ w
  lo : 0 ≤ m'.gone
  hi : m'.gone ≤ m.gone + 536870912
theorem num_tell {m : MkC} {r : RdC} (h : r.Good) (hne : r.xs ≠ []) (h0 : 0 ≤ m.gone) (w : Nat) : Num m (r.W + w) (tellC m (r.op LL)) ((r.take LL).W + w) := by
  have h1 := take_all h.ok hne
  have h2 := cnt_tell m (r.op LL)
  obtain ⟨a, b, _⟩ := op_fields h (Nat.le_refl LL)
  obtain ⟨c, d⟩ := gone_tell h0 a b
  exact ⟨by omega, by omega, c, d⟩
theorem num_both {ks : List KeyA} {m : MkC} {ru ro : RdC} (hu : ru.Good) (ho : ro.Good) (hne : ro.xs ≠ []) (k2 : ro.kind ≠ 2) (k3 : ru.kind ≠ 3) (h0 : 0 ≤ m.gone) :
    Num m (ru.W + ro.W) (bothC ks m (ru.op (min ru.long ro.long)) (ro.op (min ru.long ro.long))) ((ru.take (min ru.long ro.long)).W + (ro.take (min ru.long ro.long)).W) := by
  obtain ⟨l1, l2⟩ := long_pos hu.ok
  obtain ⟨l3, l4⟩ := long_pos ho.ok
  obtain ⟨n, hn⟩ : ∃ n, n = min ru.long ro.long := ⟨_, rfl⟩
  rw [← hn]
  have w1 := take_W hu.ok (n := n) (by omega)
  have w2 := take_W ho.ok (n := n) (by omega)
  rw [if_neg k2] at w2
  have ku := op_kind ru n
  have ko := op_kind ro n
  obtain ⟨a, b, _⟩ := op_fields ho (n := n) (by omega)
  have hv0 : 0 ≤ (ro.op n).n := a (by rw [ko]; exact k2)
  by_cases e1 : ru.kind = 1
  · rw [if_neg (by omega)] at w1
    have hfin : 1 ≤ (if ru.xs ≠ [] ∧ ru.long ≤ n then 1 else 0) + (if ro.xs ≠ [] ∧ ro.long ≤ n then 1 else 0) := by
      by_cases hx : ru.xs = []
      · have : ru.long = 536870912 := by simp [RdC.long, hx]
        rw [if_pos (show ro.xs ≠ [] ∧ ro.long ≤ n from ⟨hne, by unfold LL at l4; omega⟩)]
        omega
      · rcases Nat.le_total ru.long ro.long with q | q
        · rw [if_pos (show ru.xs ≠ [] ∧ ru.long ≤ n from ⟨hx, by omega⟩)]; omega
        · rw [if_pos (show ro.xs ≠ [] ∧ ro.long ≤ n from ⟨hne, by omega⟩)]; omega
    have hb : cntM (bothC ks m (ru.op n) (ro.op n)) ≤ cntM m + 1 ∧ 0 ≤ (bothC ks m (ru.op n) (ro.op n)).gone ∧ (bothC ks m (ru.op n) (ro.op n)).gone ≤ m.gone + 536870912 := by
      unfold bothC
      rw [ku, if_pos e1]
      split
      · obtain ⟨q1, q2⟩ := cnt_retain m (ro.op n).n (pcF (ru.op n).chs (ro.op n).chs)
        exact ⟨q1, by rcases q2 with e | e <;> rw [e] <;> omega, by rcases q2 with e | e <;> rw [e] <;> omega⟩
      · obtain ⟨q1, q2⟩ := cnt_del m (ro.op n).n
        exact ⟨q1, by rw [q2]; omega, by rw [q2]; omega⟩
    exact ⟨by omega, by omega, hb.2.1, hb.2.2⟩
  · have e2 : ru.kind = 2 := by
      rcases kind_cases hu with e | e | e
      · exact absurd e e1
      · exact e
      · exact absurd e k3
    rw [if_pos e2] at w1
    have hpos : 1 ≤ (ru.op n).rs.length := by
      obtain ⟨xs, dn⟩ := ru
      cases xs with
      | nil => cases e2
      | cons c t =>
        have hk : c.kind = 2 := e2
        have hd := hu.ok.hd c t rfl
        have hsz : szN c = c.rs.length := by simp [szN, hk]
        simp only [hsz] at hd
        have hlg : RdC.long ⟨c :: t, dn⟩ = c.rs.length - dn := by simp [RdC.long, hsz]
        simp only [RdC.op, cutC, hk, if_true, List.length_take, List.length_drop, hsz]
        omega
    have hb : cntM (bothC ks m (ru.op n) (ro.op n)) ≤ cntM m + 2 * (ru.op n).rs.length ∧ (bothC ks m (ru.op n) (ro.op n)).gone = m.gone := by
      unfold bothC
      rw [ku, if_neg e1]
      split
      · exact cnt_bothIns ks _ _ _ m
      · exact ⟨by omega, rfl⟩
    exact ⟨by omega, by omega, by rw [hb.2]; exact h0, by rw [hb.2]; omega⟩
def takesC : Int → List OpC → Int
  | acc, [] => acc
  | acc, c :: l => takesC (if c.kind = 2 then acc else IntKind.i64.wrap (acc + c.n)) l
def makesC : Int → List OpC → Int
  | acc, [] => acc
  | acc, c :: l => makesC (if c.kind = 3 then acc else IntKind.i64.wrap (acc + (if c.kind = 2 then (c.rs.length : Int) else c.n))) l
theorem takesF_con : ∀ (os : List OpA) (acc : Int), takesF acc os = takesC acc (os.map OpA.con)
  | [], acc => rfl
  | o :: os, acc => takesF_con os _
theorem makesF_con : ∀ (os : List OpA) (acc : Int), makesF acc os = makesC acc (os.map OpA.con)
  | [], acc => rfl
  | o :: os, acc => by
    simp only [makesF, List.map_cons, makesC, sizeO]
    exact makesF_con os _
/-- Both deltas as one. -/
def composeM (ks : List KeyA) (xs ys : List OpC) : MkC × RdC := cmp ks ((RdC.mk xs 0).W + (RdC.mk ys 0).W) ⟨[], [], 0⟩ ⟨xs, 0⟩ ⟨ys, 0⟩
def composeF (ks : List KeyA) (xs ys : List OpC) : List OpC := (drain (composeM ks xs ys).2.W (composeM ks xs ys).1 (composeM ks xs ys).2).ops
end Go.Proofs.YtkmaikggdbielaaGreatDoor.Fw

/- compose.Compose. No condition but what utf8.Valid answers, which is a hypothesis here. -/
namespace Go.Proofs.YtkmaikggdbielaaGreatDoor.Fw
open Go
set_option linter.unusedSimpArgs false
set_option linter.unusedVariables false
variable {vU : ByteArray → Bool}

set_option maxRecDepth 20000 in
theorem cmay_calls (hU : ValidIs vU) {s x y : V} {H : Heap} {ks : List KeyA} {os us : List OpA} (hT : Tabs H) (hs : Sch H s ks) (hx : OpsIn H x os) (hy : OpsIn H y us) (h1 : opsMayF vU ks os = 0) (h2 : opsMayF vU ks us = 0) :
    SCalls PP 74 [s, x, y] H fun r H' => H' = H ∧ r = .int .i64 0 := by
  refine SCalls.go c74 (by simp [fn74]) fun hw => ?_
  simp (maxSteps := 1000000) (implicitDefEqProofs := false) only [stp, if_true, if_false, Int.reduceEq, Int.reduceLT, Int.reduceLE, Int.reduceGT, Int.reduceGE, reduceCtorEq, Nat.reduceEqDiff, List.getElem?_cons_zero, List.getElem?_cons_succ, Option.map_some, fn74, enterFr, List.length, List.range, List.range.loop, List.zip, List.zipWith]
  refine SCalls.mono (opsMay_calls hU hT hs hx) ?_
  rintro _ G ⟨rfl, rfl⟩
  simp (maxSteps := 1000000) (implicitDefEqProofs := false) only [stp, if_true, if_false, Int.reduceEq, Int.reduceLT, Int.reduceLE, Int.reduceGT, Int.reduceGE, reduceCtorEq, Nat.reduceEqDiff, List.getElem?_cons_zero, List.getElem?_cons_succ, Option.map_some, if_true]
  refine SCalls.mono (opsMay_calls hU hT hs hy) ?_
  rintro _ G ⟨rfl, rfl⟩
  simp (maxSteps := 1000000) (implicitDefEqProofs := false) only [stp, if_true, if_false, Int.reduceEq, Int.reduceLT, Int.reduceLE, Int.reduceGT, Int.reduceGE, reduceCtorEq, Nat.reduceEqDiff, List.getElem?_cons_zero, List.getElem?_cons_succ, Option.map_some, h1, h2]
  exact ⟨by trivial, by trivial⟩
/-- The call at a round: the maker, both readers. -/
structure CmpS (H : Heap) (p r1 r2 : Nat) (G : Heap) (m : MkC) (ru ro : RdC) (M : Nat → Prop) : Prop where
  wf : WF G
  x : Ext H G
  mi : MkI G M (fun j => j = r1 ∨ j = r2) p m
  lo : ∀ j, M j → H.next ≤ j
  ne : r1 ≠ r2
  p1 : RdP H G r1 ru
  p2 : RdP H G r2 ro
section
variable {H G : Heap} {p r1 r2 : Nat} {m : MkC} {ru ro : RdC} {M : Nat → Prop}
theorem CmpS.poke (h : CmpS H p r1 r2 G m ru ro M) {G' : Heap} (w : WF G') {r : Nat} (hr : r = r1 ∨ r = r2) (e : ExtM (fun j => j = r) G G') {ru' ro' : RdC} (p1 : RdP H G' r1 ru') (p2 : RdP H G' r2 ro') : CmpS H p r1 r2 G' m ru' ro' M := by
  have hlo : H.next ≤ r := h.lo r (h.mi.nM hr).1
  refine ⟨w, ⟨e.gn.trans h.x.gn, Nat.le_trans h.x.next e.next, fun j hj => by rw [e.get j (Nat.lt_of_lt_of_le hj h.x.next) (by omega), h.x.get j hj]⟩, h.mi.poke ⟨e.gn, e.next, fun j hj hm => e.get j hj fun q => hm (by rw [q]; exact hr)⟩, h.lo, h.ne, p1, p2⟩
theorem CmpS.setO (h : CmpS H p r1 r2 G m ru ro M) {G' : Heap} (w : WF G') (e : ExtM (fun j => j = r2) G G') {ro' : RdC} (q : RdP H G' r2 ro') : CmpS H p r1 r2 G' m ru ro' M :=
  h.poke w (.inr rfl) e (h.p1.keep e.next (by obtain ⟨_, _, a, _⟩ := h.p1; exact e.get r1 a h.ne)) q
theorem CmpS.setU (h : CmpS H p r1 r2 G m ru ro M) {G' : Heap} (w : WF G') (e : ExtM (fun j => j = r1) G G') {ru' : RdC} (q : RdP H G' r1 ru') : CmpS H p r1 r2 G' m ru' ro M :=
  h.poke w (.inl rfl) e q (h.p2.keep e.next (by obtain ⟨_, _, a, _⟩ := h.p2; exact e.get r2 a (Ne.symm h.ne)))
theorem CmpS.told (h : CmpS H p r1 r2 G m ru ro M) {G' : Heap} {m' : MkC} (q : MkS G M (fun j => j = r1 ∨ j = r2) p G' m') : ∃ M', CmpS H p r1 r2 G' m' ru ro M' := by
  obtain ⟨M', a, b, c, d⟩ := q
  refine ⟨M', d, ⟨b.gn.trans h.x.gn, Nat.le_trans h.x.next b.next, fun j hj => by rw [b.get j (Nat.lt_of_lt_of_le hj h.x.next) (fun e => by have := h.lo j e.1; omega), h.x.get j hj]⟩, a, fun j e => ?_, h.ne, h.p1.keep b.next ?_, h.p2.keep b.next ?_⟩
  · rcases c j e with k | k
    · exact h.lo j k
    · exact Nat.le_trans h.x.next k
  · obtain ⟨_, _, q, _⟩ := h.p1
    exact b.get r1 q fun e => e.2 (.inl rfl)
  · obtain ⟨_, _, q, _⟩ := h.p2
    exact b.get r2 q fun e => e.2 (.inr rfl)
end
theorem CmpS.tell {H G : Heap} {p r1 r2 : Nat} {m : MkC} {ru ro r : RdC} {M : Nat → Prop} (S : CmpS H p r1 r2 G m ru ro M) (g : r.Good) {o : OpA} (oIn : o.In H) (oC : o.con = r.op LL) (oOne : o.cells.all V.one = true) (hfit : m.Fit (r.op LL).rs.length) :
    SCalls PP 78 [.ptr p 0, .agg o.cells] G fun _ F => ∃ M', CmpS H p r1 r2 F (tellC m (r.op LL)) ru ro M' := by
  obtain ⟨o1, o2, _⟩ := op_fields g (Nat.le_refl LL)
  have hk : o.kind = (r.op LL).kind := by rw [← oC]; rfl
  have hn : o.n = (r.op LL).n := by rw [← oC]; rfl
  have hr : o.rs = (r.op LL).rs := by rw [← oC]; rfl
  refine SCalls.mono (tell_calls S.mi S.x S.lo oIn oOne (by rw [hr]; exact hfit) (fun e => by rw [hn]; exact o1 (by rw [← hk]; exact e)) (by rw [hn]; exact o2)) ?_
  intro _ F q
  rw [oC] at q
  exact S.told q
theorem x_buildRd {v : V} (hv : v.cells = [v]) (F : Heap) : exec (.build [.nils, .int .i64 0] [(0, 1)]) [v] F = some (.agg [v, .int .i64 0], F) := by
  have hf : fillA [V.nils, .int .i64 0] [((0, 1), v)] = some [v, .int .i64 0] := by
    simp only [fillA, hv]
    rfl
  show (fillA [V.nils, .int .i64 0] [((0, 1), v)]).map (fun cs => (V.agg cs, F)) = _
  rw [hf]
  rfl
set_option maxRecDepth 40000 in
set_option maxHeartbeats 8000000 in
theorem compose_calls (hU : ValidIs vU) {s x y : V} {H : Heap} {ks : List KeyA} {os us : List OpA} (hT : Tabs H) (hs : Sch H s ks) (hx : OpsZ H x os) (hy : OpsZ H y us) (h1 : opsMayF vU ks os = 0) (h2 : opsMayF vU ks us = 0)
    (c1 : ∀ c ∈ os.map OpA.con, CmpOk c) (c2 : ∀ c ∈ us.map OpA.con, CmpOk c) (hB : (RdC.mk (os.map OpA.con) 0).W + (RdC.mk (us.map OpA.con) 0).W ≤ 262144)
    (ht : takesC 0 (composeF ks (os.map OpA.con) (us.map OpA.con)) ≤ 536870912) (hm : makesC 0 (composeF ks (os.map OpA.con) (us.map OpA.con)) ≤ 536870912) :
    SCalls PP 54 [s, x, y] H fun r H' => Ext H H' ∧ WF H' ∧ ∃ z zs, r = .tup [z, .int .i64 0] ∧ Fresh H.next H' z zs ∧ zs.map OpA.con = composeF ks (os.map OpA.con) (us.map OpA.con) := by
  refine SCalls.go c54 (by simp [fn54]) fun hw => ?_
  obtain ⟨xs, hxs⟩ : ∃ xs, xs = os.map OpA.con := ⟨_, rfl⟩
  obtain ⟨ys, hys⟩ : ∃ ys, ys = us.map OpA.con := ⟨_, rfl⟩
  rw [← hxs] at c1 hB ht hm ⊢
  rw [← hys] at c2 hB ht hm ⊢
  have hone : ∀ {v : V} {l : List OpA}, OpsIn H v l → v.one = true ∧ v.cells = [v] := fun h => by
    obtain ⟨_, ⟨e, _⟩ | ⟨id, off, cap, e, _⟩⟩ := h.sl <;> rw [e] <;> exact ⟨rfl, rfl⟩
  simp (maxSteps := 1000000) (implicitDefEqProofs := false) only [stp, if_true, if_false, Int.reduceEq, Int.reduceLT, Int.reduceLE, Int.reduceGT, Int.reduceGE, reduceCtorEq, Nat.reduceEqDiff, List.getElem?_cons_zero, List.getElem?_cons_succ, Option.map_some, fn54, enterFr, List.length, List.range, List.range.loop, List.zip, List.zipWith]
  refine SCalls.mono (cmay_calls hU hT hs hx.ops hy.ops h1 h2) ?_
  rintro _ H ⟨rfl, rfl⟩
  simp (maxSteps := 1000000) (implicitDefEqProofs := false) only [stp, if_true, if_false, Int.reduceEq, Int.reduceLT, Int.reduceLE, Int.reduceGT, Int.reduceGE, reduceCtorEq, Nat.reduceEqDiff, List.getElem?_cons_zero, List.getElem?_cons_succ, Option.map_some, Bool.false_eq_true]
  refine SCalls.mono (newMk_calls H) ?_
  rintro _ G0 ⟨x0, w0, p, rfl, hp, hmk⟩
  have b1 := x_buildRd (hone hx.ops).2 G0
  obtain ⟨G1, x1, w1, a1, bx1⟩ := x_boxed (Ext.refl G0) w0 (e := [x, .int .i64 0]) (by simp [(hone hx.ops).1]; rfl)
  have b2 := x_buildRd (hone hy.ops).2 G1
  obtain ⟨G2, x2, w2, a2, bx2⟩ := x_boxed (Ext.refl G1) w1 (e := [y, .int .i64 0]) (by simp [(hone hy.ops).1]; rfl)
  have e1 : G1.next = G0.next + 1 ∧ G1.get G0.next = some (.row false 2 [x, .int .i64 0]) := by
    have := x_box G0 (.agg [x, .int .i64 0]) (by simp [V.cells, (hone hx.ops).1]; rfl)
    rw [this] at bx1
    cases bx1
    exact ⟨rfl, new_get _ _⟩
  have e2 : G2.next = G1.next + 1 ∧ G2.get G1.next = some (.row false 2 [y, .int .i64 0]) := by
    have := x_box G1 (.agg [y, .int .i64 0]) (by simp [V.cells, (hone hy.ops).1]; rfl)
    rw [this] at bx2
    cases bx2
    exact ⟨rfl, new_get _ _⟩
  have x0n := x0.next
  have x12 := x1.trans x2
  have hpl : p < G0.next := hmk.mb rfl
  have S0 : CmpS H p G0.next G1.next G2 ⟨[], [], 0⟩ ⟨xs, 0⟩ ⟨ys, 0⟩ (fun j => j = p ∨ j = G0.next ∨ j = G1.next) := by
    refine ⟨w2, x0.trans x12, hmk.move (x12.toM _) (fun j e => .inl e) (fun j e => ?_) (fun j e => ?_) (fun j e => ⟨.inr e, .inr ?_⟩), fun j e => ?_, ?_, ⟨x, os, ?_, x0n, ?_, hx, hxs.symm⟩, ⟨y, us, ?_, ?_, e2.2, hy, hys.symm⟩⟩
    · rcases e with e | e | e
      · exact .inl e
      · exact .inr (by omega)
      · exact .inr (by omega)
    · omega
    · omega
    · omega
    · omega
    · omega
    · rw [x2.get _ (by omega)]; exact e1.2
    · omega
    · omega
  have good1 : (RdC.mk xs 0).Good := RdC.Good.start c1
  have good2 : (RdC.mk ys 0).Good := RdC.Good.start c2
  obtain ⟨B, hBd⟩ : ∃ B, B = (RdC.mk xs 0).W + (RdC.mk ys 0).W := ⟨_, rfl⟩
  rw [← hBd] at hB
  simp (maxSteps := 1000000) (implicitDefEqProofs := false) only [stp, if_true, if_false, Int.reduceEq, Int.reduceLT, Int.reduceLE, Int.reduceGT, Int.reduceGE, reduceCtorEq, Nat.reduceEqDiff, List.getElem?_cons_zero, List.getElem?_cons_succ, Option.map_some, b1, bx1, b2, bx2]
  refine wp_loopI (fun f fr G => ∃ m ru ro M, CmpS H p G0.next G1.next G m ru ro M ∧ ru.Good ∧ ro.Good ∧ ru.W + ro.W ≤ f ∧ cmp ks f m ru ro = composeM ks xs ys ∧ cntM m + (ru.W + ro.W) ≤ B ∧ 0 ≤ m.gone ∧ m.gone + 536870912 * ((ru.W + ro.W : Nat) : Int) ≤ 536870912 * (B : Nat) ∧
    FrSub [(0, s), (9, .ptr p 0), (10, .ptr G0.next 0), (11, .ptr G1.next 0)] fr) B
    ⟨_, _, _, _, S0, good1, good2, by omega, by rw [hBd]; rfl, by simp [cntM]; omega, by simp, by simp only; omega, .cons rfl (.cons rfl (.cons rfl (.cons rfl .nil)))⟩ ?_
  rintro f fr G ⟨m, ru, ro, M, S, gu, go, hf, hcmp, hcnt, hg0, hg1, hsub⟩
  refine ⟨_, hsub, ?_⟩
  have hgB : m.gone ≤ 140737488355328 := by omega
  simp (maxSteps := 1000000) (implicitDefEqProofs := false) only [stp, if_true, if_false, Int.reduceEq, Int.reduceLT, Int.reduceLE, Int.reduceGT, Int.reduceGE, reduceCtorEq, Nat.reduceEqDiff, List.getElem?_cons_zero, List.getElem?_cons_succ, Option.map_some, if_true]
  refine SCalls.mono (over_calls S.p2 S.x) ?_
  rintro _ G ⟨rfl, rfl⟩
  by_cases hro : ro.xs = []
  · -- the rest
    have hres : composeM ks xs ys = (m, ru) := by
      rw [← hcmp]
      cases f with
      | zero => rfl
      | succ f => simp only [cmp, hro, if_true]
    simp (maxSteps := 1000000) (implicitDefEqProofs := false) only [stp, if_true, if_false, Int.reduceEq, Int.reduceLT, Int.reduceLE, Int.reduceGT, Int.reduceGE, reduceCtorEq, Nat.reduceEqDiff, List.getElem?_cons_zero, List.getElem?_cons_succ, Option.map_some, hro]
    refine wp_loopI (fun f fr G => ∃ m ru M, CmpS H p G0.next G1.next G m ru ro M ∧ ru.Good ∧ ru.W ≤ f ∧ drain f m ru = drain (composeM ks xs ys).2.W (composeM ks xs ys).1 (composeM ks xs ys).2 ∧ cntM m + ru.W ≤ B ∧ 0 ≤ m.gone ∧ m.gone + 536870912 * ((ru.W : Nat) : Int) ≤ 536870912 * (B : Nat) ∧
      FrSub [(0, s), (9, .ptr p 0), (10, .ptr G0.next 0), (11, .ptr G1.next 0)] fr) ru.W
      ⟨m, ru, M, S, gu, Nat.le_refl _, by rw [hres], by omega, hg0, by omega, .cons rfl (.cons rfl (.cons rfl (.cons rfl .nil)))⟩ ?_
    rintro f fr G ⟨m, ru, M, S, gu, hf, hdr, hcnt, hg0, hg1, hsub⟩
    refine ⟨_, hsub, ?_⟩
    have hgB : m.gone ≤ 140737488355328 := by omega
    simp (maxSteps := 1000000) (implicitDefEqProofs := false) only [stp, if_true, if_false, Int.reduceEq, Int.reduceLT, Int.reduceLE, Int.reduceGT, Int.reduceGE, reduceCtorEq, Nat.reduceEqDiff, List.getElem?_cons_zero, List.getElem?_cons_succ, Option.map_some, if_true]
    refine SCalls.mono (over_calls S.p1 S.x) ?_
    rintro _ G ⟨rfl, rfl⟩
    by_cases hru : ru.xs = []
    · have hfin : composeF ks xs ys = m.ops := by
        unfold composeF
        rw [← hdr]
        cases f with
        | zero => rfl
        | succ f => simp only [drain, hru, if_true]
      simp (maxSteps := 1000000) (implicitDefEqProofs := false) only [stp, if_true, if_false, Int.reduceEq, Int.reduceLT, Int.reduceLE, Int.reduceGT, Int.reduceGE, reduceCtorEq, Nat.reduceEqDiff, List.getElem?_cons_zero, List.getElem?_cons_succ, Option.map_some, hru]
      have hfit : m.Fit 0 := cnt_fit (by unfold big; omega) hg0 (by omega)
      refine SCalls.mono (ops_calls S.mi hfit.len (by omega)) ?_
      rintro z F ⟨xF, wF, zs, hfr, hzc⟩
      have hz1 : takesF 0 zs ≤ 536870912 := by rw [takesF_con, hzc, ← hfin]; exact ht
      have hz2 : makesF 0 zs ≤ 536870912 := by rw [makesF_con, hzc, ← hfin]; exact hm
      have n1 : ¬ takesF 0 zs > 536870912 := by omega
      have n2 : ¬ makesF 0 zs > 536870912 := by omega
      simp (maxSteps := 1000000) (implicitDefEqProofs := false) only [stp, if_true, if_false, Int.reduceEq, Int.reduceLT, Int.reduceLE, Int.reduceGT, Int.reduceGE, reduceCtorEq, Nat.reduceEqDiff, List.getElem?_cons_zero, List.getElem?_cons_succ, Option.map_some, if_true]
      refine SCalls.mono (takes_calls hfr.here) ?_
      rintro _ F ⟨rfl, rfl⟩
      simp (maxSteps := 1000000) (implicitDefEqProofs := false) only [stp, if_true, if_false, Int.reduceEq, Int.reduceLT, Int.reduceLE, Int.reduceGT, Int.reduceGE, reduceCtorEq, Nat.reduceEqDiff, List.getElem?_cons_zero, List.getElem?_cons_succ, Option.map_some, n1]
      refine SCalls.mono (makes_calls hfr.here) ?_
      rintro _ F ⟨rfl, rfl⟩
      simp (maxSteps := 1000000) (implicitDefEqProofs := false) only [stp, if_true, if_false, Int.reduceEq, Int.reduceLT, Int.reduceLE, Int.reduceGT, Int.reduceGE, reduceCtorEq, Nat.reduceEqDiff, List.getElem?_cons_zero, List.getElem?_cons_succ, Option.map_some, n2, Bool.false_eq_true]
      exact ⟨S.x.trans xF, wF, z, zs, by trivial, Fz.step hfr (ExtM.refl _ _) (fun j e => .inl (Nat.lt_of_lt_of_le e S.x.next)), by rw [hfin]; exact hzc⟩
    · simp (maxSteps := 1000000) (implicitDefEqProofs := false) only [stp, if_true, if_false, Int.reduceEq, Int.reduceLT, Int.reduceLE, Int.reduceGT, Int.reduceGE, reduceCtorEq, Nat.reduceEqDiff, List.getElem?_cons_zero, List.getElem?_cons_succ, Option.map_some, hru]
      refine SCalls.mono (take_calls (n := LL) S.p1 S.x gu.ok (Nat.le_refl _)) ?_
      rintro _ F ⟨wF, eF, qF, o, rfl, oIn, oC, oOne, oCut⟩
      have S1 := S.setU wF eF qF
      have nm := num_tell gu hru hg0 0
      simp only [Nat.add_zero] at nm
      obtain ⟨o1, o2, o3, o4⟩ := op_fields gu (Nat.le_refl LL)
      have tk := take_all gu.ok hru
      have hor : o.rs.length = (ru.op LL).rs.length := by rw [← oC]; rfl
      simp (maxSteps := 1000000) (implicitDefEqProofs := false) only [stp, if_true, if_false, Int.reduceEq, Int.reduceLT, Int.reduceLE, Int.reduceGT, Int.reduceGE, reduceCtorEq, Nat.reduceEqDiff, List.getElem?_cons_zero, List.getElem?_cons_succ, Option.map_some, if_true]
      refine SCalls.mono (S1.tell gu oIn oC oOne (cnt_fit (by unfold big; omega) hg0 (by omega))) ?_
      rintro _ F2 ⟨M2, S2⟩
      simp (maxSteps := 1000000) (implicitDefEqProofs := false) only [stp, if_true, if_false, Int.reduceEq, Int.reduceLT, Int.reduceLE, Int.reduceGT, Int.reduceGE, reduceCtorEq, Nat.reduceEqDiff, List.getElem?_cons_zero, List.getElem?_cons_succ, Option.map_some, if_true]
      cases f with
      | zero => have := nm.w; omega
      | succ f =>
        refine ⟨f, Nat.lt_succ_self _, _, _, M2, S2, gu.take (by decide), by have := nm.w; omega, ?_, by have := nm.cnt; omega, nm.lo, by have := nm.w; have := nm.hi; omega, .cons rfl (.cons rfl (.cons rfl (.cons rfl .nil)))⟩
        rw [← hdr]
        simp only [drain, hru, if_false]
  · simp (maxSteps := 1000000) (implicitDefEqProofs := false) only [stp, if_true, if_false, Int.reduceEq, Int.reduceLT, Int.reduceLE, Int.reduceGT, Int.reduceGE, reduceCtorEq, Nat.reduceEqDiff, List.getElem?_cons_zero, List.getElem?_cons_succ, Option.map_some, hro]
    refine SCalls.mono (kind_calls S.p2 S.x) ?_
    rintro _ G ⟨rfl, rfl⟩
    by_cases k2 : ro.kind = 2
    · simp (maxSteps := 1000000) (implicitDefEqProofs := false) only [stp, if_true, if_false, Int.reduceEq, Int.reduceLT, Int.reduceLE, Int.reduceGT, Int.reduceGE, reduceCtorEq, Nat.reduceEqDiff, List.getElem?_cons_zero, List.getElem?_cons_succ, Option.map_some, k2]
      refine SCalls.mono (take_calls (n := LL) S.p2 S.x go.ok (Nat.le_refl _)) ?_
      rintro _ F ⟨wF, eF, qF, o, rfl, oIn, oC, oOne, oCut⟩
      have S1 := S.setO wF eF qF
      have nm := num_tell go hro hg0 ru.W
      have tk := take_all go.ok hro
      simp (maxSteps := 1000000) (implicitDefEqProofs := false) only [stp, if_true, if_false, Int.reduceEq, Int.reduceLT, Int.reduceLE, Int.reduceGT, Int.reduceGE, reduceCtorEq, Nat.reduceEqDiff, List.getElem?_cons_zero, List.getElem?_cons_succ, Option.map_some, if_true]
      refine SCalls.mono (S1.tell go oIn oC oOne (cnt_fit (by unfold big; omega) hg0 (by omega))) ?_
      rintro _ F2 ⟨M2, S2⟩
      simp (maxSteps := 1000000) (implicitDefEqProofs := false) only [stp, if_true, if_false, Int.reduceEq, Int.reduceLT, Int.reduceLE, Int.reduceGT, Int.reduceGE, reduceCtorEq, Nat.reduceEqDiff, List.getElem?_cons_zero, List.getElem?_cons_succ, Option.map_some, if_true]
      cases f with
      | zero => have := nm.w; omega
      | succ f =>
        refine ⟨f, Nat.lt_succ_self _, _, _, _, M2, S2, gu, go.take (by decide), by have := nm.w; omega, ?_, by have := nm.cnt; omega, nm.lo, by have := nm.w; have := nm.hi; omega, .cons rfl (.cons rfl (.cons rfl (.cons rfl .nil)))⟩
        rw [← hcmp]
        simp only [cmp, hro, if_false, cmpStep, k2, if_true]
    simp (maxSteps := 1000000) (implicitDefEqProofs := false) only [stp, if_true, if_false, Int.reduceEq, Int.reduceLT, Int.reduceLE, Int.reduceGT, Int.reduceGE, reduceCtorEq, Nat.reduceEqDiff, List.getElem?_cons_zero, List.getElem?_cons_succ, Option.map_some, k2]
    refine SCalls.mono (kind_calls S.p1 S.x) ?_
    rintro _ G ⟨rfl, rfl⟩
    by_cases k3 : ru.kind = 3
    · have hru : ru.xs ≠ [] := kind_ne (by omega)
      simp (maxSteps := 1000000) (implicitDefEqProofs := false) only [stp, if_true, if_false, Int.reduceEq, Int.reduceLT, Int.reduceLE, Int.reduceGT, Int.reduceGE, reduceCtorEq, Nat.reduceEqDiff, List.getElem?_cons_zero, List.getElem?_cons_succ, Option.map_some, k3]
      refine SCalls.mono (take_calls (n := LL) S.p1 S.x gu.ok (Nat.le_refl _)) ?_
      rintro _ F ⟨wF, eF, qF, o, rfl, oIn, oC, oOne, oCut⟩
      have S1 := S.setU wF eF qF
      have nm := num_tell gu hru hg0 ro.W
      have tk := take_all gu.ok hru
      simp (maxSteps := 1000000) (implicitDefEqProofs := false) only [stp, if_true, if_false, Int.reduceEq, Int.reduceLT, Int.reduceLE, Int.reduceGT, Int.reduceGE, reduceCtorEq, Nat.reduceEqDiff, List.getElem?_cons_zero, List.getElem?_cons_succ, Option.map_some, if_true]
      refine SCalls.mono (S1.tell gu oIn oC oOne (cnt_fit (by unfold big; omega) hg0 (by omega))) ?_
      rintro _ F2 ⟨M2, S2⟩
      simp (maxSteps := 1000000) (implicitDefEqProofs := false) only [stp, if_true, if_false, Int.reduceEq, Int.reduceLT, Int.reduceLE, Int.reduceGT, Int.reduceGE, reduceCtorEq, Nat.reduceEqDiff, List.getElem?_cons_zero, List.getElem?_cons_succ, Option.map_some, if_true]
      cases f with
      | zero => have := nm.w; omega
      | succ f =>
        refine ⟨f, Nat.lt_succ_self _, _, _, _, M2, S2, gu.take (by decide), go, by have := nm.w; omega, ?_, by have := nm.cnt; omega, nm.lo, by have := nm.w; have := nm.hi; omega, .cons rfl (.cons rfl (.cons rfl (.cons rfl .nil)))⟩
        rw [← hcmp]
        simp only [cmp, hro, if_false, cmpStep, k2, k3, if_true]
    simp (maxSteps := 1000000) (implicitDefEqProofs := false) only [stp, if_true, if_false, Int.reduceEq, Int.reduceLT, Int.reduceLE, Int.reduceGT, Int.reduceGE, reduceCtorEq, Nat.reduceEqDiff, List.getElem?_cons_zero, List.getElem?_cons_succ, Option.map_some, k3]
    refine SCalls.mono (long_calls S.p1 S.x gu.ok) ?_
    rintro _ G ⟨rfl, rfl⟩
    simp (maxSteps := 1000000) (implicitDefEqProofs := false) only [stp, if_true, if_false, Int.reduceEq, Int.reduceLT, Int.reduceLE, Int.reduceGT, Int.reduceGE, reduceCtorEq, Nat.reduceEqDiff, List.getElem?_cons_zero, List.getElem?_cons_succ, Option.map_some, if_true]
    refine SCalls.mono (long_calls S.p2 S.x go.ok) ?_
    rintro _ G ⟨rfl, rfl⟩
    obtain ⟨n, hn⟩ : ∃ n, n = min ru.long ro.long := ⟨_, rfl⟩
    have hmn := x_mnN ru.long ro.long G
    rw [← hn] at hmn
    obtain ⟨q1, q2⟩ := long_pos gu.ok
    obtain ⟨q3, q4⟩ := long_pos go.ok
    have nm := num_both (ks := ks) gu go hro k2 k3 hg0
    rw [← hn] at nm
    simp (maxSteps := 1000000) (implicitDefEqProofs := false) only [stp, if_true, if_false, Int.reduceEq, Int.reduceLT, Int.reduceLE, Int.reduceGT, Int.reduceGE, reduceCtorEq, Nat.reduceEqDiff, List.getElem?_cons_zero, List.getElem?_cons_succ, Option.map_some, hmn]
    refine SCalls.mono (take_calls (n := n) S.p1 S.x gu.ok (by unfold LL at q2; omega)) ?_
    rintro _ F ⟨wF, eF, qF, u, rfl, uIn, uC, uOne, uCut⟩
    have S1 := S.setU wF eF qF
    simp (maxSteps := 1000000) (implicitDefEqProofs := false) only [stp, if_true, if_false, Int.reduceEq, Int.reduceLT, Int.reduceLE, Int.reduceGT, Int.reduceGE, reduceCtorEq, Nat.reduceEqDiff, List.getElem?_cons_zero, List.getElem?_cons_succ, Option.map_some, if_true]
    refine SCalls.mono (take_calls (n := n) S1.p2 S1.x go.ok (by unfold LL at q2; omega)) ?_
    rintro _ F2 ⟨wF2, eF2, qF2, v, rfl, vIn, vC, vOne, vCut⟩
    have S2 := S1.setO wF2 eF2 qF2
    obtain ⟨u1, u2, u3, u4⟩ := op_fields gu (n := n) (by omega)
    obtain ⟨v1, v2, v3, v4⟩ := op_fields go (n := n) (by omega)
    have uk : u.kind = (ru.op n).kind := by rw [← uC]; rfl
    have ur : u.rs = (ru.op n).rs := by rw [← uC]; rfl
    have ua : u.ats = (ru.op n).ats := by rw [← uC]; rfl
    have uc : u.chs = (ru.op n).chs := by rw [← uC]; rfl
    have vn : v.n = (ro.op n).n := by rw [← vC]; rfl
    have vc : v.chs = (ro.op n).chs := by rw [← vC]; rfl
    have tw := take_W gu.ok (n := n) (by omega)
    simp (maxSteps := 1000000) (implicitDefEqProofs := false) only [stp, if_true, if_false, Int.reduceEq, Int.reduceLT, Int.reduceLE, Int.reduceGT, Int.reduceGE, reduceCtorEq, Nat.reduceEqDiff, List.getElem?_cons_zero, List.getElem?_cons_succ, Option.map_some, if_true]
    refine SCalls.mono (both_calls S2.mi S2.x S2.lo (hs) uIn vIn uOne vOne uCut (by rw [uc, vc]; unfold big; omega) (by rw [ua, vc]; unfold big; omega) (cnt_fit (by unfold big; omega) hg0 (by omega)) (by rw [vn]; exact v1 (by rw [op_kind]; exact k2)) (by rw [vn]; exact v2) (fun e k hk => ?_)) ?_
    · have e2 : ru.kind = 2 := by
        rw [uk, op_kind] at e
        rcases kind_cases gu with q | q | q
        · exact absurd q e
        · exact q
        · exact absurd q k3
      rw [if_pos e2] at tw
      rw [ur] at hk
      obtain ⟨z1, z2⟩ := cnt_bothIns ks u.ats v.chs (u.rs.take k) m
      have hkl : (u.rs.take k).length ≤ k := List.length_take_le ..
      exact cnt_fit (by unfold big; omega) (by rw [z2]; exact hg0) (by rw [z2]; omega)
    rintro _ F3 q5
    rw [uC, vC] at q5
    obtain ⟨M3, S3⟩ := S2.told q5
    simp (maxSteps := 1000000) (implicitDefEqProofs := false) only [stp, if_true, if_false, Int.reduceEq, Int.reduceLT, Int.reduceLE, Int.reduceGT, Int.reduceGE, reduceCtorEq, Nat.reduceEqDiff, List.getElem?_cons_zero, List.getElem?_cons_succ, Option.map_some, if_true]
    cases f with
    | zero => have := nm.w; omega
    | succ f =>
      refine ⟨f, Nat.lt_succ_self _, _, _, _, M3, S3, gu.take (by omega), go.take (by omega), by have := nm.w; omega, ?_, by have := nm.cnt; omega, nm.lo, by have := nm.w; have := nm.hi; omega, .cons rfl (.cons rfl (.cons rfl (.cons rfl .nil)))⟩
      rw [← hcmp]
      simp only [cmp, hro, if_false, cmpStep, k2, k3, ← hn]
end Go.Proofs.YtkmaikggdbielaaGreatDoor.Fw

/- A history in a bracket. No condition but what utf8.Valid answers, which is a hypothesis here. -/
namespace Go.Proofs.YtkmaikggdbielaaGreatDoor.Fw
open Go
set_option linter.unusedSimpArgs false
set_option linter.unusedVariables false
variable {vU : ByteArray → Bool}

/-! ### Deltas that may be, by their content -/
def OpC.toA (c : OpC) : OpA := ⟨c.kind, c.n, .nils, .nils, .nils, c.rs, c.ats, c.chs⟩
def opsMayC (vU : ByteArray → Bool) (ks : List KeyA) (l : List OpC) : Int := opsMayF vU ks (l.map OpC.toA)
theorem one_con (ks : List KeyA) (o : OpA) : oneF vU ks o.con.toA = oneF vU ks o := rfl
theorem may_con (ks : List KeyA) : ∀ (os : List OpA) (f : Int), mayF vU ks f (os.map fun o => o.con.toA) = mayF vU ks f os
  | [], f => rfl
  | o :: os, f => by
    rw [List.map_cons]
    unfold mayF
    rw [may_con ks os]
    rfl
theorem takes_con : ∀ (os : List OpA) (a : Int), takesF a (os.map fun o => o.con.toA) = takesF a os
  | [], a => rfl
  | o :: os, a => takes_con os _
theorem makes_con : ∀ (os : List OpA) (a : Int), makesF a (os.map fun o => o.con.toA) = makesF a os
  | [], a => rfl
  | o :: os, a => makes_con os _
theorem opsMay_con (ks : List KeyA) (os : List OpA) : opsMayF vU ks os = opsMayC vU ks (os.map OpA.con) := by
  unfold opsMayC
  rw [List.map_map]
  have e : (OpC.toA ∘ OpA.con) = fun o : OpA => o.con.toA := rfl
  rw [e]
  unfold opsMayF
  rw [may_con, takes_con, makes_con]
theorem mayF_all {ks : List KeyA} : ∀ {os : List OpA} {f : Int}, mayF vU ks f os = some 0 → f = 0 ∧ ∀ o ∈ os, oneF vU ks o = 0
  | [], f, h => by simp [mayF] at h; exact ⟨h, by simp⟩
  | o :: os, f, h => by
    simp only [mayF] at h
    split at h
    · cases h
    · obtain ⟨h1, h2⟩ := mayF_all h
      split at h1
      · rename_i a b; exact absurd h1 b
      · rename_i a b
        have b' : oneF vU ks o = 0 := by simpa using b
        exact ⟨h1, fun x hx => by
          rcases List.mem_cons.1 hx with rfl | hx
          · exact b'
          · exact h2 x hx⟩
theorem opsMayC_all {ks : List KeyA} {l : List OpC} (h : opsMayC vU ks l = 0) : (∀ c ∈ l, oneF vU ks c.toA = 0) ∧ takesF 0 (l.map OpC.toA) ≤ 536870912 ∧ makesF 0 (l.map OpC.toA) ≤ 536870912 := by
  unfold opsMayC opsMayF at h
  split at h
  · cases h
  · rename_i f e
    split at h
    · cases h
    · split at h
      · cases h
      · subst h
        exact ⟨fun c hc => (mayF_all e).2 _ (List.mem_map_of_mem hc), by omega, by omega⟩
theorem one_cmpOk {ks : List KeyA} {c : OpC} (h : oneF vU ks c.toA = 0) : CmpOk c := by
  unfold oneF at h
  split at h
  · cases h
  · rename_i hb
    simp only [Bool.or_eq_true, Bool.not_eq_true', decide_eq_true_eq, not_or, Bool.not_eq_false] at hb
    obtain ⟨⟨hf, h1⟩, h2⟩ := hb
    have hs : sizeO c.toA = if c.kind = 2 then (c.rs.length : Int) else c.n := rfl
    rw [hs] at h1 h2
    have hats : c.ats.length ≤ 64 := by
      rcases Nat.lt_or_ge 64 c.ats.length with q | q
      · have : attrsMayF vU ks c.toA.ats = 3 := if_pos q
        rw [this] at h
        simp at h
      · exact q
    have hch : c.chs.length ≤ 64 := by
      rcases Nat.lt_or_ge 64 c.chs.length with q | q
      · have : patchMayF vU ks c.toA.chs = 3 := if_pos q
        rw [this] at h
        split at h
        · rename_i e; exact absurd h e
        · cases h
      · exact q
    have kd : c.kind = 1 ∨ c.kind = 2 ∨ c.kind = 3 := by
      by_cases k1 : c.kind = 1
      · exact .inl k1
      by_cases k3 : c.kind = 3
      · exact .inr (.inr k3)
      by_cases k2 : c.kind = 2
      · exact .inr (.inl k2)
      · simp [formO, OpC.toA, k1, k2, k3] at hf
    have n0 : c.kind = 2 → c.n = 0 := fun k => by
      unfold formO at hf
      simp only [OpC.toA, k] at hf
      simp at hf
      exact hf.1.1
    refine ⟨⟨fun k => ?_, ?_, ?_⟩, by omega, by omega, n0, kd⟩
    · rw [if_neg k] at h1; omega
    · unfold szN
      split at h1
      · rename_i k; rw [if_pos k]; omega
      · rename_i k; rw [if_neg k]; omega
    · unfold szN
      split at h2
      · rename_i k; rw [if_pos k]; omega
      · rename_i k; rw [if_neg k]; omega
/-- Both can be one, and are not too great. -/
structure CanC (vU : ByteArray → Bool) (ks : List KeyA) (xs ys : List OpC) : Prop where
  m1 : opsMayC vU ks xs = 0
  m2 : opsMayC vU ks ys = 0
  w : (RdC.mk xs 0).W + (RdC.mk ys 0).W ≤ 262144
  t : takesC 0 (composeF ks xs ys) ≤ 536870912
  m : makesC 0 (composeF ks xs ys) ≤ 536870912
theorem compose_con (hU : ValidIs vU) {s x y : V} {H : Heap} {ks : List KeyA} {os us : List OpA} (hT : Tabs H) (hs : Sch H s ks) (hx : OpsZ H x os) (hy : OpsZ H y us) (hc : CanC vU ks (os.map OpA.con) (us.map OpA.con)) :
    SCalls PP 54 [s, x, y] H fun r H' => Ext H H' ∧ WF H' ∧ ∃ z zs, r = .tup [z, .int .i64 0] ∧ Fresh H.next H' z zs ∧ zs.map OpA.con = composeF ks (os.map OpA.con) (us.map OpA.con) :=
  compose_calls hU hT hs hx hy (by rw [opsMay_con]; exact hc.m1) (by rw [opsMay_con]; exact hc.m2) (fun c h => one_cmpOk ((opsMayC_all hc.m1).1 c h)) (fun c h => one_cmpOk ((opsMayC_all hc.m2).1 c h)) hc.w hc.t hc.m

/-- A schema of no keys, as it lies. -/
theorem newNoKeysS (H : Heap) : SCalls PP 9 [.nils] H fun r H' => WF H' ∧ Ext H H' ∧ ∃ id, r = .tup [.ptr id 0, .int .i64 0] ∧ Sch H' (.ptr id 0) [] := by
  refine SCalls.go c9 (by simp [fn9]) fun hw => ?_
  have hl : ∀ G, exec .len [.nils] G = some (.int .i64 0, G) := fun _ => rfl
  have h64 : ¬ ((0 : Int) > 64) := by decide
  simp (maxSteps := 1000000) (implicitDefEqProofs := false) only [stp, if_true, if_false, Int.reduceEq, Int.reduceLT, Int.reduceLE, Int.reduceGT, Int.reduceGE, reduceCtorEq, Nat.reduceEqDiff, List.getElem?_cons_zero, List.getElem?_cons_succ, Option.map_some, fn9, enterFr, List.length, List.range, List.range.loop, List.zip, List.zipWith, hl, h64]
  refine SCalls.mono (cloneNoKeys H) ?_
  rintro r G ⟨rfl, rfl⟩
  have hmk : exec .mkmap [] G = some (.map G.next, G.new (.mapo [])) := rfl
  have hx1 : Ext G (G.new (.mapo [])) := (Ext.refl G).new _
  have hw1 : WF (G.new (.mapo [])) := hw.new _
  have hb : ∀ F, exec (.build [.nils, .nilm] [(0, 1), (1, 1)]) [.nils, .map G.next] F = some (.agg [.nils, .map G.next], F) := fun _ => rfl
  have hgm := new_get G (.mapo [])
  have hnm : (G.new (.mapo [])).next = G.next + 1 := rfl
  generalize G.new (.mapo []) = G1 at *
  obtain ⟨G2, hx2, hw2, ha2, hb2⟩ := x_boxed (Ext.refl G1) hw1 (e := [.nils, .map G.next]) rfl
  have l := ha2.ld (j := 0) (v := .nils) rfl 1
  have h00 : ¬ ((0 : Int) < 0) := by decide
  simp (maxSteps := 1000000) (implicitDefEqProofs := false) only [stp, if_true, if_false, Int.reduceEq, Int.reduceLT, Int.reduceLE, Int.reduceGT, Int.reduceGE, reduceCtorEq, Nat.reduceEqDiff, List.getElem?_cons_zero, List.getElem?_cons_succ, Option.map_some, hmk, hb, hb2, hl]
  refine wp_loopI (fun m fr F => F = G2 ∧ FrSub [(19, .int .i64 0), (18, .int .i64 0), (4, .ptr G1.next 0)] fr) 0 ⟨rfl, .cons rfl (.cons rfl (.cons rfl .nil))⟩ ?_
  rintro m fr F ⟨rfl, hsub⟩
  refine ⟨_, hsub, ?_⟩
  simp (maxSteps := 1000000) (implicitDefEqProofs := false) only [stp, if_true, if_false, Int.reduceEq, Int.reduceLT, Int.reduceLE, Int.reduceGT, Int.reduceGE, reduceCtorEq, Nat.reduceEqDiff, List.getElem?_cons_zero, List.getElem?_cons_succ, Option.map_some, h00, l]
  refine SCalls.mono (sortNoKeys _) ?_
  rintro r F ⟨rfl, rfl⟩
  simp (maxSteps := 1000000) (implicitDefEqProofs := false) only [stp, if_true, if_false, Int.reduceEq, Int.reduceLT, Int.reduceLE, Int.reduceGT, Int.reduceGE, reduceCtorEq, Nat.reduceEqDiff, List.getElem?_cons_zero, List.getElem?_cons_succ, Option.map_some, if_true]
  have hn2 := hx2.next
  exact ⟨hw2, hx1.trans hx2, _, by trivial, ⟨_, _, G.next, rfl, ha2, by omega, by rw [hx2.get _ (by omega)]; exact hgm⟩⟩

/-! ### with -/
def withG (ks : List KeyA) : List GrpC → GrpC → GrpC
  | [], g => g
  | g0 :: _, g => ⟨composeF ks g0.dn g.dn, composeF ks g.un g0.un⟩
set_option maxRecDepth 20000 in
set_option maxHeartbeats 2000000 in
theorem withH (hU : ValidIs vU) {H : Heap} {M : Nat → Prop} {p : Nat} {s : V} {ks : List KeyA} {h : HistC} (q : HistI H M p s h) (hT : Tabs H) (hs : Sch H s ks) {d u : V} {g : GrpC} (hg : GrpZ M H [d, u] g) (ho : ([d, u] : List V).all V.one = true)
    (hol : h.own.length ≤ 1) (hc : ∀ g0, h.own = [g0] → CanC vU ks g0.dn g.dn ∧ CanC vU ks g.un g0.un) :
    SCalls PP 38 [.ptr p 0, .agg [d, u]] H fun r H' => Ext H H' ∧ WF H' ∧ ∃ d' u', r = .tup [.agg [d', u'], .int .i64 0] ∧ ([d', u'] : List V).all V.one = true ∧ GrpZ M H' [d', u'] (withG ks h.own g) := by
  refine SCalls.go c38 (by simp [fn38]) fun hw => ?_
  obtain ⟨uv, rv, ov, ue, re, oe, uk, rk, ok, q⟩ := q
  obtain ⟨G1, x1, w1, a1, b1⟩ := x_boxed (Ext.refl H) hw (e := [d, u]) ho
  have al := x_alloc G1 [.nils, .nils] rfl
  have x2 : Ext G1 (G1.new (.row false 2 [.nils, .nils])) := (Ext.refl G1).new _
  have w2 : WF (G1.new (.row false 2 [.nils, .nils])) := w1.new _
  have g2 := new_get G1 (.row false 2 [.nils, .nils])
  have n2 : (G1.new (.row false 2 [.nils, .nils])).next = G1.next + 1 := rfl
  rw [show ([V.nils, .nils] : List V).length = 2 from rfl] at al
  generalize G1.new (.row false 2 [.nils, .nils]) = G2 at *
  have x12 := x1.trans x2
  have hat := q.at7.ext x12
  have l6 := hat.ld (j := 6) (v := ov) rfl 1
  have hlen : ∀ F, exec .len [ov] F = some (.int .i64 h.own.length, F) := fun F => by rw [← q.os.grp.length]; exact q.os.vec.len F
  have hmb : ∀ {n : Nat} {F : Heap}, H.next ≤ n → MGrow (fun j => j < n) M F := fun h j e => .inl (Nat.lt_of_lt_of_le (q.mb j e) h)
  have fin : ∀ (d' u' : V) (F : Heap), Ext G2 F → WF F → ([d', u'] : List V).all V.one = true → ∃ F', exec (.st 2) [.ptr G1.next 0, .agg [d', u']] F = some (.undef, F') ∧ cellsAt F' 2 (some (.ptr G1.next 0)) = some (.agg [d', u']) ∧ Ext H F' ∧ WF F' ∧ ExtM (fun j => j = G1.next) F F' := by
    intro d' u' F hF hwF ho'
    have hFn := hF.next
    have x1n := x1.next
    obtain ⟨F', s1, s2, s3, s4, s5, s6⟩ := x_fill (id := G1.next) hwF (by omega) (by rw [hF.get _ (by omega)]; exact g2) (e := [d', u']) rfl ho'
    exact ⟨F', s1, s3.cells rfl, ⟨s5.trans (x12.trans hF).gn, by have := (x12.trans hF).next; omega, fun j hj => by rw [s6 j (by omega), (x12.trans hF).get j hj]⟩, s2, s5, by omega, fun j hj hm => s6 j hm⟩
  rcases hown : h.own with _ | ⟨g0, t⟩
  · have hl0 : ((h.own.length : Nat) : Int) = 0 := by rw [hown]; rfl
    have la := (a1.ext x2).lda (n := 2) rfl
    obtain ⟨F', s1, s2, s3, s4, s5⟩ := fin d u G2 (Ext.refl _) w2 ho
    rw [hl0] at hlen
    simp (maxSteps := 1000000) (implicitDefEqProofs := false) only [stp, if_true, if_false, Int.reduceEq, Int.reduceLT, Int.reduceLE, Int.reduceGT, Int.reduceGE, reduceCtorEq, Nat.reduceEqDiff, List.getElem?_cons_zero, List.getElem?_cons_succ, Option.map_some, fn38, enterFr, List.length, List.range, List.range.loop, List.zip, List.zipWith, b1, al, l6, hlen, la, s1, s2]
    refine ⟨s3, s4, d, u, by trivial, ho, ?_⟩
    exact hg.step (s3.toM M) (MGrow.refl M H)
  have ht : t = [] := by
    have h1 := hol
    rw [hown, List.length_cons] at h1
    exact List.length_eq_zero_iff.1 (by omega)
  subst ht
  obtain ⟨c1, c2⟩ := hc g0 hown
  have hl1 : ((h.own.length : Nat) : Int) = 1 := by rw [hown]; rfl
  rw [hl1] at hlen
  have hgrp := q.os.grp
  rw [hown] at hgrp
  obtain ⟨e0, hoe, hz0⟩ : ∃ e0, oe = [e0] ∧ GrpZ M H e0 g0 := by
    match oe, hgrp with
    | [e0], hh => exact ⟨e0, rfl, hh.1⟩
    | [], hh => exact hh.elim
    | _ :: _ :: _, hh => exact hh.2.elim
  obtain ⟨d0, u0, os0, us0, he0, z1, z2, z3, z4⟩ := hz0
  obtain ⟨d', u', os, us, he, y1, y2, y3, y4⟩ := hg
  cases he
  have l0 : ∀ F, Ext G2 F → exec (.ld 1) [.ptr p (0 + 0)] F = some (s, F) := fun F hF => (hat.ext hF).ld (j := 0) (v := s) rfl 1
  have l6' : ∀ F, Ext G2 F → exec (.ld 1) [.ptr p (0 + 6)] F = some (ov, F) := fun F hF => (hat.ext hF).ld (j := 6) (v := ov) rfl 1
  have el : ∀ F, Ext G2 F → ∃ i o, exec (.ia 2) [ov, .int .i64 0] F = some (.ptr i o, F) ∧ exec (.ld 1) [.ptr i (o + 0)] F = some (d0, F) ∧ exec (.ld 1) [.ptr i (o + 1)] F = some (u0, F) := fun F hF => by
    have hsl := (q.os.vec.sl.ext (x12.trans hF))
    rw [hoe, he0] at hsl
    obtain ⟨i, o, ha, ht⟩ := hsl.ia (H' := F) (i := 0) (e := [d0, u0]) rfl .i64
    exact ⟨i, o, ha, ht.ld (j := 0) (v := d0) rfl 1, ht.ld (j := 1) (v := u0) rfl 1⟩
  have lb : ∀ F, Ext G2 F → exec (.ld 1) [.ptr H.next (0 + 0)] F = some (d, F) ∧ exec (.ld 1) [.ptr H.next (0 + 1)] F = some (u, F) := fun F hF => ⟨((a1.ext x2).ext hF).ld (j := 0) (v := d) rfl 1, ((a1.ext x2).ext hF).ld (j := 1) (v := u) rfl 1⟩
  have n01 : ¬ ((1 : Int) = 0) := by decide
  have l0a := l0 G2 (Ext.refl _)
  obtain ⟨i, o, ha, hd0, hu0⟩ := el G2 (Ext.refl _)
  obtain ⟨lb0, lb1⟩ := lb G2 (Ext.refl _)
  simp (maxSteps := 1000000) (implicitDefEqProofs := false) only [stp, if_true, if_false, Int.reduceEq, Int.reduceLT, Int.reduceLE, Int.reduceGT, Int.reduceGE, reduceCtorEq, Nat.reduceEqDiff, List.getElem?_cons_zero, List.getElem?_cons_succ, Option.map_some, fn38, enterFr, List.length, List.range, List.range.loop, List.zip, List.zipWith, b1, al, l6, hlen, n01, l0a, ha, hd0, lb0]
  refine SCalls.mono (compose_con hU (hT.ext x12) (hs.ext x12) (z3.here.ext x12) (y3.here.ext x12) (by rw [z1, y1]; exact c1)) ?_
  rintro _ F ⟨xF, wF, zd, zds, rfl, fd, cd⟩
  have l0b := l0 F xF
  have l6b := l6' F xF
  obtain ⟨i', o', ha', hd0', hu0'⟩ := el F xF
  obtain ⟨lb0', lb1'⟩ := lb F xF
  have x12F := x12.trans xF
  simp (maxSteps := 1000000) (implicitDefEqProofs := false) only [stp, if_true, if_false, Int.reduceEq, Int.reduceLT, Int.reduceLE, Int.reduceGT, Int.reduceGE, reduceCtorEq, Nat.reduceEqDiff, List.getElem?_cons_zero, List.getElem?_cons_succ, Option.map_some, Bool.false_eq_true, l0b, lb1', l6b, ha', hu0']
  refine SCalls.mono (compose_con hU (hT.ext x12F) (hs.ext x12F) (y4.here.ext x12F) (z4.here.ext x12F) (by rw [z2, y2]; exact c2)) ?_
  rintro _ F2 ⟨xF2, wF2, zu, zus, rfl, fu, cu⟩
  have hone : ([zd, zu] : List V).all V.one = true := by simp [fd.one.1, fu.one.1]
  have hb := x_build2 fd.one.2 fu.one.2 F2
  obtain ⟨F3, s1, s2, s3, s4, s5⟩ := fin zd zu F2 (xF.trans xF2) wF2 hone
  simp (maxSteps := 1000000) (implicitDefEqProofs := false) only [stp, if_true, if_false, Int.reduceEq, Int.reduceLT, Int.reduceLE, Int.reduceGT, Int.reduceGE, reduceCtorEq, Nat.reduceEqDiff, List.getElem?_cons_zero, List.getElem?_cons_succ, Option.map_some, hb, s1, s2]
  refine ⟨s3, s4, zd, zu, by trivial, hone, zd, zu, zds, zus, rfl, by rw [cd, z1, y1]; rfl, by rw [cu, z2, y2]; rfl, ?_, ?_⟩
  · have h3 := (Fz.step fd (xF2.toM _) (MGrow.refl _ _))
    have h4 : Fz (fun j => j < G2.next) F3 fun G => OpsZ G zd zds := h3.step (M' := fun j => j < G2.next) ⟨s5.gn, s5.next, fun j hj hm => s5.get j hj (by omega)⟩ (MGrow.refl _ _)
    exact h4.step (ExtM.refl _ _) (hmb x12.next)
  · have h4 : Fz (fun j => j < F.next) F3 fun G => OpsZ G zu zus := Fz.step fu (M' := fun j => j < F.next) ⟨s5.gn, s5.next, fun j hj hm => s5.get j hj (by have := xF.next; omega)⟩ (MGrow.refl _ _)
    exact h4.step (ExtM.refl _ _) (hmb (Nat.le_trans x12.next xF.next))
end Go.Proofs.YtkmaikggdbielaaGreatDoor.Fw

/- A history in a bracket: Push, End. No condition but what utf8.Valid answers, which is a hypothesis here. -/
namespace Go.Proofs.YtkmaikggdbielaaGreatDoor.Fw
open Go
set_option linter.unusedSimpArgs false
set_option linter.unusedVariables false
variable {vU : ByteArray → Bool}

/-- The bracket's group is put. -/
theorem HistD.setOwn {M N : Nat → Prop} {H0 H : Heap} (hw : WF H) {p : Nat} {s : V} {h : HistC} (x0 : Ext H0 H) (q0 : HistD H0 M N p s h) {j : Nat} (hj : H0.next ≤ j) {e : List V} (ho : Own H j 2 [e]) {g : GrpC} (hg : GrpZ M H e g) :
    ∃ H', exec (.st 1) [.ptr p (0 + 6), .slice j 0 1 (some 1)] H = some (.undef, H') ∧ WF H' ∧ HistS H M N p s H' { h with own := [g] } := by
  obtain ⟨uv, rv, ov, ue, re, oe, uk, rk, ok, q, hn⟩ := q0.grow x0
  have hjM : ¬ M j := fun e => by have := q0.mb e; omega
  obtain ⟨G, e1, w, gg, n, gn, k⟩ := st_row hw (k := 0 + 6) (v := .slice j 0 1 (some 1)) q.at' (by simp) rfl rfl rfl
  have hjp : j ≠ p := fun e => hjM (by rw [e]; exact q.mp)
  have hM : ExtM M H G := ⟨gn, by omega, fun i hi hm => k i fun e => hm (by rw [e]; exact q.mp)⟩
  have hfz : Fz M G fun F => Own F j 2 [e] := fun F hF => by
    refine ⟨by have := hF.next; have := ho.lt; omega, ?_, ho.len⟩
    rw [hF.get j (by have := ho.lt; omega) hjM, k j hjp]
    exact ho.get
  refine ⟨G, e1, w, M, ⟨uv, rv, .slice j 0 1 (some 1), ue, re, [e], uk, rk, none, ⟨by have := q.lt; omega, q.mp, fun i e => by have := q.mb i e; omega, gg, ?_, ?_, ⟨⟨ho.len, .inr (.inl ⟨j, 0, rfl, hfz.here.sl (some 1), rfl⟩)⟩, fun _ F hF => (hfz F hF).sl (some 1), (fun i e => by cases e), ⟨hg.step hM (MGrow.refl M H), trivial⟩⟩, ?_, fun i e => ⟨(q.ur i e).1, by simp⟩, by simp⟩, fun i e => ?_⟩, hM.minus fun i hi e => k i (hn i e).2.1, MGrow.refl M H⟩
  · exact q.us.step hM (MGrow.refl M H) fun i e => ⟨k i (q.kp i (.inl e)), q.us.own i e⟩
  · exact q.rs.step hM (MGrow.refl M H) fun i e => ⟨k i (q.kp i (.inr (.inl e))), q.rs.own i e⟩
  · rintro i (e | e | e)
    · exact q.kp i (.inl e)
    · exact q.kp i (.inr (.inl e))
    · cases e
  · obtain ⟨a1, a2, a3, a4, a5⟩ := hn i e
    exact ⟨a1, a2, a3, a4, by simp⟩
set_option maxRecDepth 20000 in
set_option maxHeartbeats 2000000 in
theorem pushO (hU : ValidIs vU) {H : Heap} {M N : Nat → Prop} {p : Nat} {s : V} {ks : List KeyA} {h : HistC} (q : HistD H M N p s h) (hT : Tabs H) (hs : Sch H s ks) (hop : h.opened = true) (hol : h.own.length ≤ 1) {x y : V} {os us : List OpA} (hx : OpsIn H x os) (hy : OpsIn H y us)
    (hc : ∀ g0, h.own = [g0] → CanC vU ks g0.dn (os.map OpA.con) ∧ CanC vU ks (us.map OpA.con) g0.un) :
    SCalls PP 13 [.ptr p 0, x, y] H fun r H' => WF H' ∧ r = .int .i64 0 ∧ HistS H M N p s H' { h with own := [withG ks h.own ⟨os.map OpA.con, us.map OpA.con⟩], redo := [] } := by
  refine SCalls.go c13 (by simp [fn13]) fun hw => ?_
  simp (maxSteps := 1000000) (implicitDefEqProofs := false) only [stp, if_true, if_false, Int.reduceEq, Int.reduceLT, Int.reduceLE, Int.reduceGT, Int.reduceGE, reduceCtorEq, Nat.reduceEqDiff, List.getElem?_cons_zero, List.getElem?_cons_succ, Option.map_some, fn13, enterFr, List.length, List.range, List.range.loop, List.zip, List.zipWith]
  refine SCalls.mono (readyH q.toI) ?_
  rintro r0 G0 ⟨rfl, rfl⟩
  simp (maxSteps := 1000000) (implicitDefEqProofs := false) only [stp, if_true, if_false, Int.reduceEq, Int.reduceLT, Int.reduceLE, Int.reduceGT, Int.reduceGE, reduceCtorEq, Nat.reduceEqDiff, List.getElem?_cons_zero, List.getElem?_cons_succ, Option.map_some, Bool.not_true, Bool.false_eq_true]
  refine SCalls.mono (copy_calls hx) ?_
  rintro a G1 ⟨hx1, hw1, os', fa, ca⟩
  simp (maxSteps := 1000000) (implicitDefEqProofs := false) only [stp, if_true, if_false, Int.reduceEq, Int.reduceLT, Int.reduceLE, Int.reduceGT, Int.reduceGE, reduceCtorEq, Nat.reduceEqDiff, List.getElem?_cons_zero, List.getElem?_cons_succ, Option.map_some, if_true]
  refine SCalls.mono (copy_calls (hy.ext hx1)) ?_
  rintro b G2 ⟨hx2, hw2, us', fb, cb⟩
  have hb := x_build2 fa.one.2 fb.one.2 G2
  have hone : ([a, b] : List V).all V.one = true := by simp [fa.one.1, fb.one.1]
  obtain ⟨G3, hx3, hw3, ht3, c1, c2⟩ := x_copy (Ext.refl G2) hw2 (z := [.nils, .nils]) (e := [a, b]) (n := 2) rfl rfl rfl hone
  have h13 := hx1.trans (hx2.trans hx3)
  have q3 := q.grow h13
  have lo := q3.lo
  rw [hop] at lo
  have la := ht3.lda (n := 2) rfl
  simp (maxSteps := 1000000) (implicitDefEqProofs := false) only [stp, if_true, if_false, Int.reduceEq, Int.reduceLT, Int.reduceLE, Int.reduceGT, Int.reduceGE, reduceCtorEq, Nat.reduceEqDiff, List.getElem?_cons_zero, List.getElem?_cons_succ, Option.map_some, hb, c1, c2, lo, la]
  have n1 := hx1.next
  have n2 := hx2.next
  have hz : GrpZ M G3 [a, b] ⟨os.map OpA.con, us.map OpA.con⟩ := by
    have mm : ∀ n, G0.next ≤ n → MGrow (fun j => j < n) M G3 := fun n hn j e => .inl (Nat.lt_of_lt_of_le (q.mb e) hn)
    refine ⟨a, b, os', us', rfl, ca, cb, ?_, ?_⟩
    · exact (Fz.step fa ((hx2.trans hx3).toM _) (MGrow.refl _ _)).step (ExtM.refl _ _) (mm _ (Nat.le_refl _))
    · exact (Fz.step fb (hx3.toM _) (MGrow.refl _ _)).step (ExtM.refl _ _) (mm _ n1)
  refine SCalls.mono (withH hU q3.toI (hT.ext h13) (hs.ext h13) hz hone hol hc) ?_
  rintro _ G4 ⟨x4, w4, d, u, rfl, hdu, hg4⟩
  obtain ⟨G5, x5, w5, t5, k1, k2⟩ := x_copy (Ext.refl G4) w4 (z := [.nils, .nils]) (e := [d, u]) (n := 2) rfl rfl rfl hdu
  have la5 := t5.lda (n := 2) rfl
  have bs : exec (.bsl 2 1 [.nils, .nils] [(0, 2)]) [.agg [d, u]] G5 = some (.slice G5.next 0 1 (some 1), G5.new (.row false 2 [d, u])) := by
    have hf : fillA [V.nils, .nils] [((0, 2), .agg [d, u])] = some [d, u] := by
      simp only [fillA]
      rfl
    simp only [exec, List.length_cons, List.length_nil, if_true, List.zip_cons_cons, List.zip_nil_right, hf, Option.bind_some, hdu]
  have x6 : Ext G5 (G5.new (.row false 2 [d, u])) := (Ext.refl G5).new _
  have w6 : WF (G5.new (.row false 2 [d, u])) := w5.new _
  have o6 : Own (G5.new (.row false 2 [d, u])) G5.next 2 [[d, u]] := ⟨Nat.lt_succ_self _, by rw [new_get]; simp, fun e he => by simp only [List.mem_cons, List.not_mem_nil, or_false] at he; subst he; exact ⟨rfl, hdu⟩⟩
  generalize G5.new (.row false 2 [d, u]) = G6 at *
  have x36 := x4.trans (x5.trans x6)
  have x06 := h13.trans x36
  have hg6 : GrpZ M G6 [d, u] (withG ks h.own ⟨os.map OpA.con, us.map OpA.con⟩) := hg4.step ((x5.trans x6).toM M) (MGrow.refl M _)
  obtain ⟨G7, st7, w7, hS7⟩ := HistD.setOwn w6 x06 q (j := G5.next) (by have := x06.next; have := x4.next; have := x5.next; have := h13.next; omega) o6 hg6
  obtain ⟨M7, q7, e7, g7⟩ := hS7
  obtain ⟨G8, st8, w8, hS8⟩ := q7.noRedo w7
  simp (maxSteps := 1000000) (implicitDefEqProofs := false) only [stp, if_true, if_false, Int.reduceEq, Int.reduceLT, Int.reduceLE, Int.reduceGT, Int.reduceGE, reduceCtorEq, Nat.reduceEqDiff, List.getElem?_cons_zero, List.getElem?_cons_succ, Option.map_some, Bool.false_eq_true, k1, k2, la5, bs, st7, st8]
  refine ⟨w8, by trivial, ?_⟩
  exact HistD.before x06 (HistS.then ⟨M7, q7, e7, g7⟩ fun M' q' => by
    obtain ⟨G8', st8', _, hS'⟩ := q'.noRedo w7
    rw [st8] at st8'
    cases st8'
    exact hS') fun j e => q.mb e
theorem endH_no {H : Heap} {M N : Nat → Prop} {p : Nat} {s : V} {h : HistC} (q : HistD H M N p s h) (ho : h.opened = false) :
    SCalls PP 24 [.ptr p 0] H fun r H' => H' = H ∧ r = .int .i64 9 := by
  refine SCalls.go c24 (by simp [fn24]) fun hw => ?_
  simp (maxSteps := 1000000) (implicitDefEqProofs := false) only [stp, if_true, if_false, Int.reduceEq, Int.reduceLT, Int.reduceLE, Int.reduceGT, Int.reduceGE, reduceCtorEq, Nat.reduceEqDiff, List.getElem?_cons_zero, List.getElem?_cons_succ, Option.map_some, fn24, enterFr, List.length, List.range, List.range.loop, List.zip, List.zipWith]
  refine SCalls.mono (readyH q.toI) ?_
  rintro r0 G0 ⟨rfl, rfl⟩
  have lo := q.lo
  rw [ho] at lo
  simp (maxSteps := 1000000) (implicitDefEqProofs := false) only [stp, if_true, if_false, Int.reduceEq, Int.reduceLT, Int.reduceLE, Int.reduceGT, Int.reduceGE, reduceCtorEq, Nat.reduceEqDiff, List.getElem?_cons_zero, List.getElem?_cons_succ, Option.map_some, Bool.not_true, Bool.false_eq_true, lo]
  exact ⟨by trivial, by trivial⟩
def endU (mx : Int) (u : List GrpC) : List GrpC → List GrpC
  | [] => u
  | g :: _ => keepL mx (u ++ [g])
set_option maxRecDepth 20000 in
set_option maxHeartbeats 2000000 in
theorem endH_ok {H : Heap} {M N : Nat → Prop} {p : Nat} {s : V} {h : HistC} (q : HistD H M N p s h) (ho : h.opened = true) (hol : h.own.length ≤ 1) (hl : h.undo.length + 1 ≤ big) (hm : 0 ≤ h.max) (hmb : h.max ≤ 65536) :
    SCalls PP 24 [.ptr p 0] H fun r H' => WF H' ∧ r = .int .i64 0 ∧ HistS H M N p s H' { h with undo := endU h.max h.undo h.own, opened := false, own := [] } := by
  refine SCalls.go c24 (by simp [fn24]) fun hw => ?_
  simp (maxSteps := 1000000) (implicitDefEqProofs := false) only [stp, if_true, if_false, Int.reduceEq, Int.reduceLT, Int.reduceLE, Int.reduceGT, Int.reduceGE, reduceCtorEq, Nat.reduceEqDiff, List.getElem?_cons_zero, List.getElem?_cons_succ, Option.map_some, fn24, enterFr, List.length, List.range, List.range.loop, List.zip, List.zipWith]
  refine SCalls.mono (readyH q.toI) ?_
  rintro r0 G0 ⟨rfl, rfl⟩
  have lo := q.lo
  rw [ho] at lo
  have hq := q
  obtain ⟨uv, rv, ov, ue, re, oe, uk, rk, ok, qq, hn⟩ := hq
  have l6 := qq.at7.ld (j := 6) (v := ov) rfl 1
  have hlen : ∀ F, exec .len [ov] F = some (.int .i64 h.own.length, F) := fun F => by rw [← qq.os.grp.length]; exact qq.os.vec.len F
  simp (maxSteps := 1000000) (implicitDefEqProofs := false) only [stp, if_true, if_false, Int.reduceEq, Int.reduceLT, Int.reduceLE, Int.reduceGT, Int.reduceGE, reduceCtorEq, Nat.reduceEqDiff, List.getElem?_cons_zero, List.getElem?_cons_succ, Option.map_some, Bool.not_true, Bool.false_eq_true, lo, l6, hlen]
  refine wp_range (len := h.own.length) SCalls.scMono (by omega) (fun _ : Unit => [(0, .ptr p 0), (18, ov)]) (fun k _ F => WF F ∧ HistS G0 M N p s F { h with undo := endU h.max h.undo (h.own.take k) } ∧ (k = 0 → F = G0)) () ⟨hw, ⟨M, q, ExtM.refl _ _, MGrow.refl _ _⟩, fun _ => rfl⟩
    (.cons rfl (.cons rfl (.cons rfl (.cons rfl .nil)))) (by decide) (fun s => ⟨rfl, rfl, rfl⟩) ?_ ?_
  · rintro k _ F hk ⟨wF, hSF, h0⟩
    obtain rfl : k = 0 := by omega
    obtain rfl := h0 rfl
    have hgrp := qq.os.grp
    obtain ⟨g0, hown⟩ : ∃ g0, h.own = [g0] := by
      match hh : h.own, hk, hol with
      | [g0], _, _ => exact ⟨g0, rfl⟩
    rw [hown] at hgrp
    obtain ⟨e0, hoe, hz0⟩ : ∃ e0, oe = [e0] ∧ GrpZ M F e0 g0 := by
      match oe, hgrp with
      | [e0], hh => exact ⟨e0, rfl, hh.1⟩
      | [], hh => exact hh.elim
      | _ :: _ :: _, hh => exact hh.2.elim
    have hel := qq.os.vec.1 e0 (by rw [hoe]; simp)
    obtain ⟨d, u, he0⟩ : ∃ d u, e0 = [d, u] := by
      obtain ⟨d, u, _, _, h1, _⟩ := hz0
      exact ⟨d, u, h1⟩
    subst he0
    have hsl := qq.os.vec.sl
    rw [hoe] at hsl
    obtain ⟨i, o, ha, ht⟩ := hsl.ia (H' := F) (i := 0) (e := [d, u]) rfl .i64
    have la := ht.lda (n := 2) rfl
    obtain ⟨G2, hx2, hw2, ht2, c1, c2⟩ := x_copy (Ext.refl F) wF (z := [.nils, .nils]) (e := [d, u]) (n := 2) rfl rfl rfl hel.2
    have la2 := ht2.lda (n := 2) rfl
    have ha' : exec (.ia 2) [ov, .int .i64 ((0 : Nat) : Int)] F = some (.ptr i o, F) := ha
    simp (maxSteps := 1000000) (implicitDefEqProofs := false) only [stp, if_true, if_false, Int.reduceEq, Int.reduceLT, Int.reduceLE, Int.reduceGT, Int.reduceGE, reduceCtorEq, Nat.reduceEqDiff, List.getElem?_cons_zero, List.getElem?_cons_succ, Option.map_some, ha', la, c1, c2, la2]
    refine SCalls.mono (keep_calls (q.grow hx2) (hz0.step (hx2.toM M) (MGrow.refl M F)) hel.2 hl hm hmb) ?_
    rintro _ G3 ⟨w3, hS3⟩
    simp (maxSteps := 1000000) (implicitDefEqProofs := false) only [stp, if_true, if_false, Int.reduceEq, Int.reduceLT, Int.reduceLE, Int.reduceGT, Int.reduceGE, reduceCtorEq, Nat.reduceEqDiff, List.getElem?_cons_zero, List.getElem?_cons_succ, Option.map_some, if_true]
    refine ⟨(), ⟨w3, ?_, fun e => absurd e (by decide)⟩, .cons rfl (.cons rfl (.cons rfl (.cons rfl .nil)))⟩
    have : endU h.max h.undo (h.own.take (0 + 1)) = keepL h.max (h.undo ++ [g0]) := by rw [hown]; rfl
    rw [this]
    exact HistD.before hx2 hS3 fun j e => q.mb e
  rintro _ F ⟨wF, hSF, _⟩
  rw [List.take_length] at hSF
  obtain ⟨M1, q1, e1, g1⟩ := hSF
  obtain ⟨H1, H', s1, s2, w', hS'⟩ := q1.setOpen wF false
  simp (maxSteps := 1000000) (implicitDefEqProofs := false) only [stp, if_true, if_false, Int.reduceEq, Int.reduceLT, Int.reduceLE, Int.reduceGT, Int.reduceGE, reduceCtorEq, Nat.reduceEqDiff, List.getElem?_cons_zero, List.getElem?_cons_succ, Option.map_some, s1, s2]
  refine ⟨w', by trivial, ?_⟩
  exact HistS.then ⟨M1, q1, e1, g1⟩ fun M' q' => by
    obtain ⟨H1', H'', t1, t2, _, hS''⟩ := q'.setOpen wF false
    rw [s1] at t1
    cases t1
    rw [s2] at t2
    cases t2
    exact hS''
section
variable {H0 G : Heap} {M : Nat → Prop} {p : Nat} {s : V} {h : HistC} {ks : List KeyA}
theorem HistT.pushO (t : HistT H0 G M p s h) (hU : ValidIs vU) (hT : Tabs H0) (hs : Sch H0 s ks) (hop : h.opened = true) (hol : h.own.length ≤ 1) {x y : V} {os us : List OpA} (hx : OpsIn G x os) (hy : OpsIn G y us)
    (hc : ∀ g0, h.own = [g0] → CanC vU ks g0.dn (os.map OpA.con) ∧ CanC vU ks (us.map OpA.con) g0.un) :
    SCalls PP 13 [.ptr p 0, x, y] G fun r G' => r = .int .i64 0 ∧ ∃ M', HistT H0 G' M' p s { h with own := [withG ks h.own ⟨os.map OpA.con, us.map OpA.con⟩], redo := [] } ∧ Nx M G M' G' :=
  SCalls.mono (Fw.pushO hU t.d (hT.ext t.ext) (hs.ext t.ext) hop hol hx hy hc) fun r G' ⟨w, e, M', d, e', g⟩ => ⟨e, M', t.next w d e' g⟩
theorem HistT.endO (t : HistT H0 G M p s h) (ho : h.opened = true) (hol : h.own.length ≤ 1) (hl : h.undo.length + 1 ≤ big) (hm : 0 ≤ h.max) (hmb : h.max ≤ 65536) :
    SCalls PP 24 [.ptr p 0] G fun r G' => r = .int .i64 0 ∧ ∃ M', HistT H0 G' M' p s { h with undo := endU h.max h.undo h.own, opened := false, own := [] } ∧ Nx M G M' G' :=
  SCalls.mono (endH_ok t.d ho hol hl hm hmb) fun r G' ⟨w, e, M', d, e', g⟩ => ⟨e, M', t.next w d e' g⟩
end
end Go.Proofs.YtkmaikggdbielaaGreatDoor.Fw

/- HistoryBrackets: the walk. No condition but what utf8.Valid answers, which is a hypothesis here. -/
namespace Go.Proofs.YtkmaikggdbielaaGreatDoor.Fw
open Go
set_option linter.unusedSimpArgs false
set_option linter.unusedVariables false
variable {vU : ByteArray → Bool}

/-! ### The bracket's group -/
abbrev insK (k : Nat) : OpC := ⟨2, 0, List.replicate k 120, [], []⟩
abbrev eG (k : Nat) : GrpC := ⟨[insK k], [delC1 k]⟩
def brk : Nat → List GrpC
  | 0 => []
  | k + 1 => [withG [] (brk k) gX]
theorem nine {P : Nat → Prop} (h1 : P 1) (h2 : P 2) (h3 : P 3) (h4 : P 4) (h5 : P 5) (h6 : P 6) (h7 : P 7) (h8 : P 8) : ∀ k, 1 ≤ k → k ≤ 8 → P k := by
  intro k a b
  have : k = 1 ∨ k = 2 ∨ k = 3 ∨ k = 4 ∨ k = 5 ∨ k = 6 ∨ k = 7 ∨ k = 8 := by omega
  rcases this with rfl | rfl | rfl | rfl | rfl | rfl | rfl | rfl <;> assumption
theorem brk_dn : ∀ k, 1 ≤ k → k ≤ 8 → composeF [] [insK k] [insC 120] = [insK (k + 1)] := by
  refine nine ?_ ?_ ?_ ?_ ?_ ?_ ?_ ?_ <;> kernel_rfl
theorem brk_un : ∀ k, 1 ≤ k → k ≤ 8 → composeF [] [delC1 1] [delC1 (k : Nat)] = [delC1 (k + 1 : Nat)] := by
  refine nine ?_ ?_ ?_ ?_ ?_ ?_ ?_ ?_ <;> kernel_rfl
theorem may_ins : ∀ k, 1 ≤ k → k ≤ 8 → opsMayC vU [] [insK k] = 0 := by
  refine nine ?_ ?_ ?_ ?_ ?_ ?_ ?_ ?_ <;> rfl
theorem may_del : ∀ k, 1 ≤ k → k ≤ 8 → opsMayC vU [] [delC1 (k : Nat)] = 0 := by
  refine nine ?_ ?_ ?_ ?_ ?_ ?_ ?_ ?_ <;> rfl
theorem brk_eq : ∀ k, k + 1 ≤ 9 → brk (k + 1) = [eG (k + 1)]
  | 0, _ => rfl
  | k + 1, h => by
    have ih := brk_eq k (by omega)
    show [withG [] (brk (k + 1)) gX] = _
    rw [ih]
    simp only [withG]
    rw [brk_dn (k + 1) (by omega) (by omega)]
    have := brk_un (k + 1) (by omega) (by omega)
    rw [show ([delC1 1] : List OpC) = [delC1 1] from rfl] at this
    exact congrArg (fun l => [(⟨[insK (k + 1 + 1)], l⟩ : GrpC)]) this
theorem can_dn (k : Nat) (h1 : 1 ≤ k) (h2 : k ≤ 8) : CanC vU [] [insK k] [insC 120] := by
  refine ⟨may_ins k h1 h2, may_ins 1 (by omega) (by omega), ?_, ?_, ?_⟩
  · simp only [RdC.W, wtC, List.length_replicate, List.length_cons, List.length_nil, List.map_nil, List.sum_nil, if_true]; omega
  · rw [brk_dn k h1 h2]; simp [takesC]
  · rw [brk_dn k h1 h2]
    simp only [makesC, List.length_replicate, if_true]
    rw [if_neg (by decide), wrap_i64 (by omega) (by omega)]
    omega
theorem can_un (k : Nat) (h1 : 1 ≤ k) (h2 : k ≤ 8) : CanC vU [] [delC1 1] [delC1 (k : Nat)] := by
  refine ⟨may_del 1 (by omega) (by omega), may_del k h1 h2, ?_, ?_, ?_⟩
  · simp [RdC.W, wtC]
  · rw [brk_un k h1 h2]
    simp only [takesC]
    rw [if_neg (by decide), wrap_i64 (by omega) (by omega)]
    omega
  · rw [brk_un k h1 h2]; simp [makesC]
theorem brk_can (k : Nat) (hk : k + 1 ≤ 9) : ∀ g0, brk k = [g0] → CanC vU [] g0.dn gX.dn ∧ CanC vU [] gX.un g0.un := by
  intro g0 e
  cases k with
  | zero => cases e
  | succ k =>
    rw [brk_eq k (by omega)] at e
    cases e
    exact ⟨can_dn (k + 1) (by omega) (by omega), can_un (k + 1) (by omega) (by omega)⟩
theorem brk_len (k : Nat) : (brk k).length ≤ 1 := by cases k <;> simp [brk]
end Go.Proofs.YtkmaikggdbielaaGreatDoor.Fw

/- HistoryBrackets: the walk. No condition. -/
namespace Go.Proofs.YtkmaikggdbielaaGreatDoor.Fw
open Go
set_option linter.unusedSimpArgs false
set_option linter.unusedVariables false

section
variable {H0 G : Heap} {M : Nat → Prop} {p hb : Nat} {s : V} {h : HistC}
set_option maxRecDepth 20000 in
theorem pushXc (t : HistT H0 G M p s h) (hbx : At G hb 0 [.ptr p 0]) (hm : ¬ M hb) (ho : h.opened = false) (hl : h.undo.length + 1 ≤ big) (hmx : 0 ≤ h.max) (hmb : h.max ≤ 65536) :
    SCalls PP 30 [.ptr hb 0] G fun r G' => r = .bool true ∧ ∃ M', HistT H0 G' M' p s { h with undo := keepL h.max (h.undo ++ [gX]), redo := [] } ∧ Nx M G M' G' := by
  refine SCalls.go c30 (by simp [fn30]) fun hw => ?_
  simp (maxSteps := 1000000) (implicitDefEqProofs := false) only [stp, if_true, if_false, Int.reduceEq, Int.reduceLT, Int.reduceLE, Int.reduceGT, Int.reduceGE, reduceCtorEq, Nat.reduceEqDiff, List.getElem?_cons_zero, List.getElem?_cons_succ, Option.map_some, fn30, enterFr, List.length, List.range, List.range.loop, List.zip, List.zipWith]
  refine SCalls.mono (inT 120 M G (fun j e => t.d.mb e)) ?_
  rintro _ G1 ⟨w1, x1, xv, yv, o, u, rfl, fx, fy, c1, c2⟩
  have t1 := t.grow x1 w1
  have l := (hbx.ext x1).ld (j := 0) (v := .ptr p 0) rfl 1
  rw [Nat.add_zero] at l
  simp (maxSteps := 1000000) (implicitDefEqProofs := false) only [stp, if_true, if_false, Int.reduceEq, Int.reduceLT, Int.reduceLE, Int.reduceGT, Int.reduceGE, reduceCtorEq, Nat.reduceEqDiff, List.getElem?_cons_zero, List.getElem?_cons_succ, Option.map_some, l]
  refine SCalls.mono (t1.push ho fx.here fy.here hl hmx hmb) ?_
  rintro _ G2 ⟨rfl, M2, t2, n2⟩
  simp only [List.map_cons, List.map_nil, c1, c2] at t2
  simp (maxSteps := 1000000) (implicitDefEqProofs := false) only [stp, if_true, if_false, Int.reduceEq, Int.reduceLT, Int.reduceLE, Int.reduceGT, Int.reduceGE, reduceCtorEq, Nat.reduceEqDiff, List.getElem?_cons_zero, List.getElem?_cons_succ, Option.map_some, if_true]
  exact ⟨by trivial, M2, t2, (Nx.ofExt x1).trans n2⟩
set_option maxRecDepth 20000 in
theorem pushXo (t : HistT H0 G M p s h) (hT : Tabs H0) (hs : Sch H0 s []) (hbx : At G hb 0 [.ptr p 0]) (hm : ¬ M hb) (ho : h.opened = true) {k : Nat} (hk : k + 1 ≤ 9) (hown : h.own = brk k) :
    SCalls PP 30 [.ptr hb 0] G fun r G' => r = .bool true ∧ ∃ M', HistT H0 G' M' p s { h with own := brk (k + 1), redo := [] } ∧ Nx M G M' G' := by
  refine SCalls.go c30 (by simp [fn30]) fun hw => ?_
  simp (maxSteps := 1000000) (implicitDefEqProofs := false) only [stp, if_true, if_false, Int.reduceEq, Int.reduceLT, Int.reduceLE, Int.reduceGT, Int.reduceGE, reduceCtorEq, Nat.reduceEqDiff, List.getElem?_cons_zero, List.getElem?_cons_succ, Option.map_some, fn30, enterFr, List.length, List.range, List.range.loop, List.zip, List.zipWith]
  refine SCalls.mono (inT 120 M G (fun j e => t.d.mb e)) ?_
  rintro _ G1 ⟨w1, x1, xv, yv, o, u, rfl, fx, fy, c1, c2⟩
  have t1 := t.grow x1 w1
  have l := (hbx.ext x1).ld (j := 0) (v := .ptr p 0) rfl 1
  rw [Nat.add_zero] at l
  simp (maxSteps := 1000000) (implicitDefEqProofs := false) only [stp, if_true, if_false, Int.reduceEq, Int.reduceLT, Int.reduceLE, Int.reduceGT, Int.reduceGE, reduceCtorEq, Nat.reduceEqDiff, List.getElem?_cons_zero, List.getElem?_cons_succ, Option.map_some, l]
  refine SCalls.mono (t1.pushO validIs hT hs ho (by rw [hown]; exact brk_len k) fx.here fy.here (fun g0 e => by
    rw [hown] at e
    simp only [List.map_cons, List.map_nil, c1, c2]
    exact brk_can k hk g0 e)) ?_
  rintro _ G2 ⟨rfl, M2, t2, n2⟩
  simp only [List.map_cons, List.map_nil, c1, c2, hown] at t2
  simp (maxSteps := 1000000) (implicitDefEqProofs := false) only [stp, if_true, if_false, Int.reduceEq, Int.reduceLT, Int.reduceLE, Int.reduceGT, Int.reduceGE, reduceCtorEq, Nat.reduceEqDiff, List.getElem?_cons_zero, List.getElem?_cons_succ, Option.map_some, if_true]
  exact ⟨by trivial, M2, t2, (Nx.ofExt x1).trans n2⟩
end
theorem keepL_repN (mx n : Nat) (g : GrpC) : keepL (mx : Nat) (List.replicate n g) = List.replicate (min n mx) g := by
  unfold keepL
  rw [List.length_replicate, List.drop_replicate]
  congr 1
  omega
theorem keepL_step (mx k : Nat) (g : GrpC) : keepL (mx : Nat) (List.replicate (min k mx) g ++ [g]) = List.replicate (min (k + 1) mx) g := by
  rw [← rep_snoc, keepL_repN]
  congr 1
  omega
theorem keepL_snoc {mx : Int} (h : 1 ≤ mx) (u : List GrpC) (g : GrpC) : ∃ u', keepL mx (u ++ [g]) = u' ++ [g] ∧ u'.length + 1 = min (u.length + 1) mx.toNat := by
  unfold keepL
  rw [List.length_append]
  simp only [List.length_cons, List.length_nil]
  refine ⟨u.drop (u.length + 1 - mx.toNat), ?_, ?_⟩
  · rw [List.drop_append_of_le_length (by omega)]
  · rw [List.length_drop]; omega
set_option maxRecDepth 40000 in
set_option maxHeartbeats 16000000 in
theorem historyBrackets_calls (n0 n1 n2 : Int) {H : Heap} (hT : Tabs H) : SCalls PP 7 [.int .i64 n0, .int .i64 n1, .int .i64 n2] H fun r H' => r = .bool true := by
  refine SCalls.go c7 (by simp [fn7]) fun hw => ?_
  by_cases hbad : n0 < 1 ∨ n0 > 100 ∨ n1 < 0 ∨ n1 > 9 ∨ n2 < 0 ∨ n2 > 9
  · have fin : ∀ K : V → Heap → Prop, (∀ G, K (.bool true) G) → SCalls PP 11 [] H K := fun K hK => SCalls.mono known_ok fun r G ⟨_, e⟩ => by rw [e]; exact hK G
    by_cases a1 : n0 < 1
    · simp (maxSteps := 1000000) (implicitDefEqProofs := false) only [stp, if_true, if_false, Int.reduceEq, Int.reduceLT, Int.reduceLE, Int.reduceGT, Int.reduceGE, reduceCtorEq, Nat.reduceEqDiff, List.getElem?_cons_zero, List.getElem?_cons_succ, Option.map_some, fn7, enterFr, List.length, List.range, List.range.loop, List.zip, List.zipWith, a1]
      refine fin _ fun G => ?_
      simp (maxSteps := 1000000) (implicitDefEqProofs := false) only [stp, if_true, if_false, Int.reduceEq, Int.reduceLT, Int.reduceLE, Int.reduceGT, Int.reduceGE, reduceCtorEq, Nat.reduceEqDiff, List.getElem?_cons_zero, List.getElem?_cons_succ, Option.map_some, if_true]
    by_cases a2 : n0 > 100
    · simp (maxSteps := 1000000) (implicitDefEqProofs := false) only [stp, if_true, if_false, Int.reduceEq, Int.reduceLT, Int.reduceLE, Int.reduceGT, Int.reduceGE, reduceCtorEq, Nat.reduceEqDiff, List.getElem?_cons_zero, List.getElem?_cons_succ, Option.map_some, fn7, enterFr, List.length, List.range, List.range.loop, List.zip, List.zipWith, a1, a2]
      refine fin _ fun G => ?_
      simp (maxSteps := 1000000) (implicitDefEqProofs := false) only [stp, if_true, if_false, Int.reduceEq, Int.reduceLT, Int.reduceLE, Int.reduceGT, Int.reduceGE, reduceCtorEq, Nat.reduceEqDiff, List.getElem?_cons_zero, List.getElem?_cons_succ, Option.map_some, if_true]
    by_cases a3 : n1 < 0
    · simp (maxSteps := 1000000) (implicitDefEqProofs := false) only [stp, if_true, if_false, Int.reduceEq, Int.reduceLT, Int.reduceLE, Int.reduceGT, Int.reduceGE, reduceCtorEq, Nat.reduceEqDiff, List.getElem?_cons_zero, List.getElem?_cons_succ, Option.map_some, fn7, enterFr, List.length, List.range, List.range.loop, List.zip, List.zipWith, a1, a2, a3]
      refine fin _ fun G => ?_
      simp (maxSteps := 1000000) (implicitDefEqProofs := false) only [stp, if_true, if_false, Int.reduceEq, Int.reduceLT, Int.reduceLE, Int.reduceGT, Int.reduceGE, reduceCtorEq, Nat.reduceEqDiff, List.getElem?_cons_zero, List.getElem?_cons_succ, Option.map_some, if_true]
    by_cases a4 : n1 > 9
    · simp (maxSteps := 1000000) (implicitDefEqProofs := false) only [stp, if_true, if_false, Int.reduceEq, Int.reduceLT, Int.reduceLE, Int.reduceGT, Int.reduceGE, reduceCtorEq, Nat.reduceEqDiff, List.getElem?_cons_zero, List.getElem?_cons_succ, Option.map_some, fn7, enterFr, List.length, List.range, List.range.loop, List.zip, List.zipWith, a1, a2, a3, a4]
      refine fin _ fun G => ?_
      simp (maxSteps := 1000000) (implicitDefEqProofs := false) only [stp, if_true, if_false, Int.reduceEq, Int.reduceLT, Int.reduceLE, Int.reduceGT, Int.reduceGE, reduceCtorEq, Nat.reduceEqDiff, List.getElem?_cons_zero, List.getElem?_cons_succ, Option.map_some, if_true]
    by_cases a5 : n2 < 0
    · simp (maxSteps := 1000000) (implicitDefEqProofs := false) only [stp, if_true, if_false, Int.reduceEq, Int.reduceLT, Int.reduceLE, Int.reduceGT, Int.reduceGE, reduceCtorEq, Nat.reduceEqDiff, List.getElem?_cons_zero, List.getElem?_cons_succ, Option.map_some, fn7, enterFr, List.length, List.range, List.range.loop, List.zip, List.zipWith, a1, a2, a3, a4, a5]
      refine fin _ fun G => ?_
      simp (maxSteps := 1000000) (implicitDefEqProofs := false) only [stp, if_true, if_false, Int.reduceEq, Int.reduceLT, Int.reduceLE, Int.reduceGT, Int.reduceGE, reduceCtorEq, Nat.reduceEqDiff, List.getElem?_cons_zero, List.getElem?_cons_succ, Option.map_some, if_true]
    have a6 : n2 > 9 := by omega
    simp (maxSteps := 1000000) (implicitDefEqProofs := false) only [stp, if_true, if_false, Int.reduceEq, Int.reduceLT, Int.reduceLE, Int.reduceGT, Int.reduceGE, reduceCtorEq, Nat.reduceEqDiff, List.getElem?_cons_zero, List.getElem?_cons_succ, Option.map_some, fn7, enterFr, List.length, List.range, List.range.loop, List.zip, List.zipWith, a1, a2, a3, a4, a5, a6]
    refine fin _ fun G => ?_
    simp (maxSteps := 1000000) (implicitDefEqProofs := false) only [stp, if_true, if_false, Int.reduceEq, Int.reduceLT, Int.reduceLE, Int.reduceGT, Int.reduceGE, reduceCtorEq, Nat.reduceEqDiff, List.getElem?_cons_zero, List.getElem?_cons_succ, Option.map_some, if_true]
  obtain ⟨mx, rfl⟩ : ∃ n : Nat, n0 = n := ⟨n0.toNat, by omega⟩
  obtain ⟨ah, rfl⟩ : ∃ n : Nat, n1 = n := ⟨n1.toNat, by omega⟩
  obtain ⟨wi, rfl⟩ : ∃ n : Nat, n2 = n := ⟨n2.toNat, by omega⟩
  have a1 : ¬ (mx : Int) < 1 := by omega
  have a2 : ¬ (mx : Int) > 100 := by omega
  have a3 : ¬ (ah : Int) < 0 := by omega
  have a4 : ¬ (ah : Int) > 9 := by omega
  have a5 : ¬ (wi : Int) < 0 := by omega
  have a6 : ¬ (wi : Int) > 9 := by omega
  simp (maxSteps := 1000000) (implicitDefEqProofs := false) only [stp, if_true, if_false, Int.reduceEq, Int.reduceLT, Int.reduceLE, Int.reduceGT, Int.reduceGE, reduceCtorEq, Nat.reduceEqDiff, List.getElem?_cons_zero, List.getElem?_cons_succ, Option.map_some, fn7, enterFr, List.length, List.range, List.range.loop, List.zip, List.zipWith, a1, a2, a3, a4, a5, a6]
  refine SCalls.mono (newNoKeysS H) ?_
  rintro _ G0 ⟨hw0, hx0, sid, rfl, hs⟩
  simp (maxSteps := 1000000) (implicitDefEqProofs := false) only [stp, if_true, if_false, Int.reduceEq, Int.reduceLT, Int.reduceLE, Int.reduceGT, Int.reduceGE, reduceCtorEq, Nat.reduceEqDiff, List.getElem?_cons_zero, List.getElem?_cons_succ, Option.map_some, if_true]
  refine SCalls.mono (newT (s := .ptr sid 0) ⟨rfl, rfl⟩ (mx := (mx : Int)) (by omega) (by omega)) ?_
  rintro _ G1 ⟨p, rfl, t1⟩
  -- the box of the history
  have al := x_alloc G1 [.nilp] rfl
  have xb : Ext G1 (G1.new (.row false 1 [.nilp])) := (Ext.refl G1).new _
  have wb : WF (G1.new (.row false 1 [.nilp])) := t1.wf.new _
  have gb := new_get G1 (.row false 1 [.nilp])
  have nb : (G1.new (.row false 1 [.nilp])).next = G1.next + 1 := rfl
  rw [show ([V.nilp] : List V).length = 1 from rfl] at al
  generalize G1.new (.row false 1 [.nilp]) = G2 at *
  obtain ⟨G3, st3, w3, g3, n3, gn3, k3⟩ := st_row wb (p := G1.next) (k := 0) (v := .ptr p 0) (c' := [.ptr p 0]) gb (by simp) rfl rfl rfl
  have x13 : Ext G1 G3 := ⟨gn3.trans xb.gn, by omega, fun j hj => by rw [k3 j (by omega), xb.get j hj]⟩
  have hat3 : At G3 G1.next 0 [.ptr p 0] := ⟨by omega, false, 1, _, g3, by simp, fun j v hj => by rw [Nat.zero_add]; exact hj⟩
  have t3 := t1.grow x13 w3
  have hpl := t1.d.mb (j := p) rfl
  have hTG := hT.ext hx0
  have bz : Fz (fun j => j = p) G3 fun F => At F G1.next 0 [.ptr p 0] := fun F hF => hat3.extM hF (by omega)
  have nM : ∀ {M : Nat → Prop} {F : Heap}, Nx (fun j => j = p) G3 M F → ¬ M G1.next := fun q e => by
    rcases q.g _ e with k | k <;> omega
  generalize hhb : G1.next = hb at *
  have ldb : ∀ {M : Nat → Prop} {F : Heap}, (Fz M F fun F => At F hb 0 [.ptr p 0]) → exec (.ld 1) [.ptr hb 0] F = some (.ptr p 0, F) := fun q => by
    have := q.here.ld (j := 0) (v := .ptr p 0) rfl 1
    rwa [Nat.add_zero] at this
  have l3 := ldb bz
  have hne : exec (.eqnil 0 false) [.ptr p 0, .nilp] G3 = some (.bool false, G3) := rfl
  have hmk : exec (.mkfn (.func 30) 0) [.ptr hb 0] G3 = some (.fn (.func 30) [] [.ptr hb 0], G3) := rfl
  simp (maxSteps := 1000000) (implicitDefEqProofs := false) only [stp, if_true, if_false, Int.reduceEq, Int.reduceLT, Int.reduceLE, Int.reduceGT, Int.reduceGE, reduceCtorEq, Nat.reduceEqDiff, List.getElem?_cons_zero, List.getElem?_cons_succ, Option.map_some, Bool.false_eq_true, al, st3, l3, hne, hmk]
  refine wp_range (len := ah) SCalls.scMono (by omega) (fun _ : Unit => [(0, .int .i64 (mx : Nat)), (1, .int .i64 (ah : Nat)), (2, .int .i64 (wi : Nat)), (9, .ptr hb 0), (11, .fn (.func 30) [] [.ptr hb 0])]) (fun k _ F => ∃ M, HistT G0 F M p (.ptr sid 0) ⟨(mx : Nat), List.replicate (min k mx) gX, [], false, []⟩ ∧ Nx (fun j => j = p) G3 M F) () ⟨_, by simpa using t3, Nx.refl _ _⟩
    (.cons rfl (.cons rfl (.cons rfl (.cons rfl (.cons rfl (.cons rfl (.cons rfl .nil))))))) (by decide) (fun s => ⟨rfl, rfl, rfl⟩) ?_ ?_
  · rintro k _ F hk ⟨M, t, nx⟩
    simp (maxSteps := 1000000) (implicitDefEqProofs := false) only [stp, if_true, if_false, Int.reduceEq, Int.reduceLT, Int.reduceLE, Int.reduceGT, Int.reduceGE, reduceCtorEq, Nat.reduceEqDiff, List.getElem?_cons_zero, List.getElem?_cons_succ, Option.map_some, List.nil_append, List.cons_append]
    refine SCalls.mono (pushXc t (nx.fz bz).here (nM nx) rfl (by simp only [List.length_replicate, big]; omega) (show (0 : Int) ≤ (mx : Nat) by omega) (show ((mx : Nat) : Int) ≤ 65536 by omega)) ?_
    rintro _ F2 ⟨rfl, M2, t2, n2⟩
    simp (maxSteps := 1000000) (implicitDefEqProofs := false) only [stp, if_true, if_false, Int.reduceEq, Int.reduceLT, Int.reduceLE, Int.reduceGT, Int.reduceGE, reduceCtorEq, Nat.reduceEqDiff, List.getElem?_cons_zero, List.getElem?_cons_succ, Option.map_some, Bool.not_true, Bool.false_eq_true]
    simp only at t2
    rw [keepL_step] at t2
    exact ⟨(), ⟨M2, t2, nx.trans n2⟩, .cons rfl (.cons rfl (.cons rfl (.cons rfl (.cons rfl (.cons rfl (.cons rfl .nil))))))⟩
  rintro _ F ⟨M, t, nx⟩
  obtain ⟨b, hbd⟩ : ∃ b, b = min ah 1 := ⟨_, rfl⟩
  have hb1 : b ≤ min ah mx := by omega
  have und : SCalls PP 14 [.ptr p 0] F fun r F' => ∃ M' x e, r = .tup [x, .int .i64 e] ∧ HistT G0 F' M' p (.ptr sid 0) ⟨(mx : Nat), List.replicate (min ah mx - b) gX, List.replicate b gX, false, []⟩ ∧ Nx (fun j => j = p) G3 M' F' ∧ ((b = 0 ∧ e = 10) ∨ (b = 1 ∧ e = 0)) := by
    rcases Nat.eq_zero_or_pos ah with hz | hz
    · have e0 : b = 0 := by omega
      have e1 : min ah mx = 0 := by omega
      refine SCalls.mono (t.undoNo (.inr (by simp only [e1]; rfl))) ?_
      rintro _ F' ⟨x, rfl, t', xx, _⟩
      refine ⟨M, x, _, rfl, ?_, nx.trans (Nx.ofExt xx), .inl ⟨e0, rfl⟩⟩
      rw [e0, e1] at *
      exact t'
    · have e0 : b = 1 := by omega
      refine SCalls.mono (t.undo (gi := List.replicate (min ah mx - 1) gX) (g := gX) rfl (show List.replicate (min ah mx) gX = _ by rw [← rep_snoc]; congr 1; omega) (by simp only [List.length_replicate, big]; omega) (by simp [big])) ?_
      rintro _ F' ⟨M', x, os, rfl, t', nx', _, _⟩
      refine ⟨M', x, 0, rfl, ?_, nx.trans nx', .inr ⟨e0, rfl⟩⟩
      rw [e0]
      exact t'
  have lF := ldb (nx.fz bz)
  simp (maxSteps := 1000000) (implicitDefEqProofs := false) only [stp, if_true, if_false, Int.reduceEq, Int.reduceLT, Int.reduceLE, Int.reduceGT, Int.reduceGE, reduceCtorEq, Nat.reduceEqDiff, List.getElem?_cons_zero, List.getElem?_cons_succ, Option.map_some, if_true, lF]
  refine SCalls.mono und ?_
  rintro _ F2 ⟨M2, x2, e2, rfl, t2, nx2, hbe⟩
  have lF2 := ldb (nx2.fz bz)
  rcases hbe with ⟨hb0, rfl⟩ | ⟨hb0, rfl⟩
  · have hbI : ((b : Nat) : Int) = 0 := by omega
    simp (maxSteps := 1000000) (implicitDefEqProofs := false) only [stp, if_true, if_false, Int.reduceEq, Int.reduceLT, Int.reduceLE, Int.reduceGT, Int.reduceGE, reduceCtorEq, Nat.reduceEqDiff, List.getElem?_cons_zero, List.getElem?_cons_succ, Option.map_some, lF2]
    refine SCalls.mono (depthsH t2.d.toI) ?_
    rintro _ F2 ⟨rfl, rfl⟩
    have hmn := x_mnN ah mx F2
    have hv : (((List.replicate b gX).length : Nat) : Int) = 0 := by rw [List.length_replicate]; exact hbI
    have hu : (((List.replicate (min ah mx - b) gX).length : Nat) : Int) = ((min ah mx - b : Nat) : Int) := by rw [List.length_replicate]
    have hsb : IntKind.i64.wrap (((min ah mx : Nat) : Int) - 0) = ((min ah mx - b : Nat) : Int) := by rw [wrap_i64 (by omega) (by omega)]; omega
    simp (maxSteps := 1000000) (implicitDefEqProofs := false) only [stp, if_true, if_false, Int.reduceEq, Int.reduceLT, Int.reduceLE, Int.reduceGT, Int.reduceGE, reduceCtorEq, Nat.reduceEqDiff, List.getElem?_cons_zero, List.getElem?_cons_succ, Option.map_some, hv, hu, hmn, hsb, lF2]
    refine SCalls.mono (t2.begin rfl) ?_
    rintro _ F4 ⟨rfl, M4, t4, n4⟩
    have nx4 := nx2.trans n4
    simp (maxSteps := 1000000) (implicitDefEqProofs := false) only [stp, if_true, if_false, Int.reduceEq, Int.reduceLT, Int.reduceLE, Int.reduceGT, Int.reduceGE, reduceCtorEq, Nat.reduceEqDiff, List.getElem?_cons_zero, List.getElem?_cons_succ, Option.map_some, Bool.false_eq_true]
    refine wp_range (len := wi) SCalls.scMono (by omega) (fun _ : Unit => [(0, .int .i64 (mx : Nat)), (1, .int .i64 (ah : Nat)), (2, .int .i64 (wi : Nat)), (9, .ptr hb 0), (11, .fn (.func 30) [] [.ptr hb 0]), (15, .int .i64 ((min ah mx - b : Nat) : Int)), (16, .int .i64 0)]) (fun k _ F => ∃ M, HistT G0 F M p (.ptr sid 0) ⟨(mx : Nat), List.replicate (min ah mx - b) gX, if k = 0 then List.replicate b gX else [], true, brk k⟩ ∧ Nx (fun j => j = p) G3 M F) () ⟨_, by simpa [brk] using t4, nx4⟩
      (.cons rfl (.cons rfl (.cons rfl (.cons rfl (.cons rfl (.cons rfl (.cons rfl (.cons rfl (.cons rfl .nil))))))))) (by decide) (fun s => ⟨rfl, rfl, rfl⟩) ?_ ?_
    · rintro k _ F hk ⟨M, t, nx⟩
      simp (maxSteps := 1000000) (implicitDefEqProofs := false) only [stp, if_true, if_false, Int.reduceEq, Int.reduceLT, Int.reduceLE, Int.reduceGT, Int.reduceGE, reduceCtorEq, Nat.reduceEqDiff, List.getElem?_cons_zero, List.getElem?_cons_succ, Option.map_some, List.nil_append, List.cons_append]
      refine SCalls.mono (pushXo t hTG hs (nx.fz bz).here (nM nx) rfl (k := k) (by omega) rfl) ?_
      rintro _ F2 ⟨rfl, M2, t2, n2⟩
      simp (maxSteps := 1000000) (implicitDefEqProofs := false) only [stp, if_true, if_false, Int.reduceEq, Int.reduceLT, Int.reduceLE, Int.reduceGT, Int.reduceGE, reduceCtorEq, Nat.reduceEqDiff, List.getElem?_cons_zero, List.getElem?_cons_succ, Option.map_some, Bool.not_true, Bool.false_eq_true]
      refine ⟨(), ⟨M2, ?_, nx.trans n2⟩, .cons rfl (.cons rfl (.cons rfl (.cons rfl (.cons rfl (.cons rfl (.cons rfl (.cons rfl (.cons rfl .nil))))))))⟩
      exact t2
    rintro _ F5 ⟨M5, t5, nx5⟩
    have l5 := ldb (nx5.fz bz)
    simp (maxSteps := 1000000) (implicitDefEqProofs := false) only [stp, if_true, if_false, Int.reduceEq, Int.reduceLT, Int.reduceLE, Int.reduceGT, Int.reduceGE, reduceCtorEq, Nat.reduceEqDiff, List.getElem?_cons_zero, List.getElem?_cons_succ, Option.map_some, if_true, l5]
    refine SCalls.mono (t5.undoNo (.inl rfl)) ?_
    rintro _ F6 ⟨x6, rfl, t6, e6, _⟩
    have nx6 := nx5.trans (Nx.ofExt e6)
    have l6 := ldb (nx6.fz bz)
    simp (maxSteps := 1000000) (implicitDefEqProofs := false) only [stp, if_true, if_false, Int.reduceEq, Int.reduceLT, Int.reduceLE, Int.reduceGT, Int.reduceGE, reduceCtorEq, Nat.reduceEqDiff, List.getElem?_cons_zero, List.getElem?_cons_succ, Option.map_some, if_true, l6]
    refine SCalls.mono (t6.redoNo (.inl rfl)) ?_
    rintro _ F7 ⟨x7, rfl, t7, e7, _⟩
    have nx7 := nx6.trans (Nx.ofExt e7)
    have l7 := ldb (nx7.fz bz)
    simp (maxSteps := 1000000) (implicitDefEqProofs := false) only [stp, if_true, if_false, Int.reduceEq, Int.reduceLT, Int.reduceLE, Int.reduceGT, Int.reduceGE, reduceCtorEq, Nat.reduceEqDiff, List.getElem?_cons_zero, List.getElem?_cons_succ, Option.map_some, if_true, l7]
    refine SCalls.mono (t7.endO rfl (brk_len wi) (by simp only [List.length_replicate, big]; omega) (show (0 : Int) ≤ (mx : Nat) by omega) (show ((mx : Nat) : Int) ≤ 65536 by omega)) ?_
    rintro _ F8 ⟨rfl, M8, t8, n8⟩
    have nx8 := nx7.trans n8
    have l8 := ldb (nx8.fz bz)
    simp only at t8
    simp (maxSteps := 1000000) (implicitDefEqProofs := false) only [stp, if_true, if_false, Int.reduceEq, Int.reduceLT, Int.reduceLE, Int.reduceGT, Int.reduceGE, reduceCtorEq, Nat.reduceEqDiff, List.getElem?_cons_zero, List.getElem?_cons_succ, Option.map_some, Bool.false_eq_true, l8]
    refine SCalls.mono (endH_no t8.d rfl) ?_
    rintro _ F8 ⟨rfl, rfl⟩
    have l8 := ldb (nx8.fz bz)
    simp (maxSteps := 1000000) (implicitDefEqProofs := false) only [stp, if_true, if_false, Int.reduceEq, Int.reduceLT, Int.reduceLE, Int.reduceGT, Int.reduceGE, reduceCtorEq, Nat.reduceEqDiff, List.getElem?_cons_zero, List.getElem?_cons_succ, Option.map_some, Bool.false_eq_true, l8]
    refine SCalls.mono (depthsH t8.d.toI) ?_
    rintro _ F8 ⟨rfl, rfl⟩
    have l8 := ldb (nx8.fz bz)
    have fin : ∀ (F : Heap) (K : V → Heap → Prop), (∀ G, K (.bool true) G) → SCalls PP 11 [] F K := fun F K hK => SCalls.mono known_ok fun r G ⟨_, e⟩ => by rw [e]; exact hK G
    by_cases hwi : wi = 0
    · have hw0 : ((wi : Nat) : Int) = 0 := by omega
      have e1 : ((endU (mx : Nat) (List.replicate (min ah mx - b) gX) (brk wi)).length : Int) = ((min ah mx - b : Nat) : Int) := by rw [hwi]; simp [endU, brk]
      have e2 : (((if wi = 0 then List.replicate b gX else [] : List GrpC)).length : Int) = 0 := by rw [if_pos hwi]; exact hv
      simp (maxSteps := 1000000) (implicitDefEqProofs := false) only [stp, if_true, if_false, Int.reduceEq, Int.reduceLT, Int.reduceLE, Int.reduceGT, Int.reduceGE, reduceCtorEq, Nat.reduceEqDiff, List.getElem?_cons_zero, List.getElem?_cons_succ, Option.map_some, e1, e2, hw0]
      refine fin _ _ fun G => ?_
      simp (maxSteps := 1000000) (implicitDefEqProofs := false) only [stp, if_true, if_false, Int.reduceEq, Int.reduceLT, Int.reduceLE, Int.reduceGT, Int.reduceGE, reduceCtorEq, Nat.reduceEqDiff, List.getElem?_cons_zero, List.getElem?_cons_succ, Option.map_some, if_true]
    · have hw0 : ¬ ((wi : Nat) : Int) = 0 := by omega
      obtain ⟨w', rfl⟩ : ∃ w', wi = w' + 1 := ⟨wi - 1, by omega⟩
      obtain ⟨u', hu', hul⟩ := keepL_snoc (mx := ((mx : Nat) : Int)) (by omega) (List.replicate (min ah mx - b) gX) (eG (w' + 1))
      rw [List.length_replicate] at hul
      have hend : endU (mx : Nat) (List.replicate (min ah mx - b) gX) (brk (w' + 1)) = u' ++ [eG (w' + 1)] := by rw [brk_eq w' (by omega)]; exact hu'
      rw [hend, if_neg hwi] at t8
      have e1 : ((endU (mx : Nat) (List.replicate (min ah mx - b) gX) (brk (w' + 1))).length : Int) = ((min (min ah mx - b + 1) mx : Nat) : Int) := by rw [hend, List.length_append]; simp only [List.length_cons, List.length_nil]; omega
      have e2 : (((if w' + 1 = 0 then List.replicate b gX else [] : List GrpC)).length : Int) = 0 := by rw [if_neg hwi]; rfl
      have hadd : IntKind.i64.wrap (((min ah mx - b : Nat) : Int) + 1) = ((min ah mx - b + 1 : Nat) : Int) := by rw [wrap_i64 (by omega) (by omega)]; omega
      have hmn2 := x_mnN (min ah mx - b + 1) mx F8
      simp (maxSteps := 1000000) (implicitDefEqProofs := false) only [stp, if_true, if_false, Int.reduceEq, Int.reduceLT, Int.reduceLE, Int.reduceGT, Int.reduceGE, reduceCtorEq, Nat.reduceEqDiff, List.getElem?_cons_zero, List.getElem?_cons_succ, Option.map_some, e1, e2, hw0, hadd, hmn2, l8, List.length_nil, Int.natCast_zero]
      refine SCalls.mono (t8.undo (gi := u') (g := eG (w' + 1)) rfl rfl (by simp only [List.length_append, List.length_cons, List.length_nil, big]; omega) (by simp [big])) ?_
      rintro _ F9 ⟨M9, x9, os9, rfl, t9, n9, f9, c9⟩
      obtain ⟨o9, rfl, c9'⟩ := con_one c9
      have hn9 : o9.n = ((w' + 1 : Nat) : Int) := congrArg OpC.n c9'
      have hx9 := f9.here
      have hl9 : ∀ F, exec .len [x9] F = some (.int .i64 1, F) := fun F => hx9.sl.len (H' := F)
      simp (maxSteps := 1000000) (implicitDefEqProofs := false) only [stp, if_true, if_false, Int.reduceEq, Int.reduceLT, Int.reduceLE, Int.reduceGT, Int.reduceGE, reduceCtorEq, Nat.reduceEqDiff, List.getElem?_cons_zero, List.getElem?_cons_succ, Option.map_some, hl9]
      refine wp_range (len := 1) SCalls.scMono (by omega) (fun acc : Int => [(25, .int .i64 acc), (174, x9), (24, .int .i64 0), (2, .int .i64 ((w' + 1 : Nat) : Int))]) (fun k acc F => WF F ∧ Ext F9 F ∧ acc = if k = 0 then 0 else ((w' + 1 : Nat) : Int)) 0 ⟨t9.wf, Ext.refl _, rfl⟩
        (.cons rfl (.cons rfl (.cons rfl (.cons rfl (.cons rfl (.cons rfl .nil)))))) (by decide) (fun s => ⟨rfl, rfl, rfl⟩) ?_ ?_
      · rintro k acc F hk ⟨wF, xF, hacc⟩
        obtain rfl : k = 0 := by omega
        rw [if_pos rfl] at hacc
        subst hacc
        obtain ⟨i1, o1, ha, ht⟩ := (hx9.sl.ext xF).ia (H' := F) (i := 0) (e := o9.cells) rfl .i64
        have ho := hx9.sl.1 o9.cells (by simp)
        obtain ⟨F2, xx2, ww2, tt2, cc1, cc2⟩ := x_copy (Ext.refl F) wF (z := zo) (e := o9.cells) (n := 5) rfl rfl rfl ho.2
        have la := ht.lda (n := 5) rfl
        have ln := tt2.ld (j := 1) (v := .int .i64 o9.n) rfl 1
        rw [hn9] at ln
        have hw3 : IntKind.i64.wrap (0 + ((w' + 1 : Nat) : Int)) = ((w' + 1 : Nat) : Int) := by rw [wrap_i64 (by omega) (by omega)]; omega
        simp (maxSteps := 1000000) (implicitDefEqProofs := false) only [stp, if_true, if_false, Int.reduceEq, Int.reduceLT, Int.reduceLE, Int.reduceGT, Int.reduceGE, reduceCtorEq, Nat.reduceEqDiff, List.getElem?_cons_zero, List.getElem?_cons_succ, Option.map_some, ha, la, cc1, cc2, ln, hw3]
        exact ⟨_, ⟨ww2, xF.trans xx2, rfl⟩, .cons rfl (.cons rfl (.cons rfl (.cons rfl (.cons rfl (.cons rfl .nil)))))⟩
      rintro acc F ⟨wF, xF, hacc⟩
      rw [if_neg (by decide)] at hacc
      subst hacc
      simp (maxSteps := 1000000) (implicitDefEqProofs := false) only [stp, if_true, if_false, Int.reduceEq, Int.reduceLT, Int.reduceLE, Int.reduceGT, Int.reduceGE, reduceCtorEq, Nat.reduceEqDiff, List.getElem?_cons_zero, List.getElem?_cons_succ, Option.map_some, if_true]
      refine fin _ _ fun G => ?_
      simp (maxSteps := 1000000) (implicitDefEqProofs := false) only [stp, if_true, if_false, Int.reduceEq, Int.reduceLT, Int.reduceLE, Int.reduceGT, Int.reduceGE, reduceCtorEq, Nat.reduceEqDiff, List.getElem?_cons_zero, List.getElem?_cons_succ, Option.map_some, if_true]
  · have hbI : ((b : Nat) : Int) = 1 := by omega
    simp (maxSteps := 1000000) (implicitDefEqProofs := false) only [stp, if_true, if_false, Int.reduceEq, Int.reduceLT, Int.reduceLE, Int.reduceGT, Int.reduceGE, reduceCtorEq, Nat.reduceEqDiff, List.getElem?_cons_zero, List.getElem?_cons_succ, Option.map_some, lF2]
    refine SCalls.mono (depthsH t2.d.toI) ?_
    rintro _ F2 ⟨rfl, rfl⟩
    have hmn := x_mnN ah mx F2
    have hv : (((List.replicate b gX).length : Nat) : Int) = 1 := by rw [List.length_replicate]; exact hbI
    have hu : (((List.replicate (min ah mx - b) gX).length : Nat) : Int) = ((min ah mx - b : Nat) : Int) := by rw [List.length_replicate]
    have hsb : IntKind.i64.wrap (((min ah mx : Nat) : Int) - 1) = ((min ah mx - b : Nat) : Int) := by rw [wrap_i64 (by omega) (by omega)]; omega
    simp (maxSteps := 1000000) (implicitDefEqProofs := false) only [stp, if_true, if_false, Int.reduceEq, Int.reduceLT, Int.reduceLE, Int.reduceGT, Int.reduceGE, reduceCtorEq, Nat.reduceEqDiff, List.getElem?_cons_zero, List.getElem?_cons_succ, Option.map_some, hv, hu, hmn, hsb, lF2]
    refine SCalls.mono (t2.begin rfl) ?_
    rintro _ F4 ⟨rfl, M4, t4, n4⟩
    have nx4 := nx2.trans n4
    simp (maxSteps := 1000000) (implicitDefEqProofs := false) only [stp, if_true, if_false, Int.reduceEq, Int.reduceLT, Int.reduceLE, Int.reduceGT, Int.reduceGE, reduceCtorEq, Nat.reduceEqDiff, List.getElem?_cons_zero, List.getElem?_cons_succ, Option.map_some, Bool.false_eq_true]
    refine wp_range (len := wi) SCalls.scMono (by omega) (fun _ : Unit => [(0, .int .i64 (mx : Nat)), (1, .int .i64 (ah : Nat)), (2, .int .i64 (wi : Nat)), (9, .ptr hb 0), (11, .fn (.func 30) [] [.ptr hb 0]), (15, .int .i64 ((min ah mx - b : Nat) : Int)), (16, .int .i64 1)]) (fun k _ F => ∃ M, HistT G0 F M p (.ptr sid 0) ⟨(mx : Nat), List.replicate (min ah mx - b) gX, if k = 0 then List.replicate b gX else [], true, brk k⟩ ∧ Nx (fun j => j = p) G3 M F) () ⟨_, by simpa [brk] using t4, nx4⟩
      (.cons rfl (.cons rfl (.cons rfl (.cons rfl (.cons rfl (.cons rfl (.cons rfl (.cons rfl (.cons rfl .nil))))))))) (by decide) (fun s => ⟨rfl, rfl, rfl⟩) ?_ ?_
    · rintro k _ F hk ⟨M, t, nx⟩
      simp (maxSteps := 1000000) (implicitDefEqProofs := false) only [stp, if_true, if_false, Int.reduceEq, Int.reduceLT, Int.reduceLE, Int.reduceGT, Int.reduceGE, reduceCtorEq, Nat.reduceEqDiff, List.getElem?_cons_zero, List.getElem?_cons_succ, Option.map_some, List.nil_append, List.cons_append]
      refine SCalls.mono (pushXo t hTG hs (nx.fz bz).here (nM nx) rfl (k := k) (by omega) rfl) ?_
      rintro _ F2 ⟨rfl, M2, t2, n2⟩
      simp (maxSteps := 1000000) (implicitDefEqProofs := false) only [stp, if_true, if_false, Int.reduceEq, Int.reduceLT, Int.reduceLE, Int.reduceGT, Int.reduceGE, reduceCtorEq, Nat.reduceEqDiff, List.getElem?_cons_zero, List.getElem?_cons_succ, Option.map_some, Bool.not_true, Bool.false_eq_true]
      refine ⟨(), ⟨M2, ?_, nx.trans n2⟩, .cons rfl (.cons rfl (.cons rfl (.cons rfl (.cons rfl (.cons rfl (.cons rfl (.cons rfl (.cons rfl .nil))))))))⟩
      exact t2
    rintro _ F5 ⟨M5, t5, nx5⟩
    have l5 := ldb (nx5.fz bz)
    simp (maxSteps := 1000000) (implicitDefEqProofs := false) only [stp, if_true, if_false, Int.reduceEq, Int.reduceLT, Int.reduceLE, Int.reduceGT, Int.reduceGE, reduceCtorEq, Nat.reduceEqDiff, List.getElem?_cons_zero, List.getElem?_cons_succ, Option.map_some, if_true, l5]
    refine SCalls.mono (t5.undoNo (.inl rfl)) ?_
    rintro _ F6 ⟨x6, rfl, t6, e6, _⟩
    have nx6 := nx5.trans (Nx.ofExt e6)
    have l6 := ldb (nx6.fz bz)
    simp (maxSteps := 1000000) (implicitDefEqProofs := false) only [stp, if_true, if_false, Int.reduceEq, Int.reduceLT, Int.reduceLE, Int.reduceGT, Int.reduceGE, reduceCtorEq, Nat.reduceEqDiff, List.getElem?_cons_zero, List.getElem?_cons_succ, Option.map_some, if_true, l6]
    refine SCalls.mono (t6.redoNo (.inl rfl)) ?_
    rintro _ F7 ⟨x7, rfl, t7, e7, _⟩
    have nx7 := nx6.trans (Nx.ofExt e7)
    have l7 := ldb (nx7.fz bz)
    simp (maxSteps := 1000000) (implicitDefEqProofs := false) only [stp, if_true, if_false, Int.reduceEq, Int.reduceLT, Int.reduceLE, Int.reduceGT, Int.reduceGE, reduceCtorEq, Nat.reduceEqDiff, List.getElem?_cons_zero, List.getElem?_cons_succ, Option.map_some, if_true, l7]
    refine SCalls.mono (t7.endO rfl (brk_len wi) (by simp only [List.length_replicate, big]; omega) (show (0 : Int) ≤ (mx : Nat) by omega) (show ((mx : Nat) : Int) ≤ 65536 by omega)) ?_
    rintro _ F8 ⟨rfl, M8, t8, n8⟩
    have nx8 := nx7.trans n8
    have l8 := ldb (nx8.fz bz)
    simp only at t8
    simp (maxSteps := 1000000) (implicitDefEqProofs := false) only [stp, if_true, if_false, Int.reduceEq, Int.reduceLT, Int.reduceLE, Int.reduceGT, Int.reduceGE, reduceCtorEq, Nat.reduceEqDiff, List.getElem?_cons_zero, List.getElem?_cons_succ, Option.map_some, Bool.false_eq_true, l8]
    refine SCalls.mono (endH_no t8.d rfl) ?_
    rintro _ F8 ⟨rfl, rfl⟩
    have l8 := ldb (nx8.fz bz)
    simp (maxSteps := 1000000) (implicitDefEqProofs := false) only [stp, if_true, if_false, Int.reduceEq, Int.reduceLT, Int.reduceLE, Int.reduceGT, Int.reduceGE, reduceCtorEq, Nat.reduceEqDiff, List.getElem?_cons_zero, List.getElem?_cons_succ, Option.map_some, Bool.false_eq_true, l8]
    refine SCalls.mono (depthsH t8.d.toI) ?_
    rintro _ F8 ⟨rfl, rfl⟩
    have l8 := ldb (nx8.fz bz)
    have fin : ∀ (F : Heap) (K : V → Heap → Prop), (∀ G, K (.bool true) G) → SCalls PP 11 [] F K := fun F K hK => SCalls.mono known_ok fun r G ⟨_, e⟩ => by rw [e]; exact hK G
    by_cases hwi : wi = 0
    · have hw0 : ((wi : Nat) : Int) = 0 := by omega
      have e1 : ((endU (mx : Nat) (List.replicate (min ah mx - b) gX) (brk wi)).length : Int) = ((min ah mx - b : Nat) : Int) := by rw [hwi]; simp [endU, brk]
      have e2 : (((if wi = 0 then List.replicate b gX else [] : List GrpC)).length : Int) = 1 := by rw [if_pos hwi]; exact hv
      simp (maxSteps := 1000000) (implicitDefEqProofs := false) only [stp, if_true, if_false, Int.reduceEq, Int.reduceLT, Int.reduceLE, Int.reduceGT, Int.reduceGE, reduceCtorEq, Nat.reduceEqDiff, List.getElem?_cons_zero, List.getElem?_cons_succ, Option.map_some, e1, e2, hw0]
      refine fin _ _ fun G => ?_
      simp (maxSteps := 1000000) (implicitDefEqProofs := false) only [stp, if_true, if_false, Int.reduceEq, Int.reduceLT, Int.reduceLE, Int.reduceGT, Int.reduceGE, reduceCtorEq, Nat.reduceEqDiff, List.getElem?_cons_zero, List.getElem?_cons_succ, Option.map_some, if_true]
    · have hw0 : ¬ ((wi : Nat) : Int) = 0 := by omega
      obtain ⟨w', rfl⟩ : ∃ w', wi = w' + 1 := ⟨wi - 1, by omega⟩
      obtain ⟨u', hu', hul⟩ := keepL_snoc (mx := ((mx : Nat) : Int)) (by omega) (List.replicate (min ah mx - b) gX) (eG (w' + 1))
      rw [List.length_replicate] at hul
      have hend : endU (mx : Nat) (List.replicate (min ah mx - b) gX) (brk (w' + 1)) = u' ++ [eG (w' + 1)] := by rw [brk_eq w' (by omega)]; exact hu'
      rw [hend, if_neg hwi] at t8
      have e1 : ((endU (mx : Nat) (List.replicate (min ah mx - b) gX) (brk (w' + 1))).length : Int) = ((min (min ah mx - b + 1) mx : Nat) : Int) := by rw [hend, List.length_append]; simp only [List.length_cons, List.length_nil]; omega
      have e2 : (((if w' + 1 = 0 then List.replicate b gX else [] : List GrpC)).length : Int) = 0 := by rw [if_neg hwi]; rfl
      have hadd : IntKind.i64.wrap (((min ah mx - b : Nat) : Int) + 1) = ((min ah mx - b + 1 : Nat) : Int) := by rw [wrap_i64 (by omega) (by omega)]; omega
      have hmn2 := x_mnN (min ah mx - b + 1) mx F8
      simp (maxSteps := 1000000) (implicitDefEqProofs := false) only [stp, if_true, if_false, Int.reduceEq, Int.reduceLT, Int.reduceLE, Int.reduceGT, Int.reduceGE, reduceCtorEq, Nat.reduceEqDiff, List.getElem?_cons_zero, List.getElem?_cons_succ, Option.map_some, e1, e2, hw0, hadd, hmn2, l8, List.length_nil, Int.natCast_zero]
      refine SCalls.mono (t8.undo (gi := u') (g := eG (w' + 1)) rfl rfl (by simp only [List.length_append, List.length_cons, List.length_nil, big]; omega) (by simp [big])) ?_
      rintro _ F9 ⟨M9, x9, os9, rfl, t9, n9, f9, c9⟩
      obtain ⟨o9, rfl, c9'⟩ := con_one c9
      have hn9 : o9.n = ((w' + 1 : Nat) : Int) := congrArg OpC.n c9'
      have hx9 := f9.here
      have hl9 : ∀ F, exec .len [x9] F = some (.int .i64 1, F) := fun F => hx9.sl.len (H' := F)
      simp (maxSteps := 1000000) (implicitDefEqProofs := false) only [stp, if_true, if_false, Int.reduceEq, Int.reduceLT, Int.reduceLE, Int.reduceGT, Int.reduceGE, reduceCtorEq, Nat.reduceEqDiff, List.getElem?_cons_zero, List.getElem?_cons_succ, Option.map_some, hl9]
      refine wp_range (len := 1) SCalls.scMono (by omega) (fun acc : Int => [(25, .int .i64 acc), (174, x9), (24, .int .i64 0), (2, .int .i64 ((w' + 1 : Nat) : Int))]) (fun k acc F => WF F ∧ Ext F9 F ∧ acc = if k = 0 then 0 else ((w' + 1 : Nat) : Int)) 0 ⟨t9.wf, Ext.refl _, rfl⟩
        (.cons rfl (.cons rfl (.cons rfl (.cons rfl (.cons rfl (.cons rfl .nil)))))) (by decide) (fun s => ⟨rfl, rfl, rfl⟩) ?_ ?_
      · rintro k acc F hk ⟨wF, xF, hacc⟩
        obtain rfl : k = 0 := by omega
        rw [if_pos rfl] at hacc
        subst hacc
        obtain ⟨i1, o1, ha, ht⟩ := (hx9.sl.ext xF).ia (H' := F) (i := 0) (e := o9.cells) rfl .i64
        have ho := hx9.sl.1 o9.cells (by simp)
        obtain ⟨F2, xx2, ww2, tt2, cc1, cc2⟩ := x_copy (Ext.refl F) wF (z := zo) (e := o9.cells) (n := 5) rfl rfl rfl ho.2
        have la := ht.lda (n := 5) rfl
        have ln := tt2.ld (j := 1) (v := .int .i64 o9.n) rfl 1
        rw [hn9] at ln
        have hw3 : IntKind.i64.wrap (0 + ((w' + 1 : Nat) : Int)) = ((w' + 1 : Nat) : Int) := by rw [wrap_i64 (by omega) (by omega)]; omega
        simp (maxSteps := 1000000) (implicitDefEqProofs := false) only [stp, if_true, if_false, Int.reduceEq, Int.reduceLT, Int.reduceLE, Int.reduceGT, Int.reduceGE, reduceCtorEq, Nat.reduceEqDiff, List.getElem?_cons_zero, List.getElem?_cons_succ, Option.map_some, ha, la, cc1, cc2, ln, hw3]
        exact ⟨_, ⟨ww2, xF.trans xx2, rfl⟩, .cons rfl (.cons rfl (.cons rfl (.cons rfl (.cons rfl (.cons rfl .nil)))))⟩
      rintro acc F ⟨wF, xF, hacc⟩
      rw [if_neg (by decide)] at hacc
      subst hacc
      simp (maxSteps := 1000000) (implicitDefEqProofs := false) only [stp, if_true, if_false, Int.reduceEq, Int.reduceLT, Int.reduceLE, Int.reduceGT, Int.reduceGE, reduceCtorEq, Nat.reduceEqDiff, List.getElem?_cons_zero, List.getElem?_cons_succ, Option.map_some, if_true]
      refine fin _ _ fun G => ?_
      simp (maxSteps := 1000000) (implicitDefEqProofs := false) only [stp, if_true, if_false, Int.reduceEq, Int.reduceLT, Int.reduceLE, Int.reduceGT, Int.reduceGE, reduceCtorEq, Nat.reduceEqDiff, List.getElem?_cons_zero, List.getElem?_cons_succ, Option.map_some, if_true]
end Go.Proofs.YtkmaikggdbielaaGreatDoor.Fw

/- HistoryBrackets: the frame. No condition. Printed by mkH.py. -/
namespace Go.Proofs.YtkmaikggdbielaaGreatDoor.historyBrackets
open Go Go.ChangeShapes Go.WideShapes Go.ChangeAt Go.RowKit Go.Proofs.YtkmaikggdbielaaGreatDoor.Fw
set_option linter.unusedSimpArgs false
set_option linter.unusedVariables false

set_option maxRecDepth 100000 in
theorem main {W : World} {B : Nat} (hB : B = 1048576) (n0 : Int) (w0 : (Lit.int .i64 n0).wf = true) (n1 : Int) (w1 : (Lit.int .i64 n1).wf = true) (n2 : Int) (w2 : (Lit.int .i64 n2).wf = true) (hL : laidMetH PP Rows.historyBracketsRow.laid W) :
    SCalls PP 7 [.int .i64 n0, .int .i64 n1, .int .i64 n2] (hOf W) fun r H' => r = .bool true := by
  subst hB
  exact historyBrackets_calls n0 n1 n2 (tabs_of hL)

set_option maxRecDepth 100000 in
theorem contract (H : Type) (enc : TypeId × Value → H) (W : World) (base : Nat) (args : Array Value) (ds gs : List (DataW H)) (before : List MemPlace)
    (hval : ∀ (j : Nat) t v, Tryz.f7.params[j]? = some t → args[j]? = some v → Value.okWide Tryz.prog W .any base t v)
    (hW : DataW.Whole enc Tryz.prog Tryz.f7.params.toList Rows.historyBracketsSpec.vars false W args.toList ds gs before) (hb : Rows.uptoBulkAll (ds ++ gs) ≤ 1048576) (hL : laidMetH Tryz.prog Rows.historyBracketsRow.laid W) :
    Calls Tryz.prog 7 args W fun e W' => ∃ v, e = .returned v ∧ Rows.historyBracketsSpec.post enc Tryz.prog Tryz.f7 false true false false W args v W' := by
  have hW' := hW
  obtain ⟨p, q, hA0, hV, rfl, hfz, hnd⟩ := hW
  have hA : DataW.TrodAll enc Tryz.prog W 0 (fun _ => true) true Tryz.f7.params.toList args.toList ds p := hA0
  rw [Tryz.params7] at hA hval
  obtain ⟨v0, vs0, d0, ds0, p0, q0, hargs, rfl, rfl, h0, r0⟩ := trodAll_cons hA
  obtain ⟨v1, vs1, d1, ds1, p1, q1, rfl, rfl, rfl, h1, r1⟩ := trodAll_cons r0
  obtain ⟨v2, vs2, d2, ds2, p2, q2, rfl, rfl, rfl, h2, r2⟩ := trodAll_cons r1
  obtain ⟨rfl, rfl, rfl⟩ := trodAll_nil r2
  obtain rfl : args = #[v0, v1, v2] := by cases args; simp_all
  obtain ⟨rfl, rfl⟩ := trodVars_none hV
  simp only [Rows.uptoBulkAll, List.append_nil] at hb
  have hlt : ∀ x ∈ p0 ++ (p1 ++ (p2 ++ [])) ++ [], x.block < W.heap.size := fun x hx => by simpa using hW'.lt x hx
  obtain ⟨n0, rfl, rfl, rfl, w0⟩ := open_int Tryz.underlying3 (hval 0 3 v0 rfl rfl) h0
  obtain ⟨n1, rfl, rfl, rfl, w1⟩ := open_int Tryz.underlying3 (hval 1 3 v1 rfl rfl) h1
  obtain ⟨n2, rfl, rfl, rfl, w2⟩ := open_int Tryz.underlying3 (hval 2 3 v2 rfl rfl) h2
  have walk := calls_of (main (W := W) rfl n0 w0 n1 w1 n2 w2 hL)
    (.mk_cons (.mk_int _ _) (.mk_cons (.mk_int _ _) (.mk_cons (.mk_int _ _) .mk_nil)))
  refine walk.mono fun e W' ⟨he, hB⟩ => ?_
  subst he
  refine ⟨_, rfl, _, _, _, [], [] ++ ([] ++ ([] ++ [])), [], hW', trodAll_cons_mk (shut_bool Tryz.underlying4 _) trodAll_mk0, ?_, rfl, hB.frame _, fun h => by cases h⟩
  exact trodAll_cons_mk (shut_int Tryz.underlying3 w0)
    (trodAll_cons_mk (shut_int Tryz.underlying3 w1)
    (trodAll_cons_mk (shut_int Tryz.underlying3 w2)
    trodAll_mk0))

/-- A WORLD FOR THE WITNESS. -/
def flatD : DataW Unit → List Value
  | .lit (.int k n) => [.int k n]
  | .agg l => flatDL l
  | _ => []
  where flatDL : List (DataW Unit) → List Value
  | [] => []
  | d :: l => flatD d ++ flatDL l
def setCells (l : List Value) : Obj → Obj
  | .cells _ t frozen => .cells l.toArray t frozen
  | o => o
noncomputable def laidWorld (os : Os) : World :=
  { World.holding Tryz.prog os ⟨#[], #[], []⟩ with heap := ((World.holding Tryz.prog os ⟨#[], #[], []⟩).heap.modify 1 (setCells (flatD Rows.laid_unicode_utf8_first))).modify 2 (setCells (flatD Rows.laid_unicode_utf8_acceptRanges)) }
def wargs : Array Value := #[.int .i64 0, .int .i64 0, .int .i64 0]
theorem laid_met (os : Os) : laidMet Tryz.prog Rows.historyBracketsRow.laid ((laidWorld os).forCall (fun _ _ => 0) ⟨#[], wargs, []⟩).memory :=
  laidMet_of_run' 8 (by kernel_rfl) (by kernel_rfl)
theorem reads (os : Os) {H : Type} (enc : TypeId × Value → H) : ∃ places, DataW.whole enc Tryz.prog ((laidWorld os).forCall (fun _ _ => 0) ⟨#[], wargs, []⟩).memory Tryz.f7.params.toList Rows.historyBracketsSpec.vars false wargs.toList 8 = some ([.lit (.int .i64 0), .lit (.int .i64 0), .lit (.int .i64 0)], [], places) :=
  ⟨[], by kernel_rfl⟩

set_option maxRecDepth 100000 in
theorem liftedUpto (os : Os) (started : os.Started) (H : Type) (enc : TypeId × Value → H) (F : Stop.Interp) :
    ReturnsInHanded {} Tryz.checked os 7 .any ((Rows.OpenSpec.upto Rows.historyBracketsSpec).preRow enc Tryz.prog Tryz.f7 Rows.historyBracketsUptoRow.domain false Rows.historyBracketsUptoRow.laid) (((Rows.OpenSpec.upto Rows.historyBracketsSpec).at F).post enc Tryz.prog Tryz.f7 false true false false) := by
  obtain ⟨places, hx⟩ := reads os enc
  refine returnsInHanded_of_row (C := Tryz.checked) (s := Rows.OpenSpec.upto Rows.historyBracketsSpec) own started (by kernel_rfl) Tryz.func7
    (witness_row_at (enc := enc) (C := Tryz.checked) false (laidWorld os) wargs rfl (by kernel_rfl) (by kernel_rfl) (by kernel_rfl)
      (OpenSpec.preRow_of_cond 8 hx (by kernel_rfl) (fun k hk => (by cases hk; kernel_rfl)) (by kernel_rfl) (laid_met os))) ?_
  intro W base args ds gs before hval hW _ hcond _ hL _ _
  exact contract H enc W base args ds gs before hval hW (of_decide_eq_true (hcond _ rfl)) hL

theorem saidUpto : Rows.HistoryBracketsUptoSaid :=
  OpenClaim.holds_of_cond 7 Tryz.f7 rfl rfl rfl rfl rfl rfl rfl ⟨rfl, rfl, rfl, rfl, rfl⟩ rfl rfl rfl rfl rfl (by kernel_rfl) Tryz.func7 (by kernel_rfl)
    (of_decide_eq_true (by kernel_rfl)) (by unfold Func.isWrapper; first | (rw [if_pos (by decide +kernel)]; kernel_rfl) | (rw [if_neg (by decide +kernel)]; exact ⟨rfl, rfl⟩))
    (fun os started H enc _ F => by rw [OpenClaim.pre_eq_preRow]; exact liftedUpto os started H enc F)

theorem plain (f : FuncId) (fn : Func) (hf : Tryz.pinned.checked.prog.funcNamed "rubric/rubriclaw27.HistoryBrackets" = some f) (hfn : Tryz.pinned.checked.prog.funcs[f]? = some fn) :
    false = Tryz.pinned.checked.prog.looks [] ∧ ∀ (j : Nat) t, fn.params[j]? = some t → Tryz.pinned.checked.prog.wantsStandIn t = false := by
  obtain rfl : f = 7 := Option.some.inj ((show Tryz.prog.funcNamed "rubric/rubriclaw27.HistoryBrackets" = some 7 by kernel_rfl).symm.trans hf) |>.symm
  obtain rfl : fn = Tryz.f7 := (Option.some.inj (Tryz.func7.symm.trans hfn)).symm
  refine ⟨by kernel_rfl, fun j t ht => ?_⟩
  rw [Tryz.params7] at ht
  have hm : t ∈ #[3, 3, 3] := Array.mem_of_getElem? ht
  simp at hm
  subst hm
  exact (show Tryz.prog.wantsStandIn 3 = false by kernel_rfl)

/-- THE CARD. -/
theorem cardUpto : Rows.HistoryBracketsUptoCardSaid :=
  Claim7.holds_tied_plain_at .later [] _ _ _ _ saidUpto (fun _ h => by cases h) (by kernel_rfl) (fun _ h => by cases h) historyBracketsUpto_row_tie rfl ⟨rfl, rfl⟩ (by kernel_rfl) rfl plain (by kernel_rfl)
end Go.Proofs.YtkmaikggdbielaaGreatDoor.historyBrackets

