/- HistoryNone: a history that is not there, or was not made, refuses; on the one condition that the arguments hold together at most 2^20 data, as the statement's own bound says. -/
import Derived.Test.YtkmaikggdbielaaGreatDoorNoneM3

/- What a reading of the arguments tells: deltas. No condition. -/
namespace Go.Proofs.YtkmaikggdbielaaGreatDoor.Fw
open Go
set_option linter.unusedSimpArgs false
set_option linter.unusedVariables false
set_option maxRecDepth 100000

theorem cl2 : PP.cellsOf 2 = 1 := by kernel_rfl
theorem cl34 : PP.cellsOf 34 = 1 := by kernel_rfl
theorem cl9 : PP.cellsOf 9 = 1 := by kernel_rfl
theorem cl96 : PP.cellsOf 96 = 4 := by kernel_rfl
theorem cl98 : PP.cellsOf 98 = 5 := by kernel_rfl
theorem cl100 : PP.cellsOf 100 = 6 := by kernel_rfl
theorem cl39 : PP.cellsOf 39 = 5 := by kernel_rfl
theorem cl35 : PP.cellsOf 35 = 1 := by kernel_rfl
theorem cl36 : PP.cellsOf 36 = 1 := by kernel_rfl
theorem cl37 : PP.cellsOf 37 = 1 := by kernel_rfl
theorem cl21 : PP.cellsOf 21 = 1 := by kernel_rfl
theorem good_str {P : Program} {B n : Nat} {G : Heap} {t : TypeId} {vs : List V} (hu : P.underlying t = some .string) (h : GoodT P B G (n + 1) t vs) : ∃ s, vs = [.str s] ∧ s.size ≤ B := by
  simp only [GoodT, hu] at h; exact h
theorem good_slice {P : Program} {B n : Nat} {G : Heap} {t e : TypeId} {vs : List V} (hu : P.underlying t = some (.slice e)) (h : GoodT P B G (n + 1) t vs) :
    ∃ v ls, vs = [v] ∧ SL G v (P.cellsOf e) ls ∧ ls.length ≤ B ∧ ∀ l ∈ ls, GoodT P B G n e l := by
  simp only [GoodT, hu] at h; exact h
theorem val_of {B n : Nat} {G : Heap} {l : List V} (h : GoodT PP B G (n + 2) 96 l) : ∃ v : ValA, l = v.cells ∧ v.s.size ≤ B := by
  obtain ⟨hl, hf⟩ := good_struct Tryz.underlying96 h
  rw [cl96] at hl
  match l, hl with
  | [a, b, c, d], _ =>
    have g0 : GoodT PP B G (n + 1) 5 (([a, b, c, d].drop 0).take (PP.cellsOf 5)) := hf ⟨ "Kind", 5, 0, false, "", "", 0⟩ (by simp)
    have g1 : GoodT PP B G (n + 1) 2 (([a, b, c, d].drop 1).take (PP.cellsOf 2)) := hf ⟨ "N", 2, 1, false, "", "", 8⟩ (by simp)
    have g2 : GoodT PP B G (n + 1) 34 (([a, b, c, d].drop 2).take (PP.cellsOf 34)) := hf ⟨ "F", 34, 2, false, "", "", 16⟩ (by simp)
    have g3 : GoodT PP B G (n + 1) 9 (([a, b, c, d].drop 3).take (PP.cellsOf 9)) := hf ⟨ "S", 9, 3, false, "", "", 24⟩ (by simp)
    rw [cl5] at g0
    rw [cl2] at g1
    rw [cl34] at g2
    rw [cl9] at g3
    obtain ⟨i0, e0, _⟩ := good_int Tryz.underlying5 g0
    obtain ⟨i1, e1, _⟩ := good_int Tryz.underlying2 g1
    obtain ⟨i2, e2, _⟩ := good_int Tryz.underlying34 g2
    obtain ⟨i3, e3, hs⟩ := good_str Tryz.underlying9 g3
    simp only [List.drop_zero, List.drop_succ_cons, List.take_succ_cons, List.take_zero, List.cons.injEq, and_true] at e0 e1 e2 e3
    exact ⟨⟨i0, i1, i2, i3⟩, by simp [ValA.cells, e0, e1, e2, e3], hs⟩
theorem attr_of {B n : Nat} {G : Heap} {l : List V} (h : GoodT PP B G (n + 3) 98 l) : ∃ a : AttrA, l = a.cells ∧ a.val.s.size ≤ B := by
  obtain ⟨hl, hf⟩ := good_struct Tryz.underlying98 h
  rw [cl98] at hl
  match l, hl with
  | a :: vs, hl =>
    have g0 : GoodT PP B G (n + 2) 3 (((a :: vs).drop 0).take (PP.cellsOf 3)) := hf ⟨ "Key", 3, 0, false, "", "", 0⟩ (by simp)
    have g1 : GoodT PP B G (n + 2) 96 (((a :: vs).drop 1).take (PP.cellsOf 96)) := hf ⟨ "Value", 96, 1, false, "", "", 8⟩ (by simp)
    rw [cl3] at g0
    rw [cl96] at g1
    obtain ⟨i0, e0, _⟩ := good_int Tryz.underlying3 g0
    obtain ⟨v, e1, hs⟩ := val_of g1
    simp only [List.drop_zero, List.drop_succ_cons, List.take_succ_cons, List.take_zero, List.cons.injEq, and_true] at e0 e1
    rw [List.take_of_length_le (by simp at hl; omega)] at e1
    exact ⟨⟨i0, v⟩, by rw [e0, e1]; rfl, hs⟩
theorem chg_of {B n : Nat} {G : Heap} {l : List V} (h : GoodT PP B G (n + 3) 100 l) : ∃ c : ChgA, l = c.cells ∧ c.val.s.size ≤ B := by
  obtain ⟨hl, hf⟩ := good_struct Tryz.underlying100 h
  rw [cl100] at hl
  match l, hl with
  | a :: b :: vs, hl =>
    have g0 : GoodT PP B G (n + 2) 3 (((a :: b :: vs).drop 0).take (PP.cellsOf 3)) := hf ⟨ "Key", 3, 0, false, "", "", 0⟩ (by simp)
    have g1 : GoodT PP B G (n + 2) 4 (((a :: b :: vs).drop 1).take (PP.cellsOf 4)) := hf ⟨ "Gone", 4, 1, false, "", "", 8⟩ (by simp)
    have g2 : GoodT PP B G (n + 2) 96 (((a :: b :: vs).drop 2).take (PP.cellsOf 96)) := hf ⟨ "Value", 96, 2, false, "", "", 16⟩ (by simp)
    rw [cl3] at g0
    rw [cl4] at g1
    rw [cl96] at g2
    obtain ⟨i0, e0, _⟩ := good_int Tryz.underlying3 g0
    obtain ⟨i1, e1⟩ := good_bool Tryz.underlying4 g1
    obtain ⟨v, e2, hs⟩ := val_of g2
    simp only [List.drop_zero, List.drop_succ_cons, List.take_succ_cons, List.take_zero, List.cons.injEq, and_true] at e0 e1 e2
    rw [List.take_of_length_le (by simp at hl; omega)] at e2
    exact ⟨⟨i0, i1, v⟩, by rw [e0, e1, e2]; rfl, hs⟩
theorem list_of {α : Type} {G : List V → Prop} {cells : α → List V} {R : α → Prop} (h : ∀ l, G l → ∃ a, l = cells a ∧ R a) : ∀ {ls : List (List V)}, (∀ l ∈ ls, G l) → ∃ xs : List α, ls = xs.map cells ∧ ∀ a ∈ xs, R a
  | [], _ => ⟨[], rfl, by simp⟩
  | l :: ls, hl => by
    obtain ⟨a, rfl, ha⟩ := h l (hl l (by simp))
    obtain ⟨b, rfl, hb⟩ := list_of h (ls := ls) fun q hq => hl q (List.mem_cons_of_mem _ hq)
    exact ⟨a :: b, rfl, fun q hq => by
      rcases List.mem_cons.1 hq with rfl | hq
      · exact ha
      · exact hb q hq⟩
theorem op_of {n : Nat} {G : Heap} {l : List V} (h : GoodT PP big G (n + 5) 39 l) : ∃ o : OpA, l = o.cells ∧ o.In G := by
  obtain ⟨hl, hf⟩ := good_struct Tryz.underlying39 h
  rw [cl39] at hl
  match l, hl with
  | [a, b, c, d, e], _ =>
    have g0 : GoodT PP big G (n + 4) 5 (([a, b, c, d, e].drop 0).take (PP.cellsOf 5)) := hf ⟨ "Kind", 5, 0, false, "", "", 0⟩ (by simp)
    have g1 : GoodT PP big G (n + 4) 3 (([a, b, c, d, e].drop 1).take (PP.cellsOf 3)) := hf ⟨ "N", 3, 1, false, "", "", 8⟩ (by simp)
    have g2 : GoodT PP big G (n + 4) 35 (([a, b, c, d, e].drop 2).take (PP.cellsOf 35)) := hf ⟨ "Runes", 35, 2, false, "", "", 16⟩ (by simp)
    have g3 : GoodT PP big G (n + 4) 36 (([a, b, c, d, e].drop 3).take (PP.cellsOf 36)) := hf ⟨ "Set", 36, 3, false, "", "", 40⟩ (by simp)
    have g4 : GoodT PP big G (n + 4) 37 (([a, b, c, d, e].drop 4).take (PP.cellsOf 37)) := hf ⟨ "Patch", 37, 4, false, "", "", 64⟩ (by simp)
    rw [cl5] at g0
    rw [cl3] at g1
    rw [cl35] at g2
    rw [cl36] at g3
    rw [cl37] at g4
    obtain ⟨i0, e0, _⟩ := good_int Tryz.underlying5 g0
    obtain ⟨i1, e1, w1⟩ := good_int Tryz.underlying3 g1
    obtain ⟨v2, l2, e2, s2, n2, k2⟩ := good_slice Tryz.underlying35 g2
    obtain ⟨v3, l3, e3, s3, n3, k3⟩ := good_slice Tryz.underlying36 g3
    obtain ⟨v4, l4, e4, s4, n4, k4⟩ := good_slice Tryz.underlying37 g4
    simp only [List.drop_zero, List.drop_succ_cons, List.take_succ_cons, List.take_zero, List.cons.injEq, and_true] at e0 e1 e2 e3 e4
    obtain ⟨rs, rfl, _⟩ := list_of (α := Int) (cells := fun r => [V.int .i32 r]) (R := fun _ => True) (fun l hl => by obtain ⟨i, hi, _⟩ := good_int Tryz.underlying21 hl; exact ⟨i, hi, trivial⟩) k2
    obtain ⟨ats, rfl, ra⟩ := list_of (fun l hl => attr_of (n := n) hl) k3
    obtain ⟨chs, rfl, rc⟩ := list_of (fun l hl => chg_of (n := n) hl) k4
    rw [cl21] at s2
    rw [cl98] at s3
    rw [cl100] at s4
    rw [List.length_map] at n2 n3 n4
    have hw : -9223372036854775808 ≤ i1 ∧ i1 ≤ 9223372036854775807 := by
      simp only [Lit.wf, Bool.and_eq_true, decide_eq_true_eq] at w1
      have h1 : IntKind.i64.min = -9223372036854775808 := by decide
      have h2 : IntKind.i64.max = 9223372036854775807 := by decide
      rw [h1, h2] at w1
      exact w1
    exact ⟨⟨i0, i1, v2, v3, v4, rs, ats, chs⟩, by simp [OpA.cells, e0, e1, e2, e3, e4], ⟨s2, s3, s4, n2, n3, n4, ra, rc, hw.1, hw.2⟩⟩
end Go.Proofs.YtkmaikggdbielaaGreatDoor.Fw

/- HistoryNone, from what is read of the arguments. No condition. -/
namespace Go.Proofs.YtkmaikggdbielaaGreatDoor.Fw
open Go
set_option linter.unusedSimpArgs false
set_option linter.unusedVariables false
set_option maxRecDepth 20000 in
theorem historyNone_main {G : Heap} {x y : V} {os us : List (List V)} (hx : SL G x 5 os) (hxl : os.length ≤ big) (hxg : ∀ l ∈ os, GoodT PP big G 9 39 l) (hy : SL G y 5 us) (hyl : us.length ≤ big) (hyg : ∀ l ∈ us, GoodT PP big G 9 39 l) :
    SCalls PP 6 [x, y] G fun r H' => r = .bool true := by
  obtain ⟨os, rfl, hin⟩ := list_of (fun l hl => op_of (n := 4) hl) hxg
  obtain ⟨us, rfl, hin2⟩ := list_of (fun l hl => op_of (n := 4) hl) hyg
  rw [List.length_map] at hxl hyl
  exact historyNone_calls ⟨hx, hin, hxl⟩ ⟨hy, hin2, hyl⟩
end Go.Proofs.YtkmaikggdbielaaGreatDoor.Fw

/- HistoryNone: the frame. No condition. Printed by mkH.py. -/
namespace Go.Proofs.YtkmaikggdbielaaGreatDoor.historyNone
open Go Go.ChangeShapes Go.WideShapes Go.ChangeAt Go.RowKit Go.Proofs.YtkmaikggdbielaaGreatDoor.Fw
set_option linter.unusedSimpArgs false
set_option linter.unusedVariables false

set_option maxRecDepth 100000 in
theorem main {W : World} {B : Nat} (hB : B = 1048576) {x0 : V} {l0 : List (List V)} (hs0 : SL (hOf W) x0 5 l0) (hl0 : l0.length ≤ B) (hg0 : ∀ l ∈ l0, GoodT PP B (hOf W) 9 39 l) (hc0 : CapOk x0) {x1 : V} {l1 : List (List V)} (hs1 : SL (hOf W) x1 5 l1) (hl1 : l1.length ≤ B) (hg1 : ∀ l ∈ l1, GoodT PP B (hOf W) 9 39 l) (hc1 : CapOk x1) (hL : laidMetH PP Rows.historyNoneRow.laid W) :
    SCalls PP 6 [x0, x1] (hOf W) fun r H' => r = .bool true := by
  subst hB
  exact historyNone_main hs0 hl0 hg0 hs1 hl1 hg1

set_option maxRecDepth 100000 in
theorem contract (H : Type) (enc : TypeId × Value → H) (W : World) (base : Nat) (args : Array Value) (ds gs : List (DataW H)) (before : List MemPlace)
    (hval : ∀ (j : Nat) t v, Tryz.f6.params[j]? = some t → args[j]? = some v → Value.okWide Tryz.prog W .any base t v)
    (hW : DataW.Whole enc Tryz.prog Tryz.f6.params.toList Rows.historyNoneSpec.vars false W args.toList ds gs before) (hb : Rows.uptoBulkAll (ds ++ gs) ≤ 1048576) (hL : laidMetH Tryz.prog Rows.historyNoneRow.laid W) :
    Calls Tryz.prog 6 args W fun e W' => ∃ v, e = .returned v ∧ Rows.historyNoneSpec.post enc Tryz.prog Tryz.f6 false true false false W args v W' := by
  have hW' := hW
  obtain ⟨p, q, hA0, hV, rfl, hfz, hnd⟩ := hW
  have hA : DataW.TrodAll enc Tryz.prog W 0 (fun _ => true) true Tryz.f6.params.toList args.toList ds p := hA0
  rw [Tryz.params6] at hA hval
  obtain ⟨v0, vs0, d0, ds0, p0, q0, hargs, rfl, rfl, h0, r0⟩ := trodAll_cons hA
  obtain ⟨v1, vs1, d1, ds1, p1, q1, rfl, rfl, rfl, h1, r1⟩ := trodAll_cons r0
  obtain ⟨rfl, rfl, rfl⟩ := trodAll_nil r1
  obtain rfl : args = #[v0, v1] := by cases args; simp_all
  obtain ⟨rfl, rfl⟩ := trodVars_none hV
  simp only [Rows.uptoBulkAll, List.append_nil] at hb
  have hlt : ∀ x ∈ p0 ++ (p1 ++ []) ++ [], x.block < W.heap.size := fun x hx => by simpa using hW'.lt x hx
  obtain ⟨x0, l0, hv0, hs0, hl0, hg0, hc0⟩ := arg_slice2 (n := 9) Tryz.underlying31 (by kernel_rfl) (hval 0 31 v0 rfl rfl) h0 (B := 1048576) (by omega)
  have h0k := h0
  obtain ⟨x1, l1, hv1, hs1, hl1, hg1, hc1⟩ := arg_slice2 (n := 9) Tryz.underlying31 (by kernel_rfl) (hval 1 31 v1 rfl rfl) h1 (B := 1048576) (by omega)
  have h1k := h1
  have walk := calls_of (main (W := W) rfl (x0 := x0) (l0 := l0) (by rw [show (5 : Nat) = PP.cellsOf 39 by kernel_rfl]; exact hs0) hl0 hg0 hc0 (x1 := x1) (l1 := l1) (by rw [show (5 : Nat) = PP.cellsOf 39 by kernel_rfl]; exact hs1) hl1 hg1 hc1 hL)
    (.mk_cons hv0 (.mk_cons hv1 .mk_nil))
  refine walk.mono fun e W' ⟨he, hB⟩ => ?_
  subst he
  refine ⟨_, rfl, _, _, _, [], p0 ++ (p1 ++ []), [], hW', trodAll_cons_mk (shut_bool Tryz.underlying4 _) trodAll_mk0, ?_, rfl, hB.frame _, fun h => by cases h⟩
  exact trodAll_cons_mk (Below.trod laidOut (by kernel_rfl) (of_decide_eq_true (by kernel_rfl)) h0k hB (fun x hx => hlt x (by simp [hx])))
    (trodAll_cons_mk (Below.trod laidOut (by kernel_rfl) (of_decide_eq_true (by kernel_rfl)) h1k hB (fun x hx => hlt x (by simp [hx])))
    trodAll_mk0)

/-- A WORLD FOR THE WITNESS. -/
def flatD : DataW Unit → List Value
  | .lit (.int k n) => [.int k n]
  | .agg l => flatDL l
  | _ => []
  where flatDL : List (DataW Unit) → List Value
  | [] => []
  | d :: l => flatD d ++ flatDL l
def setCells (l : List Value) : Obj → Obj
  | .cells _ t frozen => .cells l.toArray t frozen
  | o => o
noncomputable def laidWorld (os : Os) : World :=
  { World.holding Tryz.prog os ⟨#[], #[], []⟩ with heap := ((World.holding Tryz.prog os ⟨#[], #[], []⟩).heap.modify 1 (setCells (flatD Rows.laid_unicode_utf8_first))).modify 2 (setCells (flatD Rows.laid_unicode_utf8_acceptRanges)) }
def wargs : Array Value := #[.slice none 0 0, .slice none 0 0]
theorem laid_met (os : Os) : laidMet Tryz.prog Rows.historyNoneRow.laid ((laidWorld os).forCall (fun _ _ => 0) ⟨#[], wargs, []⟩).memory :=
  laidMet_of_run' 8 (by kernel_rfl) (by kernel_rfl)
theorem reads (os : Os) {H : Type} (enc : TypeId × Value → H) : ∃ places, DataW.whole enc Tryz.prog ((laidWorld os).forCall (fun _ _ => 0) ⟨#[], wargs, []⟩).memory Tryz.f6.params.toList Rows.historyNoneSpec.vars false wargs.toList 8 = some ([.nil, .nil], [], places) :=
  ⟨[], by kernel_rfl⟩

set_option maxRecDepth 100000 in
theorem liftedUpto (os : Os) (started : os.Started) (H : Type) (enc : TypeId × Value → H) (F : Stop.Interp) :
    ReturnsInHanded {} Tryz.checked os 6 .any ((Rows.OpenSpec.upto Rows.historyNoneSpec).preRow enc Tryz.prog Tryz.f6 Rows.historyNoneUptoRow.domain false Rows.historyNoneUptoRow.laid) (((Rows.OpenSpec.upto Rows.historyNoneSpec).at F).post enc Tryz.prog Tryz.f6 false true false false) := by
  obtain ⟨places, hx⟩ := reads os enc
  refine returnsInHanded_of_row (C := Tryz.checked) (s := Rows.OpenSpec.upto Rows.historyNoneSpec) own started (by kernel_rfl) Tryz.func6
    (witness_row_at (enc := enc) (C := Tryz.checked) false (laidWorld os) wargs rfl (by kernel_rfl) (by kernel_rfl) (by kernel_rfl)
      (OpenSpec.preRow_of_cond 8 hx (by kernel_rfl) (fun k hk => (by cases hk; kernel_rfl)) (by kernel_rfl) (laid_met os))) ?_
  intro W base args ds gs before hval hW _ hcond _ hL _ _
  exact contract H enc W base args ds gs before hval hW (of_decide_eq_true (hcond _ rfl)) hL

theorem saidUpto : Rows.HistoryNoneUptoSaid :=
  OpenClaim.holds_of_cond 6 Tryz.f6 rfl rfl rfl rfl rfl rfl rfl ⟨rfl, rfl, rfl, rfl, rfl⟩ rfl rfl rfl rfl rfl (by kernel_rfl) Tryz.func6 (by kernel_rfl)
    (of_decide_eq_true (by kernel_rfl)) (by unfold Func.isWrapper; first | (rw [if_pos (by decide +kernel)]; kernel_rfl) | (rw [if_neg (by decide +kernel)]; exact ⟨rfl, rfl⟩))
    (fun os started H enc _ F => by rw [OpenClaim.pre_eq_preRow]; exact liftedUpto os started H enc F)

theorem plain (f : FuncId) (fn : Func) (hf : Tryz.pinned.checked.prog.funcNamed "rubric/rubriclaw27.HistoryNone" = some f) (hfn : Tryz.pinned.checked.prog.funcs[f]? = some fn) :
    false = Tryz.pinned.checked.prog.looks [] ∧ ∀ (j : Nat) t, fn.params[j]? = some t → Tryz.pinned.checked.prog.wantsStandIn t = false := by
  obtain rfl : f = 6 := Option.some.inj ((show Tryz.prog.funcNamed "rubric/rubriclaw27.HistoryNone" = some 6 by kernel_rfl).symm.trans hf) |>.symm
  obtain rfl : fn = Tryz.f6 := (Option.some.inj (Tryz.func6.symm.trans hfn)).symm
  refine ⟨by kernel_rfl, fun j t ht => ?_⟩
  rw [Tryz.params6] at ht
  have hm : t ∈ #[31, 31] := Array.mem_of_getElem? ht
  simp at hm
  subst hm
  exact (show Tryz.prog.wantsStandIn 31 = false by kernel_rfl)

/-- THE CARD. -/
theorem cardUpto : Rows.HistoryNoneUptoCardSaid :=
  Claim7.holds_tied_plain_at .later [] _ _ _ _ saidUpto (fun _ h => by cases h) (by kernel_rfl) (fun _ h => by cases h) historyNoneUpto_row_tie rfl ⟨rfl, rfl⟩ (by kernel_rfl) rfl plain (by kernel_rfl)
end Go.Proofs.YtkmaikggdbielaaGreatDoor.historyNone

