/- What fits fits a greater most, and a longer document where it may; what it makes is as long as told (OpsFits). The one condition: the arguments hold together at most 2^20 data, as the statement's own bound says. -/
import Derived.Test.YtbadbkdpnbacnaaDoorFitsM5

/- What a reading of the arguments tells, in the program's own types. No condition. -/
namespace Go.Proofs.YtbadbkdpnbacnaaDoor.Fw
open Go
set_option linter.unusedSimpArgs false
set_option linter.unusedVariables false
set_option linter.constructorNameAsVariable false
set_option maxRecDepth 100000

theorem cl3 : PP.cellsOf 3 = 1 := by kernel_rfl
theorem cl4 : PP.cellsOf 4 = 1 := by kernel_rfl
theorem cl5 : PP.cellsOf 5 = 1 := by kernel_rfl
theorem cl53 : PP.cellsOf 53 = 6 := by kernel_rfl
theorem good_int {P : Program} {B n : Nat} {G : Heap} {t : TypeId} {k : IntKind} {vs : List V} (hu : P.underlying t = some (.int k)) (h : GoodT P B G (n + 1) t vs) : ∃ i, vs = [.int k i] ∧ (Lit.int k i).wf = true := by
  simp only [GoodT, hu] at h; exact h
theorem good_bool {P : Program} {B n : Nat} {G : Heap} {t : TypeId} {vs : List V} (hu : P.underlying t = some .bool) (h : GoodT P B G (n + 1) t vs) : ∃ b, vs = [.bool b] := by
  simp only [GoodT, hu] at h; exact h
theorem good_struct {P : Program} {B n : Nat} {G : Heap} {t : TypeId} {fs : Array Field} {vs : List V} (hu : P.underlying t = some (.struct fs)) (h : GoodT P B G (n + 1) t vs) :
    vs.length = P.cellsOf t ∧ ∀ f ∈ fs.toList, GoodT P B G n f.type ((vs.drop f.offset).take (P.cellsOf f.type)) := by
  simp only [GoodT, hu] at h; exact h
theorem key_of {B n : Nat} {G : Heap} {l : List V} (h : GoodT PP B G (n + 2) 53 l) : ∃ k : KeyA, l = k.cells := by
  obtain ⟨hl, hf⟩ := good_struct Tryd.underlying53 h
  rw [cl53] at hl
  match l, hl with
  | [a, b, c, d, e, f], _ =>
    have g0 : GoodT PP B G (n + 1) 3 (([a, b, c, d, e, f].drop 0).take (PP.cellsOf 3)) := hf ⟨"ID", 3, 0, false, "", "", 0⟩ (by simp)
    have g1 : GoodT PP B G (n + 1) 4 (([a, b, c, d, e, f].drop 1).take (PP.cellsOf 4)) := hf ⟨"Block", 4, 1, false, "", "", 8⟩ (by simp)
    have g2 : GoodT PP B G (n + 1) 5 (([a, b, c, d, e, f].drop 2).take (PP.cellsOf 5)) := hf ⟨"Kind", 5, 2, false, "", "", 9⟩ (by simp)
    have g3 : GoodT PP B G (n + 1) 4 (([a, b, c, d, e, f].drop 3).take (PP.cellsOf 4)) := hf ⟨"After", 4, 3, false, "", "", 10⟩ (by simp)
    have g4 : GoodT PP B G (n + 1) 4 (([a, b, c, d, e, f].drop 4).take (PP.cellsOf 4)) := hf ⟨"Before", 4, 4, false, "", "", 11⟩ (by simp)
    have g5 : GoodT PP B G (n + 1) 3 (([a, b, c, d, e, f].drop 5).take (PP.cellsOf 3)) := hf ⟨"Group", 3, 5, false, "", "", 16⟩ (by simp)
    rw [cl3] at g0 g5
    rw [cl4] at g1 g3 g4
    rw [cl5] at g2
    obtain ⟨i0, e0, _⟩ := good_int Tryd.underlying3 g0
    obtain ⟨i1, e1⟩ := good_bool Tryd.underlying4 g1
    obtain ⟨i2, e2, _⟩ := good_int Tryd.underlying5 g2
    obtain ⟨i3, e3⟩ := good_bool Tryd.underlying4 g3
    obtain ⟨i4, e4⟩ := good_bool Tryd.underlying4 g4
    obtain ⟨i5, e5, _⟩ := good_int Tryd.underlying3 g5
    simp only [List.drop_zero, List.drop_succ_cons, List.take_succ_cons, List.take_zero, List.cons.injEq, and_true] at e0 e1 e2 e3 e4 e5
    exact ⟨⟨i0, i1, i2, i3, i4, i5⟩, by simp [KeyA.cells, e0, e1, e2, e3, e4, e5]⟩
theorem keys_of {B n : Nat} {G : Heap} : ∀ {ls : List (List V)}, (∀ l ∈ ls, GoodT PP B G (n + 2) 53 l) → ∃ ks : List KeyA, ls = ks.map KeyA.cells
  | [], h => ⟨[], rfl⟩
  | l :: ls, h => by
    obtain ⟨k, rfl⟩ := key_of (h l (by simp))
    obtain ⟨ks, rfl⟩ := keys_of (ls := ls) fun q hq => h q (List.mem_cons_of_mem _ hq)
    exact ⟨k :: ks, rfl⟩
end Go.Proofs.YtbadbkdpnbacnaaDoor.Fw

/- What a reading of the arguments tells: deltas. No condition. -/
namespace Go.Proofs.YtbadbkdpnbacnaaDoor.Fw
open Go
set_option linter.unusedSimpArgs false
set_option linter.unusedVariables false
set_option linter.constructorNameAsVariable false
set_option maxRecDepth 100000

theorem cl2 : PP.cellsOf 2 = 1 := by kernel_rfl
theorem cl34 : PP.cellsOf 34 = 1 := by kernel_rfl
theorem cl9 : PP.cellsOf 9 = 1 := by kernel_rfl
theorem cl71 : PP.cellsOf 71 = 4 := by kernel_rfl
theorem cl73 : PP.cellsOf 73 = 5 := by kernel_rfl
theorem cl93 : PP.cellsOf 93 = 6 := by kernel_rfl
theorem cl41 : PP.cellsOf 41 = 5 := by kernel_rfl
theorem cl37 : PP.cellsOf 37 = 1 := by kernel_rfl
theorem cl38 : PP.cellsOf 38 = 1 := by kernel_rfl
theorem cl39 : PP.cellsOf 39 = 1 := by kernel_rfl
theorem cl21 : PP.cellsOf 21 = 1 := by kernel_rfl
theorem good_str {P : Program} {B n : Nat} {G : Heap} {t : TypeId} {vs : List V} (hu : P.underlying t = some .string) (h : GoodT P B G (n + 1) t vs) : ∃ s, vs = [.str s] ∧ s.size ≤ B := by
  simp only [GoodT, hu] at h; exact h
theorem good_slice {P : Program} {B n : Nat} {G : Heap} {t e : TypeId} {vs : List V} (hu : P.underlying t = some (.slice e)) (h : GoodT P B G (n + 1) t vs) :
    ∃ v ls, vs = [v] ∧ SL G v (P.cellsOf e) ls ∧ ls.length ≤ B ∧ ∀ l ∈ ls, GoodT P B G n e l := by
  simp only [GoodT, hu] at h; exact h
theorem val_of {B n : Nat} {G : Heap} {l : List V} (h : GoodT PP B G (n + 2) 71 l) : ∃ v : ValA, l = v.cells ∧ v.s.size ≤ B := by
  obtain ⟨hl, hf⟩ := good_struct Tryd.underlying71 h
  rw [cl71] at hl
  match l, hl with
  | [a, b, c, d], _ =>
    have g0 : GoodT PP B G (n + 1) 5 (([a, b, c, d].drop 0).take (PP.cellsOf 5)) := hf ⟨"Kind", 5, 0, false, "", "", 0⟩ (by simp)
    have g1 : GoodT PP B G (n + 1) 2 (([a, b, c, d].drop 1).take (PP.cellsOf 2)) := hf ⟨"N", 2, 1, false, "", "", 8⟩ (by simp)
    have g2 : GoodT PP B G (n + 1) 34 (([a, b, c, d].drop 2).take (PP.cellsOf 34)) := hf ⟨"F", 34, 2, false, "", "", 16⟩ (by simp)
    have g3 : GoodT PP B G (n + 1) 9 (([a, b, c, d].drop 3).take (PP.cellsOf 9)) := hf ⟨"S", 9, 3, false, "", "", 24⟩ (by simp)
    rw [cl5] at g0
    rw [cl2] at g1
    rw [cl34] at g2
    rw [cl9] at g3
    obtain ⟨i0, e0, _⟩ := good_int Tryd.underlying5 g0
    obtain ⟨i1, e1, _⟩ := good_int Tryd.underlying2 g1
    obtain ⟨i2, e2, _⟩ := good_int Tryd.underlying34 g2
    obtain ⟨i3, e3, hs⟩ := good_str Tryd.underlying9 g3
    simp only [List.drop_zero, List.drop_succ_cons, List.take_succ_cons, List.take_zero, List.cons.injEq, and_true] at e0 e1 e2 e3
    exact ⟨⟨i0, i1, i2, i3⟩, by simp [ValA.cells, e0, e1, e2, e3], hs⟩
theorem attr_of {B n : Nat} {G : Heap} {l : List V} (h : GoodT PP B G (n + 3) 73 l) : ∃ a : AttrA, l = a.cells ∧ a.val.s.size ≤ B := by
  obtain ⟨hl, hf⟩ := good_struct Tryd.underlying73 h
  rw [cl73] at hl
  match l, hl with
  | a :: vs, hl =>
    have g0 : GoodT PP B G (n + 2) 3 (((a :: vs).drop 0).take (PP.cellsOf 3)) := hf ⟨"Key", 3, 0, false, "", "", 0⟩ (by simp)
    have g1 : GoodT PP B G (n + 2) 71 (((a :: vs).drop 1).take (PP.cellsOf 71)) := hf ⟨"Value", 71, 1, false, "", "", 8⟩ (by simp)
    rw [cl3] at g0
    rw [cl71] at g1
    obtain ⟨i0, e0, _⟩ := good_int Tryd.underlying3 g0
    obtain ⟨v, e1, hs⟩ := val_of g1
    simp only [List.drop_zero, List.drop_succ_cons, List.take_succ_cons, List.take_zero, List.cons.injEq, and_true] at e0 e1
    rw [List.take_of_length_le (by simp at hl; omega)] at e1
    exact ⟨⟨i0, v⟩, by rw [e0, e1]; rfl, hs⟩
theorem chg_of {B n : Nat} {G : Heap} {l : List V} (h : GoodT PP B G (n + 3) 93 l) : ∃ c : ChgA, l = c.cells ∧ c.val.s.size ≤ B := by
  obtain ⟨hl, hf⟩ := good_struct Tryd.underlying93 h
  rw [cl93] at hl
  match l, hl with
  | a :: b :: vs, hl =>
    have g0 : GoodT PP B G (n + 2) 3 (((a :: b :: vs).drop 0).take (PP.cellsOf 3)) := hf ⟨"Key", 3, 0, false, "", "", 0⟩ (by simp)
    have g1 : GoodT PP B G (n + 2) 4 (((a :: b :: vs).drop 1).take (PP.cellsOf 4)) := hf ⟨"Gone", 4, 1, false, "", "", 8⟩ (by simp)
    have g2 : GoodT PP B G (n + 2) 71 (((a :: b :: vs).drop 2).take (PP.cellsOf 71)) := hf ⟨"Value", 71, 2, false, "", "", 16⟩ (by simp)
    rw [cl3] at g0
    rw [cl4] at g1
    rw [cl71] at g2
    obtain ⟨i0, e0, _⟩ := good_int Tryd.underlying3 g0
    obtain ⟨i1, e1⟩ := good_bool Tryd.underlying4 g1
    obtain ⟨v, e2, hs⟩ := val_of g2
    simp only [List.drop_zero, List.drop_succ_cons, List.take_succ_cons, List.take_zero, List.cons.injEq, and_true] at e0 e1 e2
    rw [List.take_of_length_le (by simp at hl; omega)] at e2
    exact ⟨⟨i0, i1, v⟩, by rw [e0, e1, e2]; rfl, hs⟩
theorem list_of {α : Type} {G : List V → Prop} {cells : α → List V} {R : α → Prop} (h : ∀ l, G l → ∃ a, l = cells a ∧ R a) : ∀ {ls : List (List V)}, (∀ l ∈ ls, G l) → ∃ xs : List α, ls = xs.map cells ∧ ∀ a ∈ xs, R a
  | [], _ => ⟨[], rfl, by simp⟩
  | l :: ls, hl => by
    obtain ⟨a, rfl, ha⟩ := h l (hl l (by simp))
    obtain ⟨b, rfl, hb⟩ := list_of h (ls := ls) fun q hq => hl q (List.mem_cons_of_mem _ hq)
    exact ⟨a :: b, rfl, fun q hq => by
      rcases List.mem_cons.1 hq with rfl | hq
      · exact ha
      · exact hb q hq⟩
theorem op_of {n : Nat} {G : Heap} {l : List V} (h : GoodT PP big G (n + 5) 41 l) : ∃ o : OpA, l = o.cells ∧ o.In G := by
  obtain ⟨hl, hf⟩ := good_struct Tryd.underlying41 h
  rw [cl41] at hl
  match l, hl with
  | [a, b, c, d, e], _ =>
    have g0 : GoodT PP big G (n + 4) 5 (([a, b, c, d, e].drop 0).take (PP.cellsOf 5)) := hf ⟨"Kind", 5, 0, false, "", "", 0⟩ (by simp)
    have g1 : GoodT PP big G (n + 4) 3 (([a, b, c, d, e].drop 1).take (PP.cellsOf 3)) := hf ⟨"N", 3, 1, false, "", "", 8⟩ (by simp)
    have g2 : GoodT PP big G (n + 4) 37 (([a, b, c, d, e].drop 2).take (PP.cellsOf 37)) := hf ⟨"Runes", 37, 2, false, "", "", 16⟩ (by simp)
    have g3 : GoodT PP big G (n + 4) 38 (([a, b, c, d, e].drop 3).take (PP.cellsOf 38)) := hf ⟨"Set", 38, 3, false, "", "", 40⟩ (by simp)
    have g4 : GoodT PP big G (n + 4) 39 (([a, b, c, d, e].drop 4).take (PP.cellsOf 39)) := hf ⟨"Patch", 39, 4, false, "", "", 64⟩ (by simp)
    rw [cl5] at g0
    rw [cl3] at g1
    rw [cl37] at g2
    rw [cl38] at g3
    rw [cl39] at g4
    obtain ⟨i0, e0, _⟩ := good_int Tryd.underlying5 g0
    obtain ⟨i1, e1, w1⟩ := good_int Tryd.underlying3 g1
    obtain ⟨v2, l2, e2, s2, n2, k2⟩ := good_slice Tryd.underlying37 g2
    obtain ⟨v3, l3, e3, s3, n3, k3⟩ := good_slice Tryd.underlying38 g3
    obtain ⟨v4, l4, e4, s4, n4, k4⟩ := good_slice Tryd.underlying39 g4
    simp only [List.drop_zero, List.drop_succ_cons, List.take_succ_cons, List.take_zero, List.cons.injEq, and_true] at e0 e1 e2 e3 e4
    obtain ⟨rs, rfl, _⟩ := list_of (α := Int) (cells := fun r => [V.int .i32 r]) (R := fun _ => True) (fun l hl => by obtain ⟨i, hi, _⟩ := good_int Tryd.underlying21 hl; exact ⟨i, hi, trivial⟩) k2
    obtain ⟨ats, rfl, ra⟩ := list_of (fun l hl => attr_of (n := n) hl) k3
    obtain ⟨chs, rfl, rc⟩ := list_of (fun l hl => chg_of (n := n) hl) k4
    rw [cl21] at s2
    rw [cl73] at s3
    rw [cl93] at s4
    rw [List.length_map] at n2 n3 n4
    have hw : -9223372036854775808 ≤ i1 ∧ i1 ≤ 9223372036854775807 := by
      simp only [Lit.wf, Bool.and_eq_true, decide_eq_true_eq] at w1
      have h1 : IntKind.i64.min = -9223372036854775808 := by decide
      have h2 : IntKind.i64.max = 9223372036854775807 := by decide
      rw [h1, h2] at w1
      exact w1
    exact ⟨⟨i0, i1, v2, v3, v4, rs, ats, chs⟩, by simp [OpA.cells, e0, e1, e2, e3, e4], ⟨s2, s3, s4, n2, n3, n4, ra, rc, hw.1, hw.2⟩⟩
end Go.Proofs.YtbadbkdpnbacnaaDoor.Fw

/- OpsFits: the call at what a reading of the arguments tells. No condition but what utf8.Valid answers, what slices.SortFunc leaves and the tables, which are hypotheses here. -/
namespace Go.Proofs.YtbadbkdpnbacnaaDoor.Fw
open Go
set_option linter.unusedSimpArgs false
set_option linter.unusedVariables false
set_option maxRecDepth 100000
theorem opsFits_main {vU : ByteArray → Bool} (hU : ValidIs vU) (hS : SortIs) {G : Heap} (hT : Tabs G) {keys x : V} {ks os : List (List V)} (hk : SL G keys 6 ks) (hkl : ks.length ≤ big) (hkg : ∀ l ∈ ks, GoodT PP big G 9 53 l)
    (hx : SL G x 5 os) (hxl : os.length ≤ big) (hxg : ∀ l ∈ os, GoodT PP big G 9 41 l) (n most more : Int) :
    SCalls PP 3 [keys, x, .int .i64 n, .int .i64 most, .int .i64 more] G fun r H' => r = .bool true := by
  obtain ⟨ks, rfl⟩ := keys_of (n := 7) hkg
  obtain ⟨os, rfl, hin⟩ := list_of (fun l hl => op_of (n := 4) hl) hxg
  rw [List.length_map] at hkl hxl
  exact opsFits_calls hU hS hT hk hkl ⟨hx, hin, hxl⟩ n most more
end Go.Proofs.YtbadbkdpnbacnaaDoor.Fw

/- OpsFits: the frame. No condition. -/
namespace Go.Proofs.YtbadbkdpnbacnaaDoor.opsFits
open Go Go.ChangeShapes Go.WideShapes Go.ChangeAt Go.RowKit Go.Proofs.YtbadbkdpnbacnaaDoor.Fw
set_option linter.unusedSimpArgs false
set_option linter.unusedVariables false

set_option maxRecDepth 100000 in
theorem main {W : World} {B : Nat} (hB : B = 1048576) {keys x : V} {ks os : List (List V)} (hk : SL (hOf W) keys 6 ks) (hkl : ks.length ≤ B) (hkg : ∀ l ∈ ks, GoodT PP B (hOf W) 9 53 l)
    (hx : SL (hOf W) x 5 os) (hxl : os.length ≤ B) (hxg : ∀ l ∈ os, GoodT PP B (hOf W) 9 41 l) (n most more : Int) (wn : (Lit.int .i64 n).wf = true) (wm : (Lit.int .i64 most).wf = true) (wr : (Lit.int .i64 more).wf = true) (hL : laidMetH PP Rows.opsFitsRow.laid W) :
    SCalls PP 3 [keys, x, .int .i64 n, .int .i64 most, .int .i64 more] (hOf W) fun r H' => r = .bool true := by
  subst hB
  exact opsFits_main validIs sortIs (tabs_of hL) hk hkl hkg hx hxl hxg n most more

set_option maxRecDepth 100000 in
theorem contract (H : Type) (enc : TypeId × Value → H) (W : World) (base : Nat) (args : Array Value) (ds gs : List (DataW H)) (before : List MemPlace)
    (hval : ∀ (j : Nat) t v, Tryd.f3.params[j]? = some t → args[j]? = some v → Value.okWide Tryd.prog W .any base t v)
    (hW : DataW.Whole enc Tryd.prog Tryd.f3.params.toList Rows.opsFitsSpec.vars false W args.toList ds gs before) (hb : Rows.uptoBulkAll (ds ++ gs) ≤ 1048576) (hL : laidMetH Tryd.prog Rows.opsFitsRow.laid W) :
    Calls Tryd.prog 3 args W fun e W' => ∃ v, e = .returned v ∧ Rows.opsFitsSpec.post enc Tryd.prog Tryd.f3 false true false false W args v W' := by
  have hW' := hW
  obtain ⟨p, q, hA0, hV, rfl, hfz, hnd⟩ := hW
  have hA : DataW.TrodAll enc Tryd.prog W 0 (fun _ => true) true Tryd.f3.params.toList args.toList ds p := hA0
  rw [Tryd.params3] at hA hval
  obtain ⟨v0, vs0, d0, ds0, p0, q0, hargs, rfl, rfl, h0, r0⟩ := trodAll_cons hA
  obtain ⟨v1, vs1, d1, ds1, p1, q1, rfl, rfl, rfl, h1, r1⟩ := trodAll_cons r0
  obtain ⟨v2, vs2, d2, ds2, p2, q2, rfl, rfl, rfl, h2, r2⟩ := trodAll_cons r1
  obtain ⟨v3, vs3, d3, ds3, p3, q3, rfl, rfl, rfl, h3, r3⟩ := trodAll_cons r2
  obtain ⟨v4, vs4, d4, ds4, p4, q4, rfl, rfl, rfl, h4, r4⟩ := trodAll_cons r3
  obtain ⟨rfl, rfl, rfl⟩ := trodAll_nil r4
  obtain rfl : args = #[v0, v1, v2, v3, v4] := by cases args; simp_all
  obtain ⟨rfl, rfl⟩ := trodVars_none hV
  simp only [Rows.uptoBulkAll, List.append_nil] at hb
  have hlt : ∀ x ∈ p0 ++ (p1 ++ (p2 ++ (p3 ++ (p4 ++ [])))) ++ [], x.block < W.heap.size := fun x hx => by simpa using hW'.lt x hx
  obtain ⟨keys, ks, hkv, hks, hkl, hkg⟩ := arg_slice (n := 9) Tryd.underlying22 (by kernel_rfl) (hval 0 22 v0 rfl rfl) h0 (B := 1048576) (by omega)
  obtain ⟨x, os, hxv, hos, hol, hog⟩ := arg_slice (n := 9) Tryd.underlying23 (by kernel_rfl) (hval 1 23 v1 rfl rfl) h1 (B := 1048576) (by omega)
  have h0k := h0
  have h1k := h1
  obtain ⟨n, rfl, rfl, rfl, wn⟩ := open_int Tryd.underlying3 (hval 2 3 v2 rfl rfl) h2
  obtain ⟨most, rfl, rfl, rfl, wm⟩ := open_int Tryd.underlying3 (hval 3 3 v3 rfl rfl) h3
  obtain ⟨more, rfl, rfl, rfl, wr⟩ := open_int Tryd.underlying3 (hval 4 3 v4 rfl rfl) h4
  have walk := calls_of (main (W := W) rfl (keys := keys) (x := x) (ks := ks) (os := os) (by rw [show (6 : Nat) = PP.cellsOf 53 by kernel_rfl]; exact hks) hkl hkg (by rw [show (5 : Nat) = PP.cellsOf 41 by kernel_rfl]; exact hos) hol hog n most more wn wm wr hL)
    (.mk_cons hkv (.mk_cons hxv (.mk_cons (.mk_int _ _) (.mk_cons (.mk_int _ _) (.mk_cons (.mk_int _ _) .mk_nil)))))
  refine walk.mono fun e W' ⟨he, hB⟩ => ?_
  subst he
  refine ⟨_, rfl, _, _, _, [], p0 ++ (p1 ++ ([] ++ ([] ++ ([] ++ [])))), [], hW', trodAll_cons_mk (shut_bool Tryd.underlying4 _) trodAll_mk0, ?_, rfl, hB.frame _, fun h => by cases h⟩
  exact trodAll_cons_mk (Below.trod laidOut (by kernel_rfl) (of_decide_eq_true (by kernel_rfl)) h0k hB (fun x hx => hlt x (by simp [hx])))
    (trodAll_cons_mk (Below.trod laidOut (by kernel_rfl) (of_decide_eq_true (by kernel_rfl)) h1k hB (fun x hx => hlt x (by simp [hx])))
    (trodAll_cons_mk (shut_int Tryd.underlying3 wn) (trodAll_cons_mk (shut_int Tryd.underlying3 wm) (trodAll_cons_mk (shut_int Tryd.underlying3 wr) trodAll_mk0))))

/-- A WORLD FOR THE WITNESS. -/
def flatD : DataW Unit → List Value
  | .lit (.int k n) => [.int k n]
  | .agg l => flatDL l
  | _ => []
where flatDL : List (DataW Unit) → List Value
  | [] => []
  | d :: l => flatD d ++ flatDL l
def setCells (l : List Value) : Obj → Obj
  | .cells _ t frozen => .cells l.toArray t frozen
  | o => o
noncomputable def laidWorld (os : Os) : World :=
  { World.holding Tryd.prog os ⟨#[], #[], []⟩ with heap := ((World.holding Tryd.prog os ⟨#[], #[], []⟩).heap.modify 1 (setCells (flatD Rows.laid_unicode_utf8_first))).modify 2 (setCells (flatD Rows.laid_unicode_utf8_acceptRanges)) }
def wargs : Array Value := #[.slice none 0 0, .slice none 0 0, .int .i64 0, .int .i64 0, .int .i64 0]
theorem laid_met (os : Os) : laidMet Tryd.prog Rows.opsFitsRow.laid ((laidWorld os).forCall (fun _ _ => 0) ⟨#[], wargs, []⟩).memory :=
  laidMet_of_run' 8 (by kernel_rfl) (by kernel_rfl)
theorem reads (os : Os) {H : Type} (enc : TypeId × Value → H) : ∃ places, DataW.whole enc Tryd.prog ((laidWorld os).forCall (fun _ _ => 0) ⟨#[], wargs, []⟩).memory Tryd.f3.params.toList Rows.opsFitsSpec.vars false wargs.toList 8 = some ([.nil, .nil, .lit (.int .i64 0), .lit (.int .i64 0), .lit (.int .i64 0)], [], places) :=
  ⟨[], by kernel_rfl⟩

set_option maxRecDepth 100000 in
theorem liftedUpto (os : Os) (started : os.Started) (H : Type) (enc : TypeId × Value → H) (F : Stop.Interp) :
    ReturnsInHanded {} Tryd.checked os 3 .any ((Rows.OpenSpec.upto Rows.opsFitsSpec).preRow enc Tryd.prog Tryd.f3 Rows.opsFitsUptoRow.domain false Rows.opsFitsUptoRow.laid) (((Rows.OpenSpec.upto Rows.opsFitsSpec).at F).post enc Tryd.prog Tryd.f3 false true false false) := by
  obtain ⟨places, hx⟩ := reads os enc
  refine returnsInHanded_of_row (C := Tryd.checked) (s := Rows.OpenSpec.upto Rows.opsFitsSpec) own started (by kernel_rfl) Tryd.func3
    (witness_row_at (enc := enc) (C := Tryd.checked) false (laidWorld os) wargs rfl (by kernel_rfl) (by kernel_rfl) (by kernel_rfl)
      (OpenSpec.preRow_of_cond 8 hx (by kernel_rfl) (fun k hk => (by cases hk; kernel_rfl)) (by kernel_rfl) (laid_met os))) ?_
  intro W base args ds gs before hval hW _ hcond _ hL _ _
  exact contract H enc W base args ds gs before hval hW (of_decide_eq_true (hcond _ rfl)) hL

theorem saidUpto : Rows.OpsFitsUptoSaid :=
  OpenClaim.holds_of_cond 3 Tryd.f3 rfl rfl rfl rfl rfl rfl rfl ⟨rfl, rfl, rfl, rfl, rfl⟩ rfl rfl rfl rfl rfl (by kernel_rfl) Tryd.func3 (by kernel_rfl)
    (of_decide_eq_true (by kernel_rfl)) (by unfold Func.isWrapper; first | (rw [if_pos (by decide +kernel)]; kernel_rfl) | (rw [if_neg (by decide +kernel)]; exact ⟨rfl, rfl⟩))
    (fun os started H enc _ F => by rw [OpenClaim.pre_eq_preRow]; exact liftedUpto os started H enc F)

theorem plain (f : FuncId) (fn : Func) (hf : Tryd.pinned.checked.prog.funcNamed "rubric/rubriclaw15.OpsFits" = some f) (hfn : Tryd.pinned.checked.prog.funcs[f]? = some fn) :
    false = Tryd.pinned.checked.prog.looks [] ∧ ∀ (j : Nat) t, fn.params[j]? = some t → Tryd.pinned.checked.prog.wantsStandIn t = false := by
  obtain rfl : f = 3 := Option.some.inj ((show Tryd.prog.funcNamed "rubric/rubriclaw15.OpsFits" = some 3 by kernel_rfl).symm.trans hf) |>.symm
  obtain rfl : fn = Tryd.f3 := (Option.some.inj (Tryd.func3.symm.trans hfn)).symm
  refine ⟨by kernel_rfl, fun j t ht => ?_⟩
  rw [Tryd.params3] at ht
  have hm : t ∈ #[22, 23, 3, 3, 3] := Array.mem_of_getElem? ht
  simp at hm
  rcases hm with rfl | rfl | rfl
  · exact (show Tryd.prog.wantsStandIn 22 = false by kernel_rfl)
  · exact (show Tryd.prog.wantsStandIn 23 = false by kernel_rfl)
  · exact (show Tryd.prog.wantsStandIn 3 = false by kernel_rfl)

/-- THE CARD. -/
theorem cardUpto : Rows.OpsFitsUptoCardSaid :=
  Claim7.holds_tied_plain_at .later [] _ _ _ _ saidUpto (fun _ h => by cases h) (by kernel_rfl) (fun _ h => by cases h) opsFitsUpto_row_tie rfl ⟨rfl, rfl⟩ (by kernel_rfl) rfl plain (by kernel_rfl)
end Go.Proofs.YtbadbkdpnbacnaaDoor.opsFits

