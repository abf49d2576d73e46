/- Part 3 of the proof. HistoryBrackets: what is pushed in a bracket is one group; a bracket with nothing is none, and leaves what can be done again; undo and redo are refused within; on the one condition that the arguments hold together at most 2^20 data, as the statement's own bound says. -/
import Derived.ChangeSame
import Derived.Test.YtkmaikggdbielaaGreatDoorBracketsM2

/- The tables of unicode/utf8 as the rows' own cells lay them. No condition. -/
namespace Go.Proofs.YtkmaikggdbielaaGreatDoor.Fw
open Go Go.Lib Go.ChangeShapes Go.WideShapes Go.ChangeAt Go.RowKit
set_option maxRecDepth 10000
set_option linter.unusedSimpArgs false
set_option linter.unusedVariables false

theorem hOf_get {W : World} {g : Nat} {c : Array Value} {e : TypeId} {fz : Nat × Nat} (h : W.heap[g]? = some (.cells c e fz)) : (hOf W).get g = some (.row true 0 (pref W c.toList)) := by
  have hg := (Array.getElem?_eq_some_iff.1 h).1
  have e1 : hPl W g = ⟨g, 0, c.size⟩ := by simp only [hPl, hg, if_true, h, obSize]
  have e2 : g < hNext W := by unfold hNext; omega
  simp only [hOf, e2, if_true, e1, h, List.drop_zero]
/-- A package-level variable of numbers. -/
theorem hOf_glob {W : World} {g : Nat} {k : IntKind} {zs : List Int} (hz : zs ≠ []) (h : ∀ i : Nat, i < zs.length → W.cell? ⟨g, i, none⟩ = some (.int k (zs.getD i 0))) : At (hOf W) g 0 (zs.map (V.int k)) := by
  have hpos : 0 < zs.length := List.length_pos_iff.2 hz
  obtain ⟨_, c, e, fz, hb, h0⟩ := cell_block (h 0 hpos)
  simp only at hb
  have hc : ∀ i : Nat, i < zs.length → c.toList[i]? = some (.int k (zs.getD i 0)) := fun i hi => by
    obtain ⟨_, c', e', fz', hb', h1⟩ := cell_block (h i hi)
    simp only at hb' h1
    rw [hb] at hb'
    cases hb'
    simpa using h1
  have hp : ∀ i : Nat, i < zs.length → (pref W c.toList)[i]? = some (.int k (zs.getD i 0)) := fun i hi =>
    pref_of W (n := zs.length) (fun j hj => ⟨_, _, hc j hj, rfl⟩) i hi _ _ (hc i hi) rfl
  have hl : zs.length ≤ (pref W c.toList).length := by
    have := (List.getElem?_eq_some_iff.1 (hp (zs.length - 1) (by omega))).1
    omega
  refine ⟨?_, true, 0, _, hOf_get hb, by rw [List.length_map, Nat.zero_add]; exact hl, fun j v hj => ?_⟩
  · have hg := (Array.getElem?_eq_some_iff.1 hb).1
    show g < hNext W
    unfold hNext; omega
  · have hj' : j < zs.length := by have := (List.getElem?_eq_some_iff.1 hj).1; simpa using this
    rw [Nat.zero_add, hp j hj']
    simp [hj'] at hj
    subst hj
    simp [List.getD_eq_getElem?_getD, hj']

theorem acc_pairs {W : World} {fuel : Nat} {cs : List Value} {p : List MemPlace} (h : DataW.trod (fun _ => ()) PP W 0 (fun _ => true) false fuel 205 cs = some (Rows.laid_unicode_utf8_acceptRanges, p)) : cs = accT.map fun z => Value.int .u8 z := by
  have t156 : PP.underlying 205 = some (.array 16 204) := by kernel_rfl
  have c155 : PP.cellsOf 204 = 2 := by kernel_rfl
  have c156 : PP.cellsOf 205 = 32 := by kernel_rfl
  have c5 : PP.cellsOf 5 = 1 := by kernel_rfl
  have t5 : PP.underlying 5 = some (.int .u8) := by kernel_rfl
  have t155 := Go.Proofs.Tryz.underlying204
  cases fuel with
  | zero => simp [DataW.trod] at h
  | succ fuel =>
    simp only [DataW.trod, t156, c155] at h
    split at h
    · rename_i hl
      obtain ⟨xs, hm, hx⟩ := Option.map_eq_some_iff.1 h
      have hxs : DataW.agg (xs.map (·.1)) = (Rows.laid_unicode_utf8_acceptRanges : DataW Unit) := congrArg Prod.fst hx
      have hl' : cs.length = 32 := hl.trans c156
      apply List.ext_getElem?
      intro i
      by_cases hi : i < 32
      · obtain ⟨b, hb, hf⟩ := mapM_at hm (i / 2) (i / 2) (List.getElem?_range (by omega))
        obtain ⟨y0, y1, n, hb', _, h0, h1⟩ := trod_struct2 t155 hf
        rw [c5] at h0 h1
        obtain ⟨z0, e0, x0, _⟩ := DataW.trod_int t5 h0
        obtain ⟨z1, e1, x1, _⟩ := DataW.trod_int t5 h1
        have k0 : cs[i / 2 * 2]? = some (.int .u8 z0) := by
          have := congrArg (·[0]?) e0
          simpa [List.getElem?_take, List.getElem?_drop] using this
        have k1 : cs[i / 2 * 2 + 1]? = some (.int .u8 z1) := by
          have := congrArg (·[0]?) e1
          simpa [List.getElem?_take, List.getElem?_drop] using this
        have hq : (xs.map (·.1))[i / 2]? = some (.agg [.lit (.int .u8 z0), .lit (.int .u8 z1)]) := by
          rw [List.getElem?_map, hb]
          simp [hb', x0, x1]
        have hlist : xs.map (·.1) = (List.range 16).map fun q => (DataW.agg [.lit (.int .u8 (accT.getD (q * 2) 0)), .lit (.int .u8 (accT.getD (q * 2 + 1) 0))] : DataW Unit) := by
          have : (DataW.agg (xs.map (·.1)) : DataW Unit) = DataW.agg ((List.range 16).map fun q => (DataW.agg [.lit (.int .u8 (accT.getD (q * 2) 0)), .lit (.int .u8 (accT.getD (q * 2 + 1) 0))] : DataW Unit)) := by rw [hxs]; kernel_rfl
          exact DataW.agg.inj this
        rw [hlist, List.getElem?_map, List.getElem?_range (by omega)] at hq
        simp only [Option.map_some, Option.some.injEq, DataW.agg.injEq, List.cons.injEq, DataW.lit.injEq, Lit.int.injEq, true_and, and_true] at hq
        have hlen : accT.length = 32 := by decide
        have ha : (accT.map fun z => Value.int .u8 z)[i]? = some (.int .u8 (accT.getD i 0)) := by simp [List.getD_eq_getElem?_getD, hlen, hi]
        rw [ha]
        by_cases hp : i % 2 = 0
        · rw [show i = i / 2 * 2 by omega, k0, ← hq.1]
        · rw [show i = i / 2 * 2 + 1 by omega, k1, ← hq.2]
      · have hlen : accT.length = 32 := by decide
        rw [List.getElem?_eq_none (by omega), List.getElem?_eq_none (by simp [hlen]; omega)]
    · cases h

abbrev laidU : List (String × DataW Unit) := [("unicode/utf8.acceptRanges", Rows.laid_unicode_utf8_acceptRanges), ("unicode/utf8.first", Rows.laid_unicode_utf8_first)]
theorem tabs_of {W : World} (hL : laidMetH PP laidU W) : Tabs (hOf W) := by
  have h : laidMet PP laidU W := hL
  obtain ⟨ps, ⟨g, t, cs, fuel, p, q, hg, ht, hv, hd, ⟨g', t', cs', fuel', p', q', hg', ht', hv', hd', _, _⟩, _⟩, _⟩ := h
  have e2 : PP.globalNamed "unicode/utf8.acceptRanges" = some 2 := by kernel_rfl
  have e1 : PP.globalNamed "unicode/utf8.first" = some 1 := by kernel_rfl
  have y2 : (PP.globals[2]?).map (·.type) = some 205 := by kernel_rfl
  have y1 : (PP.globals[1]?).map (·.type) = some 202 := by kernel_rfl
  obtain rfl := Option.some.inj (e2.symm.trans hg)
  obtain rfl := Option.some.inj (e1.symm.trans hg')
  obtain rfl := Option.some.inj (y2.symm.trans ht)
  obtain rfl := Option.some.inj (y1.symm.trans ht')
  have h2 := acc_pairs hd
  have hf : (Rows.laid_unicode_utf8_first : DataW Unit) = tabData .u8 firstT := by kernel_rfl
  rw [hf] at hd'
  have h1 := cells_of_tab (n := 256) (k := .u8) (e := 5) (by kernel_rfl) (by kernel_rfl) (by kernel_rfl) (by kernel_rfl) hd'
  have cell : ∀ (name : String) (g : Nat) (cs : Array Value) (zs : List Int), PP.globalNamed name = some g → W.var? PP name = some cs → cs.toList = (zs.map fun z => Value.int .u8 z) → ∀ i : Nat, i < zs.length → W.cell? ⟨g, i, none⟩ = some (.int .u8 (zs.getD i 0)) := by
    intro name g cs zs hg hv hc i hi
    rw [World.var?_cell hg hv i, ← Array.getElem?_toList, hc]
    simp [List.getD_eq_getElem?_getD, hi]
  have hs : 2 < W.heap.size := by
    obtain ⟨_, c, e, fz, hb, _⟩ := cell_block (cell _ _ _ _ e2 hv h2 0 (by decide +kernel))
    exact (Array.getElem?_eq_some_iff.1 hb).1
  exact ⟨hs, hOf_glob (by decide +kernel) (cell _ _ _ _ e1 hv' h1), hOf_glob (by decide +kernel) (cell _ _ _ _ e2 hv h2)⟩
end Go.Proofs.YtkmaikggdbielaaGreatDoor.Fw

/- Vectors that grow, and what stays as it is while others change. No condition. -/
namespace Go.Proofs.YtkmaikggdbielaaGreatDoor.Fw
open Go
set_option linter.unusedSimpArgs false
set_option linter.unusedVariables false

/-! ### What stays -/
/-- H' has all that H has but at M's, as it was. -/
structure ExtM (M : Nat → Prop) (H H' : Heap) : Prop where
  gn : H'.gn = H.gn
  next : H.next ≤ H'.next
  get : ∀ id, id < H.next → ¬ M id → H'.get id = H.get id
theorem ExtM.refl (M : Nat → Prop) (H : Heap) : ExtM M H H := ⟨rfl, Nat.le_refl _, fun _ _ _ => rfl⟩
theorem ExtM.trans {M : Nat → Prop} {a b c : Heap} (h : ExtM M a b) (k : ExtM M b c) : ExtM M a c :=
  ⟨k.gn.trans h.gn, Nat.le_trans h.next k.next, fun id hi hm => (k.get id (Nat.lt_of_lt_of_le hi h.next) hm).trans (h.get id hi hm)⟩
theorem Ext.toM {a b : Heap} (h : Ext a b) (M : Nat → Prop) : ExtM M a b := ⟨h.gn, h.next, fun id hi _ => h.get id hi⟩
/-- Grown mutable things lie behind. -/
def MGrow (M M' : Nat → Prop) (H : Heap) : Prop := ∀ id, M' id → M id ∨ H.next ≤ id
theorem MGrow.refl (M : Nat → Prop) (H : Heap) : MGrow M M H := fun _ h => .inl h
theorem ExtM.step {M M' : Nat → Prop} {a b c : Heap} (h : ExtM M a b) (g : MGrow M M' a) (k : ExtM M' b c) : ExtM M a c :=
  ⟨k.gn.trans h.gn, Nat.le_trans h.next k.next, fun id hi hm => (k.get id (Nat.lt_of_lt_of_le hi h.next) (fun hm' => by
    rcases g id hm' with q | q
    · exact hm q
    · omega)).trans (h.get id hi hm)⟩
theorem MGrow.trans {M M' M2 : Nat → Prop} {a b : Heap} (h : MGrow M M' a) (k : MGrow M' M2 b) (hn : a.next ≤ b.next) : MGrow M M2 a := fun id h2 => by
  rcases k id h2 with q | q
  · exact h id q
  · exact .inr (Nat.le_trans hn q)
theorem ExtM.minus {M N : Nat → Prop} {H H' : Heap} (h : ExtM M H H') (k : ∀ j, j < H.next → N j → H'.get j = H.get j) : ExtM (fun j => M j ∧ ¬ N j) H H' :=
  ⟨h.gn, h.next, fun j hj hm => by
    by_cases hn : N j
    · exact k j hj hn
    · exact h.get j hj fun e => hm ⟨e, hn⟩⟩
theorem ExtM.whole {M N : Nat → Prop} {H H' : Heap} (h : ExtM (fun j => M j ∧ ¬ N j) H H') : ExtM M H H' := ⟨h.gn, h.next, fun j hj hm => h.get j hj fun e => hm e.1⟩
theorem ExtM.stepN {M M' N : Nat → Prop} {a b c : Heap} (h : ExtM (fun j => M j ∧ ¬ N j) a b) (g : MGrow M M' a) (k : ExtM (fun j => M' j ∧ ¬ N j) b c) : ExtM (fun j => M j ∧ ¬ N j) a c :=
  h.step (M' := fun j => M' j ∧ ¬ N j) (fun j hj => (g j hj.1).imp (fun e => ⟨e, hj.2⟩) id) k
/-- P holds, whatever happens at M's. -/
def Fz (M : Nat → Prop) (H : Heap) (P : Heap → Prop) : Prop := ∀ H', ExtM M H H' → P H'
theorem Fz.here {M : Nat → Prop} {H : Heap} {P : Heap → Prop} (h : Fz M H P) : P H := h H (ExtM.refl M H)
theorem Fz.step {M M' : Nat → Prop} {H H' : Heap} {P : Heap → Prop} (h : Fz M H P) (k : ExtM M H H') (g : MGrow M M' H) : Fz M' H' P := fun _ q => h _ (k.step g q)
theorem Fz.mono {M : Nat → Prop} {H : Heap} {P Q : Heap → Prop} (h : Fz M H P) (k : ∀ H', P H' → Q H') : Fz M H Q := fun H' q => k _ (h H' q)
/-- What stays under growth alone stays where it lies outside M's. -/
theorem Fz.const {M : Nat → Prop} {H : Heap} {P : Prop} (h : P) : Fz M H fun _ => P := fun _ _ => h

theorem At.extM {M : Nat → Prop} {H H' : Heap} {id o : Nat} {e : List V} (h : At H id o e) (k : ExtM M H H') (hm : ¬ M id) : At H' id o e := by
  obtain ⟨h1, ro, esz, cells, h2, h3⟩ := h
  exact ⟨Nat.lt_of_lt_of_le h1 k.next, ro, esz, cells, by rw [k.get id h1 hm]; exact h2, h3⟩
theorem Own.extM {M : Nat → Prop} {H H' : Heap} {id sz : Nat} {es : List (List V)} (h : Own H id sz es) (k : ExtM M H H') (hm : ¬ M id) : Own H' id sz es :=
  ⟨Nat.lt_of_lt_of_le h.lt k.next, by rw [k.get id h.lt hm]; exact h.get, h.len⟩
/-- An owned row outside M's is frozen. -/
theorem Own.fz {M : Nat → Prop} {H : Heap} {id sz : Nat} {es : List (List V)} (h : Own H id sz es) (hm : ¬ M id) : Fz M H fun H' => Own H' id sz es := fun _ k => h.extM k hm

/-! ### Vectors -/
/-- r holds the elements es and may be appended to; k: the row that an append takes over. -/
def Vec (H : Heap) (r : V) (sz : Nat) (es : List (List V)) (k : Option Nat) : Prop :=
  (∀ e ∈ es, e.length = sz ∧ e.all V.one = true) ∧
  ((r = .nils ∧ es = [] ∧ k = none) ∨
   (∃ id off, r = .slice id off es.length (some es.length) ∧ SL H r sz es ∧ k = none) ∨
   (∃ id, r = .slice id 0 es.length none ∧ Own H id sz es ∧ k = some id) ∨
   (es = [] ∧ ∃ id cells, r = .slice id 0 0 none ∧ id < H.next ∧ H.get id = some (.row false sz cells) ∧ cells.all V.one = true ∧ k = some id))
theorem Vec.nil (H : Heap) (sz : Nat) : Vec H .nils sz [] none := ⟨by simp, .inl ⟨rfl, rfl, rfl⟩⟩
theorem Vec.sl {H : Heap} {r : V} {sz : Nat} {es : List (List V)} {k : Option Nat} (h : Vec H r sz es k) : SL H r sz es := by
  obtain ⟨h0, ⟨rfl, rfl, _⟩ | ⟨id, off, rfl, h, _⟩ | ⟨id, rfl, h, _⟩ | ⟨rfl, id, cells, rfl, h1, h2, h3⟩⟩ := h
  · exact ⟨h0, .inl ⟨rfl, rfl⟩⟩
  · exact h
  · exact h.sl none
  · exact ⟨h0, .inr ⟨id, 0, none, rfl, h1, fun i e he => by simp at he⟩⟩
theorem Vec.len {H : Heap} {r : V} {sz : Nat} {es : List (List V)} {k : Option Nat} (h : Vec H r sz es k) (H' : Heap) : exec .len [r] H' = some (.int .i64 es.length, H') := h.sl.len
theorem Vec.lt {H : Heap} {r : V} {sz : Nat} {es : List (List V)} {j : Nat} (h : Vec H r sz es (some j)) : j < H.next := by
  obtain ⟨_, ⟨_, _, h⟩ | ⟨_, _, _, _, h⟩ | ⟨id, _, h, e⟩ | ⟨_, id, cells, _, h1, _, _, e⟩⟩ := h
  · cases h
  · cases h
  · cases e; exact h.lt
  · cases e; exact h1
theorem Vec.one {H : Heap} {r : V} {sz : Nat} {es : List (List V)} {k : Option Nat} (h : Vec H r sz es k) : r.one = true ∧ r.cells = [r] := by
  obtain ⟨_, ⟨rfl, _⟩ | ⟨id, off, rfl, _⟩ | ⟨id, rfl, _⟩ | ⟨_, id, cells, rfl, _⟩⟩ := h <;> exact ⟨rfl, rfl⟩
/-- A vector stays where its row is untouched. -/
theorem Vec.keep {H H' : Heap} {r : V} {sz : Nat} {es : List (List V)} {k : Option Nat} (h : Vec H r sz es k) (hn : H.next ≤ H'.next) (hk : ∀ j, k = some j → H'.get j = H.get j) (hs : k = none → SL H r sz es → SL H' r sz es) : Vec H' r sz es k := by
  obtain ⟨h0, h | ⟨id, off, e1, h, e2⟩ | ⟨id, e1, h, e2⟩ | ⟨e0, id, cells, e1, h1, h2, h3, e2⟩⟩ := h
  · exact ⟨h0, .inl h⟩
  · exact ⟨h0, .inr (.inl ⟨id, off, e1, hs e2 h, e2⟩)⟩
  · exact ⟨h0, .inr (.inr (.inl ⟨id, e1, ⟨Nat.lt_of_lt_of_le h.lt hn, by rw [hk id e2]; exact h.get, h.len⟩, e2⟩))⟩
  · exact ⟨h0, .inr (.inr (.inr ⟨e0, id, cells, e1, Nat.lt_of_lt_of_le h1 hn, by rw [hk id e2]; exact h2, h3, e2⟩))⟩
theorem Vec.ext {H H' : Heap} {r : V} {sz : Nat} {es : List (List V)} {k : Option Nat} (h : Vec H r sz es k) (x : Ext H H') : Vec H' r sz es k :=
  h.keep x.next (fun j e => by subst e; exact x.get j h.lt) fun _ s => s.ext x

theorem get_new_ne {H : Heap} {o : Ob} {j : Nat} (h : j < H.next) : (H.new o).get j = H.get j := by rw [Heap.new_get, if_neg (by omega)]
theorem wf_kill_new {H : Heap} (h : WF H) (i : Nat) (o : Ob) : WF ((H.kill i).new o) := (h.kill i).new o

/-- append. -/
theorem Vec.app {H : Heap} (hw : WF H) {r x : V} {sz bytes n : Nat} {es news : List (List V)} {k : Option Nat} (h : Vec H r sz es k) (hsz : sz ≠ 0) (hn : news.length = n) (hn0 : n ≠ 0) (hx : lenV x = some n) (hs : srcCells H n sz x = some news.flatten)
    (hl : ∀ e ∈ news, e.length = sz ∧ e.all V.one = true) (hb : (es.length + n) * bytes ≤ 140737488355328) (hb2 : es.length + n ≤ 4611686018427387904) :
    ∃ H', exec (.app sz bytes) [r, x] H = some (.slice H.next 0 (es.length + n) none, H') ∧ Vec H' (.slice H.next 0 (es.length + n) none) sz (es ++ news) (some H.next) ∧ Own H' H.next sz (es ++ news) ∧
      WF H' ∧ H'.next = H.next + 1 ∧ H'.gn = H.gn ∧ ∀ j, j < H.next → k ≠ some j → H'.get j = H.get j := by
  have hfl := flatLen fun e he => (hl e he).1
  have hfa := flatAll fun e he => (hl e he).2
  have h0 := h.1
  have hlen : (es ++ news).length = es.length + n := by rw [List.length_append, hn]
  have hall : ∀ e ∈ es ++ news, e.length = sz ∧ e.all V.one = true := fun e he => by
    rcases List.mem_append.1 he with q | q
    · exact h0 e q
    · exact hl e q
  have hcond : ¬ (news.flatten.length ≠ n * sz ∨ ¬ news.flatten.all V.one = true ∨ sz = 0) := by
    rw [hfl, hn, hfa]; simp; exact hsz
  have fin : ∀ (G : Heap), WF G → G.next = H.next → G.gn = H.gn → (∀ j, j < H.next → k ≠ some j → G.get j = H.get j) → ∀ cells, cells = (es ++ news).flatten →
      Vec (G.new (.row false sz cells)) (.slice H.next 0 (es.length + n) none) sz (es ++ news) (some H.next) ∧ Own (G.new (.row false sz cells)) H.next sz (es ++ news) ∧
      WF (G.new (.row false sz cells)) ∧ (G.new (.row false sz cells)).next = H.next + 1 ∧ (G.new (.row false sz cells)).gn = H.gn ∧ ∀ j, j < H.next → k ≠ some j → (G.new (.row false sz cells)).get j = H.get j := by
    intro G hg e1 e2 e3 cells ec
    have ow : Own (G.new (.row false sz cells)) H.next sz (es ++ news) := ⟨by rw [Heap.new_next, e1]; omega, by rw [← e1, new_get, ec], hall⟩
    exact ⟨⟨hall, .inr (.inr (.inl ⟨H.next, by rw [hlen], ow, rfl⟩))⟩, ow, hg.new _, by rw [Heap.new_next, e1], e2, fun j hj hk => by rw [get_new_ne (by omega), e3 j hj hk]⟩
  obtain ⟨_, ⟨rfl, rfl, rfl⟩ | ⟨id, off, rfl, hsl, rfl⟩ | ⟨id, rfl, ho, rfl⟩ | ⟨rfl, id, cells, rfl, h1, h2, h3, rfl⟩⟩ := h
  · refine ⟨H.new (.row false sz news.flatten), ?_, fin H hw rfl rfl (fun _ _ _ => rfl) _ (by simp)⟩
    simp only [exec, appendA, hx, hs]
    rw [if_neg hcond, if_neg hn0]
    simp only [List.length_nil, Nat.zero_add] at hb hb2 ⊢
    rw [if_pos ⟨hb, by omega⟩]
  · have hz : es.length = 0 ∨ 0 < es.length := by omega
    refine ⟨H.new (.row false sz (es ++ news).flatten), ?_, fin H hw rfl rfl (fun _ _ _ => rfl) _ rfl⟩
    have hold : readN H (es.length * sz) (.slice id off es.length (some es.length)) = some es.flatten := by
      rcases hz with hz | hz
      · have : es = [] := List.eq_nil_of_length_eq_zero hz
        subst this
        simp [readN]
      · obtain ⟨_, s2⟩ := hsl.src (by intro e; rw [e] at hz; simp at hz)
        simpa [srcCells] using s2
    simp only [exec, appendA, hx, hs]
    rw [if_neg hcond, if_neg hn0, if_neg (by simp; omega), if_neg (by omega)]
    simp only [hold, Option.bind_some]
    rw [if_pos (flatAll fun e he => (h0 e he).2), List.flatten_append]
  · have hfe := flatLen fun e he => (h0 e he).1
    refine ⟨(H.kill id).new (.row false sz (es ++ news).flatten), ?_, fin (H.kill id) (hw.kill id) rfl rfl (fun j hj hk => by rw [Heap.kill_get, if_neg (fun e => hk (by rw [e]))]) _ rfl⟩
    simp only [exec, appendA, hx, hs]
    rw [if_neg hcond, if_neg hn0, if_neg (by simp; omega)]
    simp only [ho.get]
    rw [if_pos ⟨by trivial, by omega, flatAll fun e he => (h0 e he).2⟩, List.drop_zero, List.take_of_length_le (by omega), List.flatten_append]
  · refine ⟨(H.kill id).new (.row false sz news.flatten), ?_, fin (H.kill id) (hw.kill id) rfl rfl (fun j hj hk => by rw [Heap.kill_get, if_neg (fun e => hk (by rw [e]))]) _ (by simp)⟩
    simp only [exec, appendA, hx, hs]
    rw [if_neg hcond, if_neg hn0, if_neg (by simp at hb hb2 ⊢; omega)]
    simp only [h2]
    rw [if_pos ⟨by trivial, by simp, h3⟩]
    simp
/-- append of nothing. -/
theorem x_app0 {H : Heap} {r x : V} {sz bytes : Nat} (hr : r = .nils ∨ ∃ id off len cap, r = .slice id off len cap) (hx : lenV x = some 0) (hs : srcCells H 0 sz x = some []) (hsz : sz ≠ 0) : exec (.app sz bytes) [r, x] H = some (r, H) := by
  rcases hr with rfl | ⟨id, off, len, cap, rfl⟩
  · simp only [exec, appendA, hx, hs]
    rw [if_neg (by simp; exact hsz)]
    simp only [if_true]
  · simp only [exec, appendA, hx, hs]
    rw [if_neg (by simp; exact hsz)]
    simp only [if_true]
theorem SL.src0 {H : Heap} {x : V} {sz : Nat} (h : SL H x sz []) : lenV x = some 0 ∧ srcCells H 0 sz x = some [] := by
  obtain ⟨_, ⟨rfl, _⟩ | ⟨id, off, cap, rfl, _⟩⟩ := h
  · exact ⟨rfl, by simp [srcCells, readN]⟩
  · exact ⟨rfl, by simp [srcCells, readN]⟩
theorem Vec.shape {H : Heap} {r : V} {sz : Nat} {es : List (List V)} {k : Option Nat} (h : Vec H r sz es k) : r = .nils ∨ ∃ id off len cap, r = .slice id off len cap := by
  obtain ⟨_, ⟨rfl, _⟩ | ⟨id, off, rfl, _⟩ | ⟨id, rfl, _⟩ | ⟨_, id, cells, rfl, _⟩⟩ := h
  · exact .inl rfl
  · exact .inr ⟨_, _, _, _, rfl⟩
  · exact .inr ⟨_, _, _, _, rfl⟩
  · exact .inr ⟨_, _, _, _, rfl⟩

/-! ### What may be cut -/
/-- A slice may be cut anywhere within its length. -/
def CutOk (H : Heap) (x : V) (sz : Nat) : Prop := ∀ id off n cap, x = .slice id off n cap → id < H.next ∧ (∀ c, cap = some c → n ≤ c) ∧ slcOk H sz id cap false = true
theorem CutOk.nils (H : Heap) (sz : Nat) : CutOk H .nils sz := fun _ _ _ _ e => by cases e
theorem Vec.cutOk {H : Heap} {r : V} {sz : Nat} {es : List (List V)} {k : Option Nat} (h : Vec H r sz es k) : CutOk H r sz := by
  intro id' off' n' cap' e
  have hs := h.sl
  obtain ⟨_, ⟨rfl, _⟩ | ⟨id, off, rfl, hsl, _⟩ | ⟨id, rfl, ho, _⟩ | ⟨_, id, cells, rfl, h1, h2, _⟩⟩ := h
  · cases e
  · cases e
    obtain ⟨_, ⟨e, _⟩ | ⟨id2, off2, cap2, e1, e2, _⟩⟩ := hs
    · cases e
    · cases e1
      exact ⟨e2, fun c e => by cases e; omega, rfl⟩
  · cases e
    exact ⟨ho.lt, fun c e => (by cases e), by simp [slcOk, ho.get]⟩
  · cases e
    exact ⟨h1, fun c e => (by cases e), by simp [slcOk, h2]⟩
theorem CutOk.keep {H H' : Heap} {x : V} {sz : Nat} (h : CutOk H x sz) (hn : H.next ≤ H'.next) (hk : ∀ id off n, x = .slice id off n none → H'.get id = H.get id) : CutOk H' x sz := by
  intro id off n cap e
  obtain ⟨a, b, c⟩ := h id off n cap e
  refine ⟨Nat.lt_of_lt_of_le a hn, b, ?_⟩
  cases cap with
  | some c => rfl
  | none =>
    simp only [slcOk, hk id off n e] at c ⊢
    exact c
theorem CutOk.ext {H H' : Heap} {x : V} {sz : Nat} (h : CutOk H x sz) (k : Ext H H') : CutOk H' x sz := h.keep k.next fun id off n e => k.get id (h id off n _ e).1
theorem Vec.fzCut {M : Nat → Prop} {G H : Heap} {r : V} {sz : Nat} {es : List (List V)} {k : Option Nat} (h : Vec G r sz es k) (hn : G.next ≤ H.next) (hk : ∀ j, k = some j → ¬ M j ∧ H.get j = G.get j) : Fz M H fun H' => CutOk H' r sz := by
  intro H' hx
  refine h.cutOk.keep (Nat.le_trans hn hx.next) fun id off n e => ?_
  have key : k = some id := by
    obtain ⟨_, ⟨rfl, _⟩ | ⟨id, off, rfl, hsl, _⟩ | ⟨id, rfl, ho, q⟩ | ⟨_, id, cells, rfl, h1, h2, _, q⟩⟩ := h
    · cases e
    · cases e
    · cases e; exact q
    · cases e; exact q
  obtain ⟨a, b⟩ := hk id key
  rw [hx.get id (Nat.lt_of_lt_of_le (by rw [key] at h; exact h.lt) hn) a, b]
/-- A cut. -/
theorem SL.sub {H : Heap} {x : V} {sz : Nat} {es : List (List V)} (h : SL H x sz es) (hc : CutOk H x sz) {l m : Nat} (hlm : l ≤ m) (hm : m ≤ es.length) :
    ∃ a, (∀ G, CutOk G x sz → exec (.slc sz true true false) [x, .int .i64 l, .int .i64 m] G = some (a, G)) ∧ SL H a sz ((es.drop l).take (m - l)) ∧ CutOk H a sz := by
  obtain ⟨h0, ⟨rfl, rfl⟩ | ⟨id, off, cap, rfl, h2, h3⟩⟩ := h
  · obtain rfl : m = 0 := by simpa using hm
    obtain rfl : l = 0 := by omega
    exact ⟨.nils, fun _ _ => rfl, ⟨by simp, .inl ⟨rfl, by simp⟩⟩, CutOk.nils _ _⟩
  · obtain ⟨c1, c2, c3⟩ := hc _ _ _ _ rfl
    have hb : bounds3 true true false es.length (cap.getD es.length) [V.int .i64 l, .int .i64 m] = some (l, m, cap.getD es.length) := by simp [bounds3, natV]
    have hcap : m ≤ cap.getD es.length := by
      cases cap with
      | none => exact hm
      | some c => exact Nat.le_trans hm (c2 c rfl)
    have hlen : ((es.drop l).take (m - l)).length = m - l := by rw [List.length_take, List.length_drop]; omega
    refine ⟨.slice id (off + l * sz) (m - l) (cap.map fun c => c - l), fun G hG => ?_, ⟨fun e he => h0 e (List.mem_of_mem_drop (List.mem_of_mem_take he)), .inr ⟨id, off + l * sz, _, by rw [hlen], h2, fun i e he => ?_⟩⟩, ?_⟩
    · simp only [exec, hb]
      rw [if_pos ⟨hlm, hcap, Nat.le_refl _, (hG _ _ _ _ rfl).2.2⟩]
      cases cap <;> rfl
    · rw [List.getElem?_take] at he
      split at he
      · rw [List.getElem?_drop] at he
        have := h3 _ e he
        rwa [Nat.add_mul, ← Nat.add_assoc] at this
      · cases he
    · intro id' off' n' cap' e
      cases e
      refine ⟨c1, fun c e => ?_, ?_⟩
      · cases cap with
        | none => cases e
        | some c' => cases e; simp only [Option.getD_some] at hcap ⊢; omega
      · cases cap with
        | none => exact c3
        | some c' => rfl
/-- What is behind a cut. -/
theorem SL.tail {H : Heap} {x : V} {sz : Nat} {es : List (List V)} (h : SL H x sz es) (hc : CutOk H x sz) {l : Nat} (hl : l ≤ es.length) :
    ∃ a, (∀ G, CutOk G x sz → exec (.slc sz true false false) [x, .int .i64 l] G = some (a, G)) ∧ SL H a sz (es.drop l) ∧ CutOk H a sz := by
  obtain ⟨h0, ⟨rfl, rfl⟩ | ⟨id, off, cap, rfl, h2, h3⟩⟩ := h
  · obtain rfl : l = 0 := by simpa using hl
    exact ⟨.nils, fun _ _ => rfl, ⟨by simp, .inl ⟨rfl, by simp⟩⟩, CutOk.nils _ _⟩
  · obtain ⟨c1, c2, c3⟩ := hc _ _ _ _ rfl
    have hb : bounds3 true false false es.length (cap.getD es.length) [V.int .i64 l] = some (l, es.length, cap.getD es.length) := by simp [bounds3, natV]
    have hcap : es.length ≤ cap.getD es.length := by
      cases cap with
      | none => exact Nat.le_refl _
      | some c => exact c2 c rfl
    refine ⟨.slice id (off + l * sz) (es.length - l) (cap.map fun c => c - l), fun G hG => ?_, ⟨fun e he => h0 e (List.mem_of_mem_drop he), .inr ⟨id, off + l * sz, _, by rw [List.length_drop], h2, fun i e he => ?_⟩⟩, ?_⟩
    · simp only [exec, hb]
      rw [if_pos ⟨hl, hcap, Nat.le_refl _, (hG _ _ _ _ rfl).2.2⟩]
      cases cap <;> rfl
    · rw [List.getElem?_drop] at he
      have := h3 _ e he
      rwa [Nat.add_mul, ← Nat.add_assoc] at this
    · intro id' off' n' cap' e
      cases e
      refine ⟨c1, fun c e => ?_, ?_⟩
      · cases cap with
        | none => cases e
        | some c' => cases e; simp only [Option.getD_some] at hcap ⊢; omega
      · cases cap with
        | none => exact c3
        | some c' => rfl
/-- An op whose slices may be cut. -/
def OpA.Cut (o : OpA) (H : Heap) : Prop := CutOk H o.runes 1 ∧ CutOk H o.set 5 ∧ CutOk H o.patch 6
theorem OpA.Cut.ext {H H' : Heap} {o : OpA} (h : o.Cut H) (k : Ext H H') : o.Cut H' := ⟨h.1.ext k, h.2.1.ext k, h.2.2.ext k⟩
/-- A delta that may be cut, runes and all. -/
structure OpsZ (H : Heap) (x : V) (os : List OpA) : Prop where
  ops : OpsIn H x os
  cut : CutOk H x 5
  cuts : ∀ o ∈ os, o.Cut H
theorem OpsZ.ext {H H' : Heap} {x : V} {os : List OpA} (h : OpsZ H x os) (k : Ext H H') : OpsZ H' x os := ⟨h.ops.ext k, h.cut.ext k, fun o ho => (h.cuts o ho).ext k⟩

/-! ### slices.Clone -/
def cloneFn (sz bytes : Nat) : AFn := ⟨8,
 (.seq
  (.region [⟨some 2, none, .ex (.mov) [.k .nils]⟩])
  (.seq
   (.seq
    (.region [⟨some 3, none, .ex (.mov) [.s 0]⟩,
      ⟨some 4, none, .ex (.eqnil 1 false) [.s 3, .k .nils]⟩])
    (.cond (.s 4)
     (.seq
      (.region [⟨some 2, none, .ex (.mov) [.k .nils]⟩])
      .ret)
     .skip))
   (.seq
    (.region [⟨some 5, none, .ex (.bsl sz 0 [] []) []⟩,
      ⟨some 6, none, .ex (.mov) [.s 0]⟩,
      ⟨some 7, none, .ex (.app sz bytes) [.s 5, .s 6]⟩,
      ⟨some 2, none, .ex (.mov) [.s 7]⟩])
    .ret))),
 [.t 2]⟩
set_option maxRecDepth 20000 in
theorem clone_gen {f : FuncId} {sz bytes : Nat} (hc : compFn PP f = some (cloneFn sz bytes)) (hsz : sz ≠ 0) (hby : bytes ≤ 256) {x : V} {H : Heap} {es : List (List V)} (hx : SL H x sz es) (hl : es.length ≤ big) :
    SCalls PP f [x] H fun r H' => Ext H H' ∧ WF H' ∧ ∃ k, Vec H' r sz es k ∧ (∀ j, k = some j → H.next ≤ j) ∧ (es ≠ [] → ∃ j, k = some j ∧ Own H' j sz es ∧ r = .slice j 0 es.length none) ∧ (k = none → es = []) := by
  refine SCalls.go hc (by simp [cloneFn]) fun hw => ?_
  unfold big at hl
  have hbs : exec (.bsl sz 0 [] []) [] H = some (.slice H.next 0 0 (some 0), H.new (.row false sz [])) := rfl
  obtain ⟨hlen, ⟨rfl, rfl⟩ | ⟨id, off, cap, rfl, hid, hat⟩⟩ := id hx
  · have hn : exec (.eqnil 1 false) [.nils, .nils] H = some (.bool true, H) := rfl
    simp (maxSteps := 1000000) (implicitDefEqProofs := false) only [stp, if_true, if_false, Int.reduceEq, Int.reduceLT, Int.reduceLE, Int.reduceGT, Int.reduceGE, reduceCtorEq, Nat.reduceEqDiff, List.getElem?_cons_zero, List.getElem?_cons_succ, Option.map_some, cloneFn, enterFr, List.length, List.range, List.range.loop, List.zip, List.zipWith, hn]
    exact ⟨Ext.refl H, hw, none, Vec.nil _ _, by simp, by simp, by simp⟩
  · have hn : ∀ n, exec (.eqnil 1 false) [.slice id off n cap, .nils] H = some (.bool false, H) := fun _ => rfl
    have hx1 : Ext H (H.new (.row false sz [])) := (Ext.refl H).new _
    have hw1 : WF (H.new (.row false sz [])) := hw.new _
    have hsl1 := hx.ext hx1
    by_cases he : es = []
    · subst he
      obtain ⟨q1, q2⟩ := hsl1.src0
      have happ : exec (.app sz bytes) [.slice H.next 0 0 (some 0), .slice id off 0 cap] (H.new (.row false sz [])) = some (.slice H.next 0 0 (some 0), H.new (.row false sz [])) := x_app0 (.inr ⟨_, _, _, _, rfl⟩) q1 q2 hsz
      simp (maxSteps := 1000000) (implicitDefEqProofs := false) only [stp, if_true, if_false, Int.reduceEq, Int.reduceLT, Int.reduceLE, Int.reduceGT, Int.reduceGE, reduceCtorEq, Nat.reduceEqDiff, List.getElem?_cons_zero, List.getElem?_cons_succ, Option.map_some, cloneFn, enterFr, List.length, List.range, List.range.loop, List.zip, List.zipWith, hn, hbs, happ]
      exact ⟨hx1, hw1, none, ⟨by simp, .inr (.inl ⟨_, _, rfl, ⟨by simp, .inr ⟨H.next, 0, some 0, rfl, Nat.lt_succ_self _, fun i e h => by simp at h⟩⟩, rfl⟩)⟩, by simp, by simp, by simp⟩
    · obtain ⟨s1, s2⟩ := hsl1.src he
      have hln : es.length ≠ 0 := fun h => he (List.length_eq_zero_iff.1 h)
      have hv0 : Vec (H.new (.row false sz [])) (.slice H.next 0 0 (some 0)) sz [] none := ⟨by simp, .inr (.inl ⟨_, _, rfl, ⟨by simp, .inr ⟨H.next, 0, some 0, rfl, Nat.lt_succ_self _, fun i e h => by simp at h⟩⟩, rfl⟩)⟩
      have hmul : (([] : List (List V)).length + es.length) * bytes ≤ 140737488355328 := by
        simp only [List.length_nil, Nat.zero_add]
        have := Nat.mul_le_mul hl hby
        omega
      obtain ⟨H', e1, e2, e3, e4, e5, e6, e7⟩ := hv0.app (bytes := bytes) hw1 hsz rfl hln s1 s2 hlen hmul (by simp; omega)
      simp only [List.length_nil, Nat.zero_add, List.nil_append] at e1 e2 e3
      simp (maxSteps := 1000000) (implicitDefEqProofs := false) only [stp, if_true, if_false, Int.reduceEq, Int.reduceLT, Int.reduceLE, Int.reduceGT, Int.reduceGE, reduceCtorEq, Nat.reduceEqDiff, List.getElem?_cons_zero, List.getElem?_cons_succ, Option.map_some, cloneFn, enterFr, List.length, List.range, List.range.loop, List.zip, List.zipWith, hn, hbs, e1]
      have hxx : Ext H H' := ⟨e6, by rw [e5]; simp only [Heap.new_next]; omega, fun j hj => by rw [e7 j (by simp only [Heap.new_next]; omega) (by simp), get_new_ne hj]⟩
      exact ⟨hxx, e4, _, e2, fun j hj => by cases hj; simp only [Heap.new_next]; omega, fun _ => ⟨_, rfl, e3, rfl⟩, fun h => by cases h⟩
end Go.Proofs.YtkmaikggdbielaaGreatDoor.Fw

/- Nothing of its own. No condition. -/

/- slices.Equal, slices.EqualFunc; what is alike. No condition. -/
namespace Go.Proofs.YtkmaikggdbielaaGreatDoor.Fw
open Go
set_option linter.unusedSimpArgs false
set_option linter.unusedVariables false

def listEq {α : Type} (eq : α → α → Bool) : List α → List α → Bool
  | [], [] => true
  | a :: us, b :: bs => eq a b && listEq eq us bs
  | _, _ => false
theorem listEq_iff {α : Type} {eq : α → α → Bool} : ∀ {us bs : List α}, (∀ a ∈ us, ∀ b ∈ bs, eq a b = true ↔ a = b) → (listEq eq us bs = true ↔ us = bs)
  | [], [], _ => by simp [listEq]
  | [], b :: bs, _ => by simp [listEq]
  | a :: us, [], _ => by simp [listEq]
  | a :: us, b :: bs, h => by
    have ih := listEq_iff (us := us) (bs := bs) fun x hx y hy => h x (List.mem_cons_of_mem _ hx) y (List.mem_cons_of_mem _ hy)
    simp only [listEq, Bool.and_eq_true, ih, h a (by simp) b (by simp), List.cons.injEq]
theorem listEq_len {α : Type} {eq : α → α → Bool} : ∀ {us bs : List α}, us.length ≠ bs.length → listEq eq us bs = false
  | [], [], h => absurd rfl h
  | [], b :: bs, _ => rfl
  | a :: us, [], _ => rfl
  | a :: us, b :: bs, h => by simp only [listEq, listEq_len (us := us) (bs := bs) (by simpa using h), Bool.and_false]

def equalFn (sz : Nat) (ld cmp : AK) : AFn := ⟨26,
 (.seq
  (.region [⟨some 4, none, .ex (.mov) [.k (.bool false)]⟩])
  (.seq
   (.seq
    (.region [⟨some 6, none, .ex (.mov) [.s 0]⟩,
      ⟨some 7, none, .ex (.len) [.s 6]⟩,
      ⟨some 8, none, .ex (.mov) [.s 1]⟩,
      ⟨some 9, none, .ex (.len) [.s 8]⟩,
      ⟨some 10, none, .ex (.ibin .neq) [.s 7, .s 9]⟩])
    (.cond (.s 10)
     (.seq
      (.region [⟨some 4, none, .ex (.mov) [.k (.bool false)]⟩])
      .ret)
     .skip))
   (.seq
    (.seq
     (.region [⟨some 11, none, .ex (.mov) [.s 0]⟩,
       ⟨some 12, none, .ex (.len) [.s 11]⟩,
       ⟨some 13, none, .ex (.mov) [.k (.int .i64 0)]⟩])
     (.block 0
      (.loop
       (.seq
        (.region [⟨some 14, none, .ex (.ibin .lss) [.s 13, .s 12]⟩])
        (.seq
         (.cond (.s 14)
          .skip
          (.exit 0))
         (.seq
          (.block 1
           (.seq
            (.region [⟨some 15, none, .ex (.mov) [.s 13]⟩,
              ⟨some 5, none, .ex (.mov) [.s 15]⟩])
            (.seq
             (.draw (.op ⟨some 16, none, .ex (.mov) [.s 0]⟩ (.op ⟨some 17, none, .ex (.mov) [.s 5]⟩ (.op ⟨some 18, none, .ex (.ia sz) [.s 16, .s 17]⟩ (.op ⟨some 19, none, .ex ld [.s 18]⟩ (.op ⟨some 20, none, .ex (.mov) [.s 1]⟩ (.op ⟨some 21, none, .ex (.mov) [.s 5]⟩ (.op ⟨some 22, none, .ex (.ia sz) [.s 20, .s 21]⟩ (.op ⟨some 23, none, .ex ld [.s 22]⟩ (.op ⟨some 24, none, .ex cmp [.s 19, .s 23]⟩ .done))))))))))
             (.cond (.s 24)
              (.seq
               (.region [⟨some 4, none, .ex (.mov) [.k (.bool false)]⟩])
               .ret)
              .skip))))
          (.region [⟨some 25, none, .ex (.ibin .add) [.s 13, .k (.int .i64 1)]⟩,
            ⟨some 13, none, .ex (.mov) [.s 25]⟩])))))))
    (.seq
     (.region [⟨some 4, none, .ex (.mov) [.k (.bool true)]⟩])
     .ret)))),
 [.t 4]⟩
set_option maxRecDepth 20000 in
set_option maxHeartbeats 1000000 in
theorem equal_gen {f : FuncId} {sz : Nat} {ld cmp : AK} {α : Type} {enc : α → List V} {ldv : α → V} {eq : α → α → Bool} (hc : compFn PP f = some (equalFn sz ld cmp))
    (hld : ∀ a H id o, At H id o (enc a) → exec ld [.ptr id o] H = some (ldv a, H)) {x y : V} {H : Heap} {us bs : List α} (hcmp : ∀ a ∈ us, ∀ b ∈ bs, ∀ H, exec cmp [ldv a, ldv b] H = some (.bool (!eq a b), H))
    (hx : SL H x sz (us.map enc)) (hy : SL H y sz (bs.map enc)) (hl : us.length ≤ big) : SCalls PP f [x, y] H fun r H' => H' = H ∧ r = .bool (listEq eq us bs) := by
  refine SCalls.go hc (by simp [equalFn]) fun hw => ?_
  unfold big at hl
  have hlx : ∀ G, exec .len [x] G = some (.int .i64 us.length, G) := fun G => by have := hx.len (H' := G); rwa [List.length_map] at this
  have hly : ∀ G, exec .len [y] G = some (.int .i64 bs.length, G) := fun G => by have := hy.len (H' := G); rwa [List.length_map] at this
  by_cases hne : (us.length : Int) = bs.length
  rotate_left
  · simp (maxSteps := 1000000) (implicitDefEqProofs := false) only [stp, if_true, if_false, Int.reduceEq, Int.reduceLT, Int.reduceLE, Int.reduceGT, Int.reduceGE, reduceCtorEq, Nat.reduceEqDiff, List.getElem?_cons_zero, List.getElem?_cons_succ, Option.map_some, equalFn, enterFr, List.length, List.range, List.range.loop, List.zip, List.zipWith, hlx, hly, hne]
    exact ⟨by trivial, by rw [listEq_len (by omega)]⟩
  have hne' : us.length = bs.length := by omega
  simp (maxSteps := 1000000) (implicitDefEqProofs := false) only [stp, if_true, if_false, Int.reduceEq, Int.reduceLT, Int.reduceLE, Int.reduceGT, Int.reduceGE, reduceCtorEq, Nat.reduceEqDiff, List.getElem?_cons_zero, List.getElem?_cons_succ, Option.map_some, equalFn, enterFr, List.length, List.range, List.range.loop, List.zip, List.zipWith, hlx, hly, hne]
  refine wp_range (len := us.length) SCalls.scMono (by omega) (fun _ : Unit => [(0, x), (1, y)]) (fun k _ H' => H' = H ∧ listEq eq (us.drop k) (bs.drop k) = listEq eq us bs) () ⟨rfl, rfl⟩
    (.cons rfl (.cons (by rw [← hne]; rfl) (.cons rfl (.cons rfl .nil)))) (by decide) (fun s => ⟨rfl, rfl, rfl⟩) ?_ ?_
  · rintro k _ H' hk ⟨rfl, hacc⟩
    have hk2 : k < bs.length := by omega
    obtain ⟨i1, o1, ha1, ht1⟩ := hx.ia (H' := H') (i := k) (e := enc us[k]) (by rw [List.getElem?_map, List.getElem?_eq_getElem hk]; rfl) .i64
    obtain ⟨i2, o2, ha2, ht2⟩ := hy.ia (H' := H') (i := k) (e := enc bs[k]) (by rw [List.getElem?_map, List.getElem?_eq_getElem hk2]; rfl) .i64
    rw [List.drop_eq_getElem_cons hk, List.drop_eq_getElem_cons hk2] at hacc
    simp only [listEq] at hacc
    have hcm := hcmp us[k] (List.getElem_mem hk) bs[k] (List.getElem_mem hk2) H'
    cases he : eq us[k] bs[k] with
    | true =>
      rw [he] at hacc hcm
      simp (maxSteps := 1000000) (implicitDefEqProofs := false) only [stp, if_true, if_false, Int.reduceEq, Int.reduceLT, Int.reduceLE, Int.reduceGT, Int.reduceGE, reduceCtorEq, Nat.reduceEqDiff, List.getElem?_cons_zero, List.getElem?_cons_succ, Option.map_some, ha1, ha2, hld _ _ _ _ ht1, hld _ _ _ _ ht2, hcm]
      exact ⟨(), ⟨by trivial, by simpa using hacc⟩, .cons rfl (.cons rfl (.cons rfl (.cons rfl .nil)))⟩
    | false =>
      rw [he] at hacc hcm
      simp (maxSteps := 1000000) (implicitDefEqProofs := false) only [stp, if_true, if_false, Int.reduceEq, Int.reduceLT, Int.reduceLE, Int.reduceGT, Int.reduceGE, reduceCtorEq, Nat.reduceEqDiff, List.getElem?_cons_zero, List.getElem?_cons_succ, Option.map_some, ha1, ha2, hld _ _ _ _ ht1, hld _ _ _ _ ht2, hcm]
      exact ⟨by trivial, by rw [← hacc]; rfl⟩
  · rintro _ H' ⟨rfl, hacc⟩
    simp (maxSteps := 1000000) (implicitDefEqProofs := false) only [stp, if_true, if_false, Int.reduceEq, Int.reduceLT, Int.reduceLE, Int.reduceGT, Int.reduceGE, reduceCtorEq, Nat.reduceEqDiff, List.getElem?_cons_zero, List.getElem?_cons_succ, Option.map_some, if_true]
    rw [List.drop_length, List.drop_of_length_le (by omega)] at hacc
    exact ⟨by trivial, by rw [← hacc]; rfl⟩

def equalFuncFn (sz : Nat) (z : List V) : AFn := ⟨32,
 (.seq
  (.region [⟨some 6, none, .ex (.mov) [.k (.bool false)]⟩])
  (.seq
   (.seq
    (.region [⟨some 10, none, .ex (.mov) [.s 0]⟩,
      ⟨some 11, none, .ex (.len) [.s 10]⟩,
      ⟨some 12, none, .ex (.mov) [.s 1]⟩,
      ⟨some 13, none, .ex (.len) [.s 12]⟩,
      ⟨some 14, none, .ex (.ibin .neq) [.s 11, .s 13]⟩])
    (.cond (.s 14)
     (.seq
      (.region [⟨some 6, none, .ex (.mov) [.k (.bool false)]⟩])
      .ret)
     .skip))
   (.seq
    (.seq
     (.region [⟨some 15, none, .ex (.mov) [.s 0]⟩,
       ⟨some 16, none, .ex (.len) [.s 15]⟩,
       ⟨some 17, none, .ex (.mov) [.k (.int .i64 0)]⟩])
     (.block 0
      (.loop
       (.seq
        (.region [⟨some 18, none, .ex (.ibin .lss) [.s 17, .s 16]⟩])
        (.seq
         (.cond (.s 18)
          .skip
          (.exit 0))
         (.seq
          (.block 1
           (.seq
            (.region [⟨some 19, none, .ex (.mov) [.s 17]⟩,
              ⟨some 20, none, .ex (.ia sz) [.s 15, .s 17]⟩,
              ⟨some 21, none, .ex (.lda sz) [.s 20]⟩,
              ⟨some 8, none, .ex (.alloc z) []⟩,
              ⟨some 7, none, .ex (.mov) [.s 19]⟩,
              ⟨none, none, .ex (.st sz) [.s 8, .s 21]⟩])
            (.seq
             (.region [⟨some 22, none, .ex (.mov) [.s 1]⟩,
               ⟨some 23, none, .ex (.mov) [.s 7]⟩,
               ⟨some 24, none, .ex (.ia sz) [.s 22, .s 23]⟩,
               ⟨some 25, none, .ex (.lda sz) [.s 24]⟩,
               ⟨some 9, none, .ex (.alloc z) []⟩,
               ⟨none, none, .ex (.st sz) [.s 9, .s 25]⟩])
             (.seq
              (.region [⟨some 26, none, .ex (.mov) [.s 2]⟩,
                ⟨some 27, none, .ex (.lda sz) [.s 8]⟩,
                ⟨some 28, none, .ex (.lda sz) [.s 9]⟩,
                ⟨some 29, none, .callv (.s 26) [.s 27, .s 28]⟩,
                ⟨some 30, none, .ex (.bnot) [.s 29]⟩])
              (.cond (.s 30)
               (.seq
                (.region [⟨some 6, none, .ex (.mov) [.k (.bool false)]⟩])
                .ret)
               .skip)))))
          (.region [⟨some 31, none, .ex (.ibin .add) [.s 17, .k (.int .i64 1)]⟩,
            ⟨some 17, none, .ex (.mov) [.s 31]⟩])))))))
    (.seq
     (.region [⟨some 6, none, .ex (.mov) [.k (.bool true)]⟩])
     .ret)))),
 [.t 6]⟩
set_option maxRecDepth 20000 in
set_option maxHeartbeats 1000000 in
theorem equalFunc_gen {f g : FuncId} {sz : Nat} {z : List V} {α : Type} {enc : α → List V} {eq : α → α → Bool} (hc : compFn PP f = some (equalFuncFn sz z)) (hz : z.length = sz) (hzo : z.all V.one = true)
    {x y : V} {H : Heap} {us bs : List α} (hcall : ∀ H', Ext H H' → ∀ a ∈ us, ∀ b ∈ bs, SCalls PP g [.agg (enc a), .agg (enc b)] H' fun r H'' => H'' = H' ∧ r = .bool (eq a b))
    (hx : SL H x sz (us.map enc)) (hy : SL H y sz (bs.map enc)) (hl : us.length ≤ big) : SCalls PP f [x, y, .fn (.func g) [] []] H fun r H' => H' = H ∧ r = .bool (listEq eq us bs) := by
  refine SCalls.keep (R := fun r => r = .bool (listEq eq us bs)) (SCalls.go hc (by simp [equalFuncFn]) fun hw => ?_)
  unfold big at hl
  have hlx : ∀ G, exec .len [x] G = some (.int .i64 us.length, G) := fun G => by have := hx.len (H' := G); rwa [List.length_map] at this
  have hly : ∀ G, exec .len [y] G = some (.int .i64 bs.length, G) := fun G => by have := hy.len (H' := G); rwa [List.length_map] at this
  by_cases hne : (us.length : Int) = bs.length
  rotate_left
  · simp (maxSteps := 1000000) (implicitDefEqProofs := false) only [stp, if_true, if_false, Int.reduceEq, Int.reduceLT, Int.reduceLE, Int.reduceGT, Int.reduceGE, reduceCtorEq, Nat.reduceEqDiff, List.getElem?_cons_zero, List.getElem?_cons_succ, Option.map_some, equalFuncFn, enterFr, List.length, List.range, List.range.loop, List.zip, List.zipWith, hlx, hly, hne]
    exact ⟨Ext.refl H, by rw [listEq_len (by omega)], rfl⟩
  have hne' : us.length = bs.length := by omega
  simp (maxSteps := 1000000) (implicitDefEqProofs := false) only [stp, if_true, if_false, Int.reduceEq, Int.reduceLT, Int.reduceLE, Int.reduceGT, Int.reduceGE, reduceCtorEq, Nat.reduceEqDiff, List.getElem?_cons_zero, List.getElem?_cons_succ, Option.map_some, equalFuncFn, enterFr, List.length, List.range, List.range.loop, List.zip, List.zipWith, hlx, hly, hne]
  refine wp_range (len := us.length) SCalls.scMono (by omega) (fun _ : Unit => [(15, x), (0, x), (1, y), (2, .fn (.func g) [] [])]) (fun k _ H' => Ext H H' ∧ WF H' ∧ listEq eq (us.drop k) (bs.drop k) = listEq eq us bs) () ⟨Ext.refl H, hw, rfl⟩
    (.cons rfl (.cons (by rw [← hne]; rfl) (.cons rfl (.cons rfl (.cons rfl (.cons rfl .nil)))))) (by decide) (fun s => ⟨rfl, rfl, rfl⟩) ?_ ?_
  · rintro k _ H' hk ⟨hxx, hw', hacc⟩
    have hk2 : k < bs.length := by omega
    obtain ⟨i1, o1, ha1, ht1⟩ := (hx.ext hxx).ia (H' := H') (i := k) (e := enc us[k]) (by rw [List.getElem?_map, List.getElem?_eq_getElem hk]; rfl) .i64
    have e1 := hx.1 (enc us[k]) (List.mem_map_of_mem (List.getElem_mem hk))
    have e2 := hy.1 (enc bs[k]) (List.mem_map_of_mem (List.getElem_mem hk2))
    obtain ⟨H2, hx2, hw2, hat2, hal2, hst2⟩ := x_copy (Ext.refl H') hw' (z := z) (e := enc us[k]) (n := sz) hz hzo e1.1 e1.2
    obtain ⟨i2, o2, ha2, ht2⟩ := (hy.ext (hxx.trans hx2)).ia (H' := H2) (i := k) (e := enc bs[k]) (by rw [List.getElem?_map, List.getElem?_eq_getElem hk2]; rfl) .i64
    obtain ⟨H3, hx3, hw3, hat3, hal3, hst3⟩ := x_copy (Ext.refl H2) hw2 (z := z) (e := enc bs[k]) (n := sz) hz hzo e2.1 e2.2
    have la := (hat2.ext hx3).lda (n := sz) e1.1.symm
    have lb := hat3.lda (n := sz) e2.1.symm
    have hx03 := hxx.trans (hx2.trans hx3)
    rw [List.drop_eq_getElem_cons hk, List.drop_eq_getElem_cons hk2] at hacc
    simp only [listEq] at hacc
    have hne9 : ¬ (8 = 9) := by decide
    simp (maxSteps := 1000000) (implicitDefEqProofs := false) only [stp, if_true, if_false, Int.reduceEq, Int.reduceLT, Int.reduceLE, Int.reduceGT, Int.reduceGE, reduceCtorEq, Nat.reduceEqDiff, List.getElem?_cons_zero, List.getElem?_cons_succ, Option.map_some, ha1, ht1.lda (n := sz) e1.1.symm, hal2, hst2, ha2, ht2.lda (n := sz) e2.1.symm, hal3, hst3, la, lb, List.nil_append, List.append_nil]
    refine SCalls.mono (hcall H3 hx03 us[k] (List.getElem_mem hk) bs[k] (List.getElem_mem hk2)) ?_
    rintro r H4 ⟨rfl, rfl⟩
    cases he : eq us[k] bs[k] with
    | true =>
      rw [he] at hacc
      simp (maxSteps := 1000000) (implicitDefEqProofs := false) only [stp, if_true, if_false, Int.reduceEq, Int.reduceLT, Int.reduceLE, Int.reduceGT, Int.reduceGE, reduceCtorEq, Nat.reduceEqDiff, List.getElem?_cons_zero, List.getElem?_cons_succ, Option.map_some, he]
      exact ⟨(), ⟨hx03, hw3, by simpa using hacc⟩, .cons rfl (.cons rfl (.cons rfl (.cons rfl (.cons rfl (.cons rfl .nil)))))⟩
    | false =>
      rw [he] at hacc
      simp (maxSteps := 1000000) (implicitDefEqProofs := false) only [stp, if_true, if_false, Int.reduceEq, Int.reduceLT, Int.reduceLE, Int.reduceGT, Int.reduceGE, reduceCtorEq, Nat.reduceEqDiff, List.getElem?_cons_zero, List.getElem?_cons_succ, Option.map_some, he]
      exact ⟨hx03, by rw [← hacc]; rfl, rfl⟩
  · rintro _ H' ⟨hxx, hw', hacc⟩
    simp (maxSteps := 1000000) (implicitDefEqProofs := false) only [stp, if_true, if_false, Int.reduceEq, Int.reduceLT, Int.reduceLE, Int.reduceGT, Int.reduceGE, reduceCtorEq, Nat.reduceEqDiff, List.getElem?_cons_zero, List.getElem?_cons_succ, Option.map_some, if_true]
    rw [List.drop_length, List.drop_of_length_le (by omega)] at hacc
    exact ⟨hxx, by rw [← hacc]; rfl, rfl⟩

/-! ### The program's data -/
def valEq (a b : ValA) : Bool := (a.kind == b.kind) && ((a.n == b.n) && ((a.f == b.f) && (a.s.toList == b.s.toList)))
def attrEq (a b : AttrA) : Bool := (a.key == b.key) && valEq a.val b.val
def chgEq (a b : ChgA) : Bool := (a.key == b.key) && ((a.gone == b.gone) && valEq a.val b.val)
theorem valEq_iff {a b : ValA} : valEq a b = true ↔ a = b := by
  cases a; cases b
  simp only [valEq, Bool.and_eq_true, beq_iff_eq, ValA.mk.injEq]
  constructor
  · rintro ⟨h1, h2, h3, h4⟩
    refine ⟨h1, h2, h3, ?_⟩
    rename_i s _ _ _ s'
    cases s; cases s'
    rw [ByteArray.toList_eq, ByteArray.toList_eq] at h4
    congr 1
    exact Array.toList_inj.1 h4
  · rintro ⟨h1, h2, h3, h4⟩
    exact ⟨h1, h2, h3, by rw [h4]⟩
theorem attrEq_iff {a b : AttrA} : attrEq a b = true ↔ a = b := by
  cases a; cases b
  simp only [attrEq, Bool.and_eq_true, beq_iff_eq, valEq_iff, AttrA.mk.injEq]
theorem chgEq_iff {a b : ChgA} : chgEq a b = true ↔ a = b := by
  cases a; cases b
  simp only [chgEq, Bool.and_eq_true, beq_iff_eq, valEq_iff, ChgA.mk.injEq]
theorem x_eqattr (a b : AttrA) (H : Heap) : exec (.eqagg true [0, 0, 0, 0, 2]) [.agg a.cells, .agg b.cells] H = some (.bool (!attrEq a b), H) := by
  simp only [exec, AttrA.cells, ValA.cells, sameL, V.sameK, if_true, Option.map_some, attrEq, valEq, Bool.and_true]
  simp only [Bool.bne_true, Option.getD_some, Bool.and_true]
theorem x_eqchg (a b : ChgA) (H : Heap) : exec (.eqagg true [0, 1, 0, 0, 0, 2]) [.agg a.cells, .agg b.cells] H = some (.bool (!chgEq a b), H) := by
  simp only [exec, ChgA.cells, ValA.cells, sameL, V.sameK, if_true, Option.map_some, chgEq, valEq, Bool.and_true]
  simp only [Bool.bne_true, Option.getD_some, Bool.and_true]

def runeEq (a b : Int) : Bool := decide (a = b)
theorem equalA_calls {x y : V} {H : Heap} {us bs : List AttrA} (hx : SL H x 5 (us.map AttrA.cells)) (hy : SL H y 5 (bs.map AttrA.cells)) (hl : us.length ≤ big) :
    SCalls PP 131 [x, y] H fun r H' => H' = H ∧ r = .bool (listEq attrEq us bs) :=
  equal_gen (enc := AttrA.cells) (ldv := fun a => V.agg a.cells) (show compFn PP 131 = some (equalFn 5 (.lda 5) (.eqagg true [0, 0, 0, 0, 2])) from c131) (fun a H id o h => h.lda (n := 5) rfl) (fun a _ b _ H => x_eqattr a b H) hx hy hl
theorem equalC_calls {x y : V} {H : Heap} {us bs : List ChgA} (hx : SL H x 6 (us.map ChgA.cells)) (hy : SL H y 6 (bs.map ChgA.cells)) (hl : us.length ≤ big) :
    SCalls PP 130 [x, y] H fun r H' => H' = H ∧ r = .bool (listEq chgEq us bs) :=
  equal_gen (enc := ChgA.cells) (ldv := fun a => V.agg a.cells) (show compFn PP 130 = some (equalFn 6 (.lda 6) (.eqagg true [0, 1, 0, 0, 0, 2])) from c130) (fun a H id o h => h.lda (n := 6) rfl) (fun a _ b _ H => x_eqchg a b H) hx hy hl
theorem attrsSame_calls {x y : V} {H : Heap} {us bs : List AttrA} (hx : SL H x 5 (us.map AttrA.cells)) (hy : SL H y 5 (bs.map AttrA.cells)) (hl : us.length ≤ big) :
    SCalls PP 121 [x, y] H fun r H' => H' = H ∧ r = .bool (listEq attrEq us bs) := by
  refine SCalls.go c121 (by simp [fn121]) fun hw => ?_
  simp (maxSteps := 1000000) (implicitDefEqProofs := false) only [stp, if_true, if_false, Int.reduceEq, Int.reduceLT, Int.reduceLE, Int.reduceGT, Int.reduceGE, reduceCtorEq, Nat.reduceEqDiff, List.getElem?_cons_zero, List.getElem?_cons_succ, Option.map_some, fn121, enterFr, List.length, List.range, List.range.loop, List.zip, List.zipWith]
  refine SCalls.mono (equalA_calls hx hy hl) ?_
  rintro r H' ⟨rfl, rfl⟩
  simp (maxSteps := 1000000) (implicitDefEqProofs := false) only [stp, if_true, if_false, Int.reduceEq, Int.reduceLT, Int.reduceLE, Int.reduceGT, Int.reduceGE, reduceCtorEq, Nat.reduceEqDiff, List.getElem?_cons_zero, List.getElem?_cons_succ, Option.map_some, if_true]
  exact ⟨by trivial, by trivial⟩
theorem patchSame_calls {x y : V} {H : Heap} {us bs : List ChgA} (hx : SL H x 6 (us.map ChgA.cells)) (hy : SL H y 6 (bs.map ChgA.cells)) (hl : us.length ≤ big) :
    SCalls PP 120 [x, y] H fun r H' => H' = H ∧ r = .bool (listEq chgEq us bs) := by
  refine SCalls.go c120 (by simp [fn120]) fun hw => ?_
  simp (maxSteps := 1000000) (implicitDefEqProofs := false) only [stp, if_true, if_false, Int.reduceEq, Int.reduceLT, Int.reduceLE, Int.reduceGT, Int.reduceGE, reduceCtorEq, Nat.reduceEqDiff, List.getElem?_cons_zero, List.getElem?_cons_succ, Option.map_some, fn120, enterFr, List.length, List.range, List.range.loop, List.zip, List.zipWith]
  refine SCalls.mono (equalC_calls hx hy hl) ?_
  rintro r H' ⟨rfl, rfl⟩
  simp (maxSteps := 1000000) (implicitDefEqProofs := false) only [stp, if_true, if_false, Int.reduceEq, Int.reduceLT, Int.reduceLE, Int.reduceGT, Int.reduceGE, reduceCtorEq, Nat.reduceEqDiff, List.getElem?_cons_zero, List.getElem?_cons_succ, Option.map_some, if_true]
  exact ⟨by trivial, by trivial⟩
end Go.Proofs.YtkmaikggdbielaaGreatDoor.Fw

/- A maker of normal deltas as it lies. No condition. -/
namespace Go.Proofs.YtkmaikggdbielaaGreatDoor.Fw
open Go
set_option linter.unusedSimpArgs false
set_option linter.unusedVariables false

/-! ### Content -/
structure OpC where
  kind : Int
  n : Int
  rs : List Int
  ats : List AttrA
  chs : List ChgA
def OpA.con (o : OpA) : OpC := ⟨o.kind, o.n, o.rs, o.ats, o.chs⟩
structure OpC.Ok (c : OpC) : Prop where
  rl : c.rs.length ≤ big
  al : c.ats.length ≤ big
  cl : c.chs.length ≤ big
  sa : ∀ a ∈ c.ats, a.val.s.size ≤ big
  sc : ∀ a ∈ c.chs, a.val.s.size ≤ big
  nlo : -9223372036854775808 ≤ c.n
  nhi : c.n ≤ 9223372036854775807
theorem OpA.In.ok {H : Heap} {o : OpA} (h : o.In H) : o.con.Ok := ⟨h.rl, h.al, h.cl, h.sa, h.sc, h.nlo, h.nhi⟩

theorem st_cell {H : Heap} {p esz k : Nat} {cells : List V} {v : V} (hg : H.get p = some (.row false esz cells)) (hk : k < cells.length) (hv : v.cells = [v]) (ho : v.one = true) : exec (.st 1) [.ptr p k, v] H = some (.undef, H.set p (.row false esz (cells.set k v))) := by
  have hs : splice cells k [v] = cells.set k v := by
    unfold splice
    rw [List.set_eq_take_append_cons_drop, if_pos hk]
    simp
  have hw : writeAt H p k [v] = some (H.set p (.row false esz (cells.set k v))) := by
    unfold writeAt
    rw [hg]
    simp only
    rw [if_pos ⟨by simp; omega, by simp [ho]⟩, hs]
  show (if v.cells.length = 1 then (writeAt H p k v.cells).map (V.undef, ·) else none) = _
  rw [hv, if_pos (show [v].length = 1 from rfl), hw]
  rfl
/-- A cell of a row is written. -/
theorem st_row {G : Heap} (hw : WF G) {p k esz : Nat} {c c' : List V} {v : V} (hg : G.get p = some (.row false esz c)) (hk : k < c.length) (hv : v.cells = [v]) (ho : v.one = true) (hc : c.set k v = c') :
    ∃ G', exec (.st 1) [.ptr p k, v] G = some (.undef, G') ∧ WF G' ∧ G'.get p = some (.row false esz c') ∧ G'.next = G.next ∧ G'.gn = G.gn ∧ ∀ j, j ≠ p → G'.get j = G.get j := by
  refine ⟨G.set p (.row false esz (c.set k v)), st_cell hg hk hv ho, hw.set hg _, by rw [set_get', hc], rfl, rfl, fun j hj => by rw [Heap.set_get, if_neg hj]⟩
theorem SL.empty {H H' : Heap} {x : V} {sz : Nat} (h : SL H x sz []) (hn : H.next ≤ H'.next) : SL H' x sz [] := by
  obtain ⟨h0, ⟨rfl, _⟩ | ⟨id, off, cap, e1, e2, e3⟩⟩ := h
  · exact ⟨h0, .inl ⟨rfl, rfl⟩⟩
  · exact ⟨h0, .inr ⟨id, off, cap, e1, Nat.lt_of_lt_of_le e2 hn, fun i e he => by simp at he⟩⟩
/-- A fresh vector stays. -/
theorem Vec.fz {M : Nat → Prop} {G H : Heap} {r : V} {sz : Nat} {es : List (List V)} {k : Option Nat} (h : Vec G r sz es k) (h0 : k = none → es = []) (hn : G.next ≤ H.next) (hk : ∀ j, k = some j → ¬ M j ∧ H.get j = G.get j) : Fz M H fun H' => SL H' r sz es := by
  intro H' hx
  cases k with
  | none =>
    have := h0 rfl
    subst this
    exact h.sl.empty (Nat.le_trans hn hx.next)
  | some j =>
    obtain ⟨h1, h2⟩ := hk j rfl
    exact (h.keep (H' := H') (Nat.le_trans hn hx.next) (fun i e => by cases e; rw [hx.get j (Nat.lt_of_lt_of_le h.lt hn) h1, h2]) (fun e => by cases e)).sl

/-! ### Ops as they lie -/
/-- An op that stays. -/
def OpZ (M : Nat → Prop) (H : Heap) (e : List V) (c : OpC) : Prop := ∃ o : OpA, e = o.cells ∧ o.con = c ∧ Fz M H fun H' => o.In H'
theorem OpZ.step {M M' : Nat → Prop} {H H' : Heap} {e : List V} {c : OpC} (h : OpZ M H e c) (k : ExtM M H H') (g : MGrow M M' H) : OpZ M' H' e c := by
  obtain ⟨o, h1, h2, h3⟩ := h
  exact ⟨o, h1, h2, h3.step k g⟩
/-- The last insert: its runes may grow. -/
structure LastZ (M : Nat → Prop) (H : Heap) (e : List V) (c : OpC) (r : Nat) : Prop where
  sh : ∃ sv, e = [.int .u8 2, .int .i64 0, .slice r 0 c.rs.length none, sv, .nils] ∧ Fz M H fun H' => SL H' sv 5 (c.ats.map AttrA.cells)
  own : Own H r 1 (c.rs.map fun x => [V.int .i32 x])
  mr : M r
  ok : c.Ok
  ne : c.rs ≠ []
  is : c.kind = 2 ∧ c.n = 0 ∧ c.chs = []
theorem LastZ.to {M M' : Nat → Prop} {H : Heap} {e : List V} {c : OpC} {r : Nat} (h : LastZ M H e c r) (hm : ∀ j, M' j → M j ∨ H.next ≤ j) (hr : ¬ M' r) : OpZ M' H e c := by
  obtain ⟨sv, he, hs⟩ := h.sh
  obtain ⟨k1, k2, k3⟩ := h.is
  refine ⟨⟨2, 0, .slice r 0 c.rs.length none, sv, .nils, c.rs, c.ats, []⟩, he, ?_, fun H' hx => ?_⟩
  · cases c; simp_all [OpA.con]
  · have hown := h.own.extM hx hr
    refine ⟨?_, hs _ ((ExtM.refl M H).step hm hx), ⟨by simp, .inl ⟨rfl, rfl⟩⟩, h.ok.rl, h.ok.al, by simp, h.ok.sa, by simp, by simp, by simp⟩
    have := hown.sl none
    rwa [List.length_map] at this
theorem LastZ.step {M M' : Nat → Prop} {H H' : Heap} {e : List V} {c : OpC} {r : Nat} (h : LastZ M H e c r) (k : ExtM M H H') (g : MGrow M M' H) (hr : H'.get r = H.get r) (hm : M' r) : LastZ M' H' e c r := by
  obtain ⟨sv, he, hs⟩ := h.sh
  exact ⟨⟨sv, he, hs.step k g⟩, ⟨Nat.lt_of_lt_of_le h.own.lt k.next, by rw [hr]; exact h.own.get, h.own.len⟩, hm, h.ok, h.ne, h.is⟩
theorem LastZ.sl {M : Nat → Prop} {H : Heap} {e : List V} {c : OpC} {r : Nat} (h : LastZ M H e c r) : ∃ o : OpA, e = o.cells ∧ o.con = c ∧ o.In H := by
  obtain ⟨sv, he, hs⟩ := h.sh
  obtain ⟨k1, k2, k3⟩ := h.is
  refine ⟨⟨2, 0, .slice r 0 c.rs.length none, sv, .nils, c.rs, c.ats, []⟩, he, ?_, ?_⟩
  · cases c; simp_all [OpA.con]
  · refine ⟨?_, hs.here, ⟨by simp, .inl ⟨rfl, rfl⟩⟩, h.ok.rl, h.ok.al, by simp, h.ok.sa, by simp, by simp, by simp⟩
    have := h.own.sl none
    rwa [List.length_map] at this

def All2 {α β : Type} (R : α → β → Prop) : List α → List β → Prop
  | [], [] => True
  | a :: l, b :: k => R a b ∧ All2 R l k
  | _, _ => False
theorem All2.imp {α β : Type} {R S : α → β → Prop} (h : ∀ a b, R a b → S a b) : ∀ {l : List α} {k : List β}, All2 R l k → All2 S l k
  | [], [], _ => trivial
  | a :: l, b :: k, ⟨h1, h2⟩ => ⟨h a b h1, All2.imp h h2⟩
  | [], b :: k, q => q.elim
  | a :: l, [], q => q.elim
theorem All2.append {α β : Type} {R : α → β → Prop} : ∀ {l l' : List α} {k k' : List β}, All2 R l k → All2 R l' k' → All2 R (l ++ l') (k ++ k')
  | [], l', [], k', _, q => q
  | a :: l, l', b :: k, k', ⟨h1, h2⟩, q => ⟨h1, All2.append h2 q⟩
  | [], _, b :: k, _, q, _ => q.elim
  | a :: l, _, [], _, q, _ => q.elim
theorem All2.length {α β : Type} {R : α → β → Prop} : ∀ {l : List α} {k : List β}, All2 R l k → l.length = k.length
  | [], [], _ => rfl
  | a :: l, b :: k, ⟨_, h2⟩ => by simp [All2.length h2]
  | [], b :: k, q => q.elim
  | a :: l, [], q => q.elim

/-! ### Two ops -/
def opEq (a b : OpC) : Bool := decide (a.kind = b.kind) && (decide (a.n = b.n) && (listEq runeEq a.rs b.rs && (listEq attrEq a.ats b.ats && listEq chgEq a.chs b.chs)))
theorem runeEq_iff {a b : Int} : runeEq a b = true ↔ a = b := by simp [runeEq]
theorem opEq_iff {a b : OpC} : opEq a b = true ↔ a = b := by
  cases a; cases b
  simp only [opEq, Bool.and_eq_true, decide_eq_true_eq, OpC.mk.injEq, listEq_iff fun a _ b _ => runeEq_iff, listEq_iff fun a _ b _ => attrEq_iff, listEq_iff fun a _ b _ => chgEq_iff]
theorem listEq_map {α β : Type} (e : β → β → Bool) (f : α → β) : ∀ (us bs : List α), listEq (fun a b => e (f a) (f b)) us bs = listEq e (us.map f) (bs.map f)
  | [], [] => rfl
  | [], b :: bs => rfl
  | a :: us, [] => rfl
  | a :: us, b :: bs => by simp only [listEq, List.map_cons, listEq_map e f us bs]

/-- The maker's content. -/
structure MkC where
  done : List OpC
  ins : List OpC
  gone : Int
/-- The inserts of the gap. -/
def InsZ (M : Nat → Prop) (H : Heap) (ics : List (List V)) (ins : List OpC) (rk : Option Nat) : Prop :=
  (ics = [] ∧ ins = [] ∧ rk = none) ∨ ∃ ei el ci cl r, ics = ei ++ [el] ∧ ins = ci ++ [cl] ∧ rk = some r ∧ All2 (OpZ M H) ei ci ∧ LastZ M H el cl r
structure MkP (H : Heap) (M N : Nat → Prop) (p : Nat) (m : MkC) (dv iv : V) (dcs ics : List (List V)) (dk ik rk : Option Nat) : Prop where
  lt : p < H.next
  mp : M p
  mb : ∀ j, M j → j < H.next
  at' : H.get p = some (.row false 3 [dv, iv, .int .i64 m.gone])
  dvec : Vec H dv 5 dcs dk
  ivec : Vec H iv 5 ics ik
  md : ∀ j, dk = some j → M j ∧ j ≠ p
  mi : ∀ j, ik = some j → M j ∧ j ≠ p
  di : ∀ j, dk = some j → ik ≠ some j
  mr : ∀ j, rk = some j → j ≠ p ∧ dk ≠ some j ∧ ik ≠ some j
  done : All2 (OpZ M H) dcs m.done
  ins : InsZ M H ics m.ins rk
  dn : dk = none → dcs = []
  inn : ik = none → ics = []
  nn : ∀ j, N j → M j ∧ j ≠ p ∧ dk ≠ some j ∧ ik ≠ some j ∧ rk ≠ some j
def MkI (H : Heap) (M N : Nat → Prop) (p : Nat) (m : MkC) : Prop := ∃ dv iv dcs ics dk ik rk, MkP H M N p m dv iv dcs ics dk ik rk
theorem MkP.at3 {H : Heap} {M N : Nat → Prop} {p : Nat} {m : MkC} {dv iv : V} {dcs ics : List (List V)} {dk ik rk : Option Nat} (h : MkP H M N p m dv iv dcs ics dk ik rk) : At H p 0 [dv, iv, .int .i64 m.gone] :=
  ⟨h.lt, false, 3, _, h.at', by simp, fun j v hj => by rw [Nat.zero_add]; exact hj⟩

/-- A new insert behind. -/
theorem insert_new {H G : Heap} {M N : Nat → Prop} {p : Nat} {m : MkC} {dv iv : V} {dcs ics : List (List V)} {dk ik rk : Option Nat} (h : MkP H M N p m dv iv dcs ics dk ik rk) (hx : Ext H G) (hw : WF G) {rj : Nat} {sv : V} {rs : List Int} {ats : List AttrA} {sk : Option Nat}
    (hr : Own G rj 1 (rs.map fun x => [V.int .i32 x])) (hrj : H.next ≤ rj) (hs : Vec G sv 5 (ats.map AttrA.cells) sk) (hs0 : sk = none → ats = []) (hsj : ∀ j, sk = some j → H.next ≤ j ∧ j ≠ rj) (hne : rs ≠ [])
    (hok : OpC.Ok ⟨2, 0, rs, ats, []⟩) (hl : m.ins.length + 1 ≤ big) :
    ∃ iv' H3 H4 H5 M', exec (.bsl 5 1 [.int .u8 0, .int .i64 0, .nils, .nils, .nils] [(0, 5)]) [.agg [.int .u8 2, .int .i64 0, .slice rj 0 rs.length none, sv, .nils]] G = some (.slice G.next 0 1 (some 1), H3) ∧
      exec (.app 5 88) [iv, .slice G.next 0 1 (some 1)] H3 = some (iv', H4) ∧ exec (.st 1) [.ptr p (0 + 1), iv'] H4 = some (.undef, H5) ∧
      MkI H5 M' N p ⟨m.done, m.ins ++ [⟨2, 0, rs, ats, []⟩], m.gone⟩ ∧ ExtM (fun j => M j ∧ ¬ N j) H H5 ∧ MGrow M M' H ∧ WF H5 := by
  unfold big at hl
  have hso := hs.one
  have hcell : ([.int .u8 2, .int .i64 0, .slice rj 0 rs.length none, sv, .nils] : List V).all V.one = true := by
    simp only [List.all_cons, List.all_nil, Bool.and_true, hso.1]
    rfl
  have hb : exec (.bsl 5 1 [.int .u8 0, .int .i64 0, .nils, .nils, .nils] [(0, 5)]) [.agg [.int .u8 2, .int .i64 0, .slice rj 0 rs.length none, sv, .nils]] G = some (.slice G.next 0 1 (some 1), G.new (.row false 5 [.int .u8 2, .int .i64 0, .slice rj 0 rs.length none, sv, .nils])) := by
    have hf : fillA [V.int .u8 0, .int .i64 0, .nils, .nils, .nils] [((0, 5), .agg [.int .u8 2, .int .i64 0, .slice rj 0 rs.length none, sv, .nils])] = some [.int .u8 2, .int .i64 0, .slice rj 0 rs.length none, sv, .nils] := by
      simp only [fillA]
      rfl
    simp only [exec, List.length_cons, List.length_nil, if_true, List.zip_cons_cons, List.zip_nil_right, hf, Option.bind_some, hcell]
  generalize hel : ([.int .u8 2, .int .i64 0, .slice rj 0 rs.length none, sv, .nils] : List V) = el at *
  have hell : el.length = 5 := by rw [← hel]; rfl
  have hx3 : Ext G (G.new (.row false 5 el)) := (Ext.refl G).new _
  have hw3 : WF (G.new (.row false 5 el)) := hw.new _
  have hown3 : Own (G.new (.row false 5 el)) G.next 5 [el] := ⟨Nat.lt_succ_self _, by rw [new_get]; simp, by simpa using ⟨hell, by simpa using hcell⟩⟩
  obtain ⟨s1, s2⟩ := (hown3.sl (some 1)).src (by simp)
  have hg3 := new_get G (.row false 5 el)
  have hn3 : (G.new (.row false 5 el)).next = G.next + 1 := rfl
  generalize hG3 : G.new (.row false 5 el) = G3 at *
  have hiv3 := (h.ivec.ext hx).ext hx3
  have hil : ics.length = m.ins.length := by
    rcases h.ins with ⟨rfl, e, _⟩ | ⟨ei, el', ci, cl, r, rfl, e, _, ha, _⟩
    · rw [e]; rfl
    · rw [e, List.length_append, List.length_append, ha.length]; rfl
  obtain ⟨H4, ha, hv4, ho4, hw4, hn4, hgn4, hk4⟩ := hiv3.app (bytes := 88) (n := 1) (news := [el]) hw3 (by decide) rfl (by decide) (by simpa using s1) (by simpa using s2) (fun e he => by simp at he; subst he; exact ⟨hell, hcell⟩) (by omega) (by omega)
  have hpG : G.get p = H.get p := hx.get p h.lt
  have hxn := hx.next
  have hp4 : H4.get p = some (.row false 3 [dv, iv, .int .i64 m.gone]) := by
    rw [hk4 p (by have := h.lt; omega) (fun e => (h.mi p e).2 rfl), hx3.get p (by have := h.lt; omega), hpG]; exact h.at'
  have hst := st_cell (v := .slice G3.next 0 (ics.length + 1) none) hp4 (k := 1) (by simp) rfl rfl
  have hxx : ∀ j, j < G.next → ik ≠ some j → j ≠ p → (H4.set p (.row false 3 ([dv, iv, V.int .i64 m.gone].set 1 (.slice G3.next 0 (ics.length + 1) none)))).get j = G.get j := fun j hj h1 h2 => by
    rw [Heap.set_get, if_neg h2, hk4 j (by omega) h1, hx3.get j hj]
  have hM : ExtM M H (H4.set p (.row false 3 ([dv, iv, V.int .i64 m.gone].set 1 (.slice G3.next 0 (ics.length + 1) none)))) := by
    refine ⟨by rw [Heap.set_gn, hgn4, hx3.gn, hx.gn], by rw [Heap.set_next]; omega, fun j hj hm => ?_⟩
    rw [hxx j (by omega) (fun e => hm (h.mi j e).1) (fun e => hm (by rw [e]; exact h.mp))]
    exact hx.get j hj
  have hG : MGrow M (fun j => (M j ∧ rk ≠ some j) ∨ j = G3.next ∨ j = rj) H := fun j hj => by
    rcases hj with ⟨q, _⟩ | q | q
    · exact .inl q
    · exact .inr (by omega)
    · exact .inr (by omega)
  refine ⟨_, _, H4, _, fun j => (M j ∧ rk ≠ some j) ∨ j = G3.next ∨ j = rj, hb, ha, hst, ?_, hM.minus fun j hj hn => by rw [hxx j (by omega) (h.nn j hn).2.2.2.1 (h.nn j hn).2.1]; exact hx.get j hj, hG, hw4.set hp4 _⟩
  have hp5 : (H4.set p (.row false 3 ([dv, iv, V.int .i64 m.gone].set 1 (.slice G3.next 0 (ics.length + 1) none)))).get p = some (.row false 3 [dv, .slice G3.next 0 (ics.length + 1) none, .int .i64 m.gone]) := set_get' _ _ _
  have hi5 : (H4.set p (.row false 3 ([dv, iv, V.int .i64 m.gone].set 1 (.slice G3.next 0 (ics.length + 1) none)))).get G3.next = H4.get G3.next := by rw [Heap.set_get, if_neg (by have := h.lt; omega)]
  have hn5 : (H4.set p (.row false 3 ([dv, iv, V.int .i64 m.gone].set 1 (.slice G3.next 0 (ics.length + 1) none)))).next = H4.next := rfl
  generalize H4.set p (.row false 3 ([dv, iv, V.int .i64 m.gone].set 1 (.slice G3.next 0 (ics.length + 1) none))) = H5 at *
  have hrlt := hr.lt
  have hpl := h.lt
  have hdl : ∀ j, dk = some j → j < H.next := fun j e => by have := h.dvec; rw [e] at this; exact this.lt
  have hil' : ∀ j, ik = some j → j < H.next := fun j e => by have := h.ivec; rw [e] at this; exact this.lt
  have hrl' : ∀ j, rk = some j → j < H.next := fun j e => by
    rcases h.ins with ⟨_, _, q⟩ | ⟨_, _, _, _, r, _, _, q, _, hz⟩
    · rw [q] at e; cases e
    · rw [q] at e; cases e; exact hz.own.lt
  refine ⟨dv, .slice G3.next 0 (ics.length + 1) none, dcs, ics ++ [el], dk, some G3.next, some rj, by omega, .inl ⟨h.mp, fun e => (h.mr p e).1 rfl⟩, fun j hj => ?_, hp5, ?_, ?_, ?_, ?_, ?_, ?_, ?_, ?_, h.dn, by simp, fun j hn => by
    obtain ⟨a1, a2, a3, a4, a5⟩ := h.nn j hn
    have := h.mb j a1
    exact ⟨.inl ⟨a1, a5⟩, a2, a3, fun e => by cases e; omega, fun e => by cases e; omega⟩⟩
  · rcases hj with ⟨q, _⟩ | q | q
    · have := h.mb j q; omega
    · omega
    · omega
  · -- done's vector
    refine h.dvec.keep (by omega) (fun j e => ?_) (fun e s => ?_)
    · rw [hxx j (by have := hdl j e; omega) (h.di j e) (h.md j e).2]
      exact hx.get j (hdl j e)
    · rw [h.dn e] at s ⊢
      exact s.empty (by omega)
  · refine hv4.keep (by omega) (fun j e => ?_) (fun e => by cases e)
    cases e
    exact hi5
  · intro j e
    exact ⟨.inl ⟨(h.md j e).1, fun q => (h.mr j q).2.1 e⟩, (h.md j e).2⟩
  · intro j e
    cases e
    exact ⟨.inr (.inl rfl), by omega⟩
  · intro j e q
    cases q
    have := hdl _ e
    omega
  · intro j e
    cases e
    refine ⟨by omega, fun q => ?_, fun q => ?_⟩
    · have := hdl _ q; omega
    · cases q; omega
  · exact All2.imp (fun a b q => q.step hM hG) h.done
  · -- the inserts
    refine .inr ?_
    have hfr : Fz (fun j => (M j ∧ rk ≠ some j) ∨ j = G3.next ∨ j = rj) H5 fun H' => SL H' sv 5 (ats.map AttrA.cells) := by
      refine hs.fz (fun e => by rw [hs0 e]; rfl) (by omega) fun j e => ?_
      have hjl : j < G.next := by rw [e] at hs; exact hs.lt
      obtain ⟨q1, q2⟩ := hsj j e
      refine ⟨?_, hxx j hjl (fun q => ?_) (by omega)⟩
      · rintro (⟨q, _⟩ | q | q)
        · have := h.mb j q; omega
        · omega
        · exact q2 q
      · have := hil' j q; omega
    have hlast : LastZ (fun j => (M j ∧ rk ≠ some j) ∨ j = G3.next ∨ j = rj) H5 el ⟨2, 0, rs, ats, []⟩ rj :=
      ⟨⟨sv, hel.symm, hfr⟩, ⟨by omega, by rw [hxx rj hrlt (fun q => by have := hil' rj q; omega) (by omega)]; exact hr.get, hr.len⟩, .inr (.inr rfl), hok, hne, rfl, rfl, rfl⟩
    rcases h.ins with ⟨rfl, e, _⟩ | ⟨ei, el', ci, cl, r, rfl, e, er, ha2, hz⟩
    · exact ⟨[], el, [], _, rj, rfl, by rw [e], rfl, trivial, hlast⟩
    · refine ⟨ei ++ [el'], el, ci ++ [cl], _, rj, rfl, by rw [e], rfl, All2.append (All2.imp (fun a b q => q.step hM hG) ha2) ⟨?_, trivial⟩, hlast⟩
      have hr5 : H5.get r = H.get r := by
        rw [hxx r (by have := hrl' r er; omega) (h.mr r er).2.2 (h.mr r er).1]
        exact hx.get r (hrl' r er)
      have hz2 : OpZ (fun j => M j ∧ rk ≠ some j) H el' cl := hz.to (fun j hj => .inl hj.1) (fun hj => hj.2 er)
      refine hz2.step ⟨hM.gn, hM.next, fun j hj hm => ?_⟩ (fun j hj => ?_)
      · by_cases hjr : rk = some j
        · rw [er] at hjr; cases hjr; exact hr5
        · exact hM.get j hj fun q => hm ⟨q, hjr⟩
      · rcases hj with q | q | q
        · exact .inl q
        · exact .inr (by omega)
        · exact .inr (by omega)
end Go.Proofs.YtkmaikggdbielaaGreatDoor.Fw

/- A history as it lies; whether it is there, open, how deep. No condition. -/
namespace Go.Proofs.YtkmaikggdbielaaGreatDoor.Fw
open Go
set_option linter.unusedSimpArgs false
set_option linter.unusedVariables false

/-- A group's content: what was done, what undoes it. -/
structure GrpC where
  dn : List OpC
  un : List OpC
structure HistC where
  max : Int
  undo : List GrpC
  redo : List GrpC
  opened : Bool
  own : List GrpC
/-- A group that stays. -/
def GrpZ (M : Nat → Prop) (H : Heap) (e : List V) (g : GrpC) : Prop :=
  ∃ d u os us, e = [d, u] ∧ os.map OpA.con = g.dn ∧ us.map OpA.con = g.un ∧ (Fz M H fun G => OpsZ G d os) ∧ (Fz M H fun G => OpsZ G u us)
theorem GrpZ.step {M M' : Nat → Prop} {H H' : Heap} {e : List V} {g : GrpC} (h : GrpZ M H e g) (k : ExtM M H H') (q : MGrow M M' H) : GrpZ M' H' e g := by
  obtain ⟨d, u, os, us, h1, h2, h3, h4, h5⟩ := h
  exact ⟨d, u, os, us, h1, h2, h3, h4.step k q, h5.step k q⟩
/-- A stack: its groups; k: the row that an append takes over. -/
structure StZ (M : Nat → Prop) (H : Heap) (v : V) (es : List (List V)) (gs : List GrpC) (k : Option Nat) : Prop where
  vec : Vec H v 2 es k
  st : k = none → Fz M H fun G => SL G v 2 es
  own : ∀ j, k = some j → M j
  grp : All2 (GrpZ M H) es gs
structure HistP (H : Heap) (M : Nat → Prop) (p : Nat) (s : V) (h : HistC) (uv rv ov : V) (ue re oe : List (List V)) (uk rk ok : Option Nat) : Prop where
  lt : p < H.next
  mp : M p
  mb : ∀ j, M j → j < H.next
  at' : H.get p = some (.row false 7 [s, .int .i64 h.max, .bool true, uv, rv, .bool h.opened, ov])
  us : StZ M H uv ue h.undo uk
  rs : StZ M H rv re h.redo rk
  os : StZ M H ov oe h.own ok
  kp : ∀ j, uk = some j ∨ rk = some j ∨ ok = some j → j ≠ p
  ur : ∀ j, uk = some j → rk ≠ some j ∧ ok ≠ some j
  ro : ∀ j, rk = some j → ok ≠ some j
def HistI (H : Heap) (M : Nat → Prop) (p : Nat) (s : V) (h : HistC) : Prop := ∃ uv rv ov ue re oe uk rk ok, HistP H M p s h uv rv ov ue re oe uk rk ok
/-- The same; N: what is nobody's of the history's, and may be written by anyone. -/
def HistD (H : Heap) (M N : Nat → Prop) (p : Nat) (s : V) (h : HistC) : Prop :=
  ∃ uv rv ov ue re oe uk rk ok, HistP H M p s h uv rv ov ue re oe uk rk ok ∧ ∀ j, N j → M j ∧ j ≠ p ∧ uk ≠ some j ∧ rk ≠ some j ∧ ok ≠ some j
theorem HistD.toI {H : Heap} {M N : Nat → Prop} {p : Nat} {s : V} {h : HistC} (q : HistD H M N p s h) : HistI H M p s h := by
  obtain ⟨uv, rv, ov, ue, re, oe, uk, rk, ok, q, _⟩ := q
  exact ⟨uv, rv, ov, ue, re, oe, uk, rk, ok, q⟩
/-- The history after a call: what is nobody's of it stays. -/
def HistS (H : Heap) (M N : Nat → Prop) (p : Nat) (s : V) (H' : Heap) (h' : HistC) : Prop :=
  ∃ M', HistD H' M' N p s h' ∧ ExtM (fun j => M j ∧ ¬ N j) H H' ∧ MGrow M M' H
theorem HistP.at7 {H : Heap} {M : Nat → Prop} {p : Nat} {s : V} {h : HistC} {uv rv ov : V} {ue re oe : List (List V)} {uk rk ok : Option Nat} (q : HistP H M p s h uv rv ov ue re oe uk rk ok) : At H p 0 [s, .int .i64 h.max, .bool true, uv, rv, .bool h.opened, ov] :=
  ⟨q.lt, false, 7, _, q.at', by simp, fun j v hj => by rw [Nat.zero_add]; exact hj⟩
theorem readyH {H : Heap} {M : Nat → Prop} {p : Nat} {s : V} {h : HistC} (q : HistI H M p s h) : SCalls PP 36 [.ptr p 0] H fun r H' => H' = H ∧ r = .bool true := by
  refine SCalls.go c36 (by simp [fn36]) fun hw => ?_
  obtain ⟨uv, rv, ov, ue, re, oe, uk, rk, ok, q⟩ := q
  have e : ∀ G, exec (.eqnil 0 true) [.ptr p 0, .nilp] G = some (.bool true, G) := fun _ => rfl
  have l := q.at7.ld (j := 2) (v := .bool true) rfl 1
  simp (maxSteps := 1000000) (implicitDefEqProofs := false) only [stp, if_true, if_false, Int.reduceEq, Int.reduceLT, Int.reduceLE, Int.reduceGT, Int.reduceGE, reduceCtorEq, Nat.reduceEqDiff, List.getElem?_cons_zero, List.getElem?_cons_succ, Option.map_some, fn36, enterFr, List.length, List.range, List.range.loop, List.zip, List.zipWith, e, l]
  exact ⟨by trivial, by trivial⟩
theorem openH {H : Heap} {M : Nat → Prop} {p : Nat} {s : V} {h : HistC} (q : HistI H M p s h) : SCalls PP 28 [.ptr p 0] H fun r H' => H' = H ∧ r = .bool h.opened := by
  refine SCalls.go c28 (by simp [fn28]) fun hw => ?_
  simp (maxSteps := 1000000) (implicitDefEqProofs := false) only [stp, if_true, if_false, Int.reduceEq, Int.reduceLT, Int.reduceLE, Int.reduceGT, Int.reduceGE, reduceCtorEq, Nat.reduceEqDiff, List.getElem?_cons_zero, List.getElem?_cons_succ, Option.map_some, fn28, enterFr, List.length, List.range, List.range.loop, List.zip, List.zipWith]
  refine SCalls.mono (readyH q) ?_
  rintro r G ⟨rfl, rfl⟩
  obtain ⟨uv, rv, ov, ue, re, oe, uk, rk, ok, q⟩ := q
  have l := q.at7.ld (j := 5) (v := .bool h.opened) rfl 1
  simp (maxSteps := 1000000) (implicitDefEqProofs := false) only [stp, if_true, if_false, Int.reduceEq, Int.reduceLT, Int.reduceLE, Int.reduceGT, Int.reduceGE, reduceCtorEq, Nat.reduceEqDiff, List.getElem?_cons_zero, List.getElem?_cons_succ, Option.map_some, l]
  exact ⟨by trivial, by trivial⟩
theorem depthsH {H : Heap} {M : Nat → Prop} {p : Nat} {s : V} {h : HistC} (q : HistI H M p s h) : SCalls PP 15 [.ptr p 0] H fun r H' => H' = H ∧ r = .tup [.int .i64 h.undo.length, .int .i64 h.redo.length] := by
  refine SCalls.go c15 (by simp [fn15]) fun hw => ?_
  simp (maxSteps := 1000000) (implicitDefEqProofs := false) only [stp, if_true, if_false, Int.reduceEq, Int.reduceLT, Int.reduceLE, Int.reduceGT, Int.reduceGE, reduceCtorEq, Nat.reduceEqDiff, List.getElem?_cons_zero, List.getElem?_cons_succ, Option.map_some, fn15, enterFr, List.length, List.range, List.range.loop, List.zip, List.zipWith]
  refine SCalls.mono (readyH q) ?_
  rintro r G ⟨rfl, rfl⟩
  obtain ⟨uv, rv, ov, ue, re, oe, uk, rk, ok, q⟩ := q
  have l3 := q.at7.ld (j := 3) (v := uv) rfl 1
  have l4 := q.at7.ld (j := 4) (v := rv) rfl 1
  have n3 : ∀ F, exec .len [uv] F = some (.int .i64 h.undo.length, F) := fun F => by rw [← q.us.grp.length]; exact q.us.vec.len F
  have n4 : ∀ F, exec .len [rv] F = some (.int .i64 h.redo.length, F) := fun F => by rw [← q.rs.grp.length]; exact q.rs.vec.len F
  simp (maxSteps := 1000000) (implicitDefEqProofs := false) only [stp, if_true, if_false, Int.reduceEq, Int.reduceLT, Int.reduceLE, Int.reduceGT, Int.reduceGE, reduceCtorEq, Nat.reduceEqDiff, List.getElem?_cons_zero, List.getElem?_cons_succ, Option.map_some, l3, l4, n3, n4]
  exact ⟨by trivial, by trivial⟩
end Go.Proofs.YtkmaikggdbielaaGreatDoor.Fw

/- A history's stacks: one group more. No condition. -/
namespace Go.Proofs.YtkmaikggdbielaaGreatDoor.Fw
open Go
set_option linter.unusedSimpArgs false
set_option linter.unusedVariables false

theorem grp_push {H : Heap} (hw : WF H) {v : V} {es : List (List V)} {k : Option Nat} (hv : Vec H v 2 es k) {d u : V} (ho : ([d, u] : List V).all V.one = true) (hl : es.length + 1 ≤ big) :
    ∃ H3 H4, exec (.bsl 2 1 [.nils, .nils] [(0, 2)]) [.agg [d, u]] H = some (.slice H.next 0 1 (some 1), H3) ∧ exec (.app 2 48) [v, .slice H.next 0 1 (some 1)] H3 = some (.slice H3.next 0 (es.length + 1) none, H4) ∧
      Vec H4 (.slice H3.next 0 (es.length + 1) none) 2 (es ++ [[d, u]]) (some H3.next) ∧ Own H4 H3.next 2 (es ++ [[d, u]]) ∧ WF H4 ∧ H3.next = H.next + 1 ∧ H4.next = H3.next + 1 ∧ H4.gn = H.gn ∧ ∀ j, j < H.next → k ≠ some j → H4.get j = H.get j := by
  unfold big at hl
  have hb : exec (.bsl 2 1 [.nils, .nils] [(0, 2)]) [.agg [d, u]] H = some (.slice H.next 0 1 (some 1), H.new (.row false 2 [d, u])) := by
    have hf : fillA [V.nils, .nils] [((0, 2), .agg [d, u])] = some [d, u] := by
      simp only [fillA]
      rfl
    simp only [exec, List.length_cons, List.length_nil, if_true, List.zip_cons_cons, List.zip_nil_right, hf, Option.bind_some, ho]
  generalize hel : ([d, u] : List V) = el at *
  have hell : el.length = 2 := by rw [← hel]; rfl
  have hx3 : Ext H (H.new (.row false 2 el)) := (Ext.refl H).new _
  have hw3 : WF (H.new (.row false 2 el)) := hw.new _
  have hown3 : Own (H.new (.row false 2 el)) H.next 2 [el] := ⟨Nat.lt_succ_self _, by rw [new_get]; simp, by simpa using ⟨hell, by simpa using ho⟩⟩
  obtain ⟨s1, s2⟩ := (hown3.sl (some 1)).src (by simp)
  have hn3 : (H.new (.row false 2 el)).next = H.next + 1 := rfl
  generalize hG3 : H.new (.row false 2 el) = G3 at *
  obtain ⟨H4, ha, hv4, ho4, hw4, hn4, hgn4, hk4⟩ := (hv.ext hx3).app (bytes := 48) (n := 1) (news := [el]) hw3 (by decide) rfl (by decide) (by simpa using s1) (by simpa using s2) (fun e he => by simp at he; subst he; exact ⟨hell, ho⟩) (by omega) (by omega)
  exact ⟨G3, H4, hb, ha, hv4, ho4, hw4, hn3, hn4, by rw [hgn4, hx3.gn], fun j hj hk => by rw [hk4 j (by omega) hk, hx3.get j hj]⟩
end Go.Proofs.YtkmaikggdbielaaGreatDoor.Fw

/- A history's stacks: the oldest groups cut off. No condition. -/
namespace Go.Proofs.YtkmaikggdbielaaGreatDoor.Fw
open Go
set_option linter.unusedSimpArgs false
set_option linter.unusedVariables false

theorem grp_cut {H : Heap} (hw : WF H) {id : Nat} {es : List (List V)} (ho : Own H id 2 es) {n : Nat} (hn : 0 < n) (hne : n ≤ es.length) :
    ∃ H5, exec (.slc 2 false true false) [.slice id 0 es.length none, .int .i64 n] H = some (.slice id (0 + 0 * 2) (n - 0) none, H) ∧ exec (.clear [.nils, .nils]) [.slice id (0 + 0 * 2) (n - 0) none] H = some (.undef, H5) ∧
      (exec (.slc 2 true true true) [.slice id 0 es.length none, .int .i64 n, .int .i64 es.length, .int .i64 es.length] H5 = some (.slice id (0 + n * 2) (es.length - n) (some (es.length - n)), H5)) ∧
      WF H5 ∧ H5.next = H.next ∧ H5.gn = H.gn ∧ (∀ j, j ≠ id → H5.get j = H.get j) ∧ SL H5 (.slice id (0 + n * 2) (es.length - n) (some (es.length - n))) 2 (es.drop n) := by
  have hfl := flatLen fun e he => (ho.len e he).1
  have hz : (List.replicate n ([.nils, .nils] : List V)).flatten.length = n * 2 := by
    rw [flatLen (sz := 2) (fun e he => by rw [List.eq_of_mem_replicate he]; rfl), List.length_replicate]
  have hza : (List.replicate n ([.nils, .nils] : List V)).flatten.all V.one = true := flatAll fun e he => by rw [List.eq_of_mem_replicate he]; rfl
  have hwr : writeAt H id 0 (List.replicate n ([.nils, .nils] : List V)).flatten = some (H.set id (.row false 2 (splice es.flatten 0 (List.replicate n ([.nils, .nils] : List V)).flatten))) := by
    unfold writeAt
    rw [ho.get]
    simp only
    rw [if_pos ⟨by rw [hz, hfl]; omega, hza⟩]
  have hrow := set_get' H id (.row false 2 (splice es.flatten 0 (List.replicate n ([.nils, .nils] : List V)).flatten))
  refine ⟨H.set id (.row false 2 (splice es.flatten 0 (List.replicate n ([.nils, .nils] : List V)).flatten)), ?_, ?_, ?_, hw.set ho.get _, rfl, rfl, fun j hj => by rw [Heap.set_get, if_neg hj], ?_⟩
  · have hb : bounds3 false true false es.length ((none : Option Nat).getD es.length) [V.int .i64 n] = some (0, n, es.length) := by simp [bounds3, natV]
    simp only [exec, hb]
    rw [if_pos ⟨Nat.zero_le _, hne, Nat.le_refl _, by simp [slcOk, ho.get]⟩]
  · obtain ⟨m, rfl⟩ : ∃ m, n = m + 1 := ⟨n - 1, by omega⟩
    simp only [exec, Nat.sub_zero, Nat.zero_mul, Nat.add_zero]
    rw [hwr]
    rfl
  · have hb : bounds3 true true true es.length ((none : Option Nat).getD es.length) [V.int .i64 n, .int .i64 es.length, .int .i64 es.length] = some (n, es.length, es.length) := by simp [bounds3, natV]
    simp only [exec, hb]
    rw [if_pos ⟨hne, Nat.le_refl _, Nat.le_refl _, by simp [slcOk]⟩]
  · refine ⟨fun e he => ho.len e (List.mem_of_mem_drop he), .inr ⟨id, 0 + n * 2, some (es.length - n), by rw [List.length_drop], ho.lt, fun i e he => ?_⟩⟩
    rw [List.getElem?_drop] at he
    have hi := (List.getElem?_eq_some_iff.1 he).1
    have hel := ho.len e (List.mem_of_getElem? he)
    refine ⟨ho.lt, false, 2, _, hrow, ?_, fun j v hj => ?_⟩
    · unfold splice
      simp only [List.take_zero, List.nil_append, List.length_append, List.length_drop, hz, hfl, hel.1]
      omega
    · unfold splice
      have hj2 : j < 2 := by have := (List.getElem?_eq_some_iff.1 hj).1; omega
      rw [List.take_zero, List.nil_append, List.getElem?_append_right (by rw [hz]; omega), List.getElem?_drop, hz]
      have := flatG (sz := 2) (fun e he => (ho.len e he).1) he hj2
      rw [show 0 + n * 2 + (0 + n * 2 + i * 2 + j - n * 2) = (n + i) * 2 + j by omega, this]
      exact hj
end Go.Proofs.YtkmaikggdbielaaGreatDoor.Fw

/- A history keeps a group. No condition. -/
namespace Go.Proofs.YtkmaikggdbielaaGreatDoor.Fw
open Go
set_option linter.unusedSimpArgs false
set_option linter.unusedVariables false

def keepL (mx : Int) (l : List GrpC) : List GrpC := l.drop (l.length - mx.toNat)
theorem All2.drop {α β : Type} {R : α → β → Prop} : ∀ {l : List α} {k : List β} (n : Nat), All2 R l k → All2 R (l.drop n) (k.drop n)
  | l, k, 0, h => by simpa using h
  | [], [], n + 1, h => by simpa using h
  | a :: l, b :: k, n + 1, h => by simpa using All2.drop n h.2
  | [], b :: k, n + 1, h => h.elim
  | a :: l, [], n + 1, h => h.elim
theorem StZ.step {M M' : Nat → Prop} {H H' : Heap} {v : V} {es : List (List V)} {gs : List GrpC} {k : Option Nat} (h : StZ M H v es gs k) (x : ExtM M H H') (g : MGrow M M' H) (hk : ∀ j, k = some j → H'.get j = H.get j ∧ M' j) : StZ M' H' v es gs k where
  vec := h.vec.keep x.next (fun j e => (hk j e).1) fun e _ => h.st e _ x
  st := fun e => (h.st e).step x g
  own := fun j e => (hk j e).2
  grp := All2.imp (fun a b q => q.step x g) h.grp
/-- The history under growth. -/
theorem HistD.ext {H H' : Heap} {M N M' N' : Nat → Prop} {p : Nat} {s : V} {h : HistC} (q : HistD H M N p s h) (x : Ext H H') (hM : ∀ j, M j → M' j) (hG : MGrow M M' H) (hb : ∀ j, M' j → j < H'.next) (hN : ∀ j, N' j → M' j ∧ (N j ∨ H.next ≤ j)) : HistD H' M' N' p s h := by
  obtain ⟨uv, rv, ov, ue, re, oe, uk, rk, ok, q, hn⟩ := q
  have own : ∀ {k : Option Nat}, (∀ j, k = some j → M j) → ∀ j, k = some j → H'.get j = H.get j ∧ M' j := fun f j e => ⟨x.get j (q.mb j (f j e)), hM j (f j e)⟩
  refine ⟨uv, rv, ov, ue, re, oe, uk, rk, ok, ⟨Nat.lt_of_lt_of_le q.lt x.next, hM p q.mp, hb, by rw [x.get p q.lt]; exact q.at', q.us.step (x.toM M) hG (own q.us.own), q.rs.step (x.toM M) hG (own q.rs.own), q.os.step (x.toM M) hG (own q.os.own), q.kp, q.ur, q.ro⟩, fun j hj => ?_⟩
  obtain ⟨a, b | b⟩ := hN j hj
  · exact ⟨a, (hn j b).2⟩
  · have hne : ∀ {k : Option Nat}, (∀ j, k = some j → M j) → k ≠ some j := fun f e => by have := q.mb j (f j e); omega
    exact ⟨a, by have := q.lt; omega, hne q.us.own, hne q.rs.own, hne q.os.own⟩
theorem HistD.grow {H H' : Heap} {M N : Nat → Prop} {p : Nat} {s : V} {h : HistC} (q : HistD H M N p s h) (x : Ext H H') : HistD H' M N p s h :=
  q.ext x (fun _ e => e) (MGrow.refl M H) (fun j e => Nat.lt_of_lt_of_le (by obtain ⟨_, _, _, _, _, _, _, _, _, q, _⟩ := q; exact q.mb j e) x.next) fun j e => ⟨by obtain ⟨_, _, _, _, _, _, _, _, _, _, hn⟩ := q; exact (hn j e).1, .inl e⟩
/-- The history where what is nobody's is written. -/
theorem HistD.poke {H H' : Heap} {M N : Nat → Prop} {p : Nat} {s : V} {h : HistC} (q : HistD H M N p s h) (x : ExtM N H H') : HistD H' M N p s h := by
  obtain ⟨uv, rv, ov, ue, re, oe, uk, rk, ok, q, hn⟩ := q
  have xM : ExtM M H H' := ⟨x.gn, x.next, fun j hj hm => x.get j hj fun e => hm (hn j e).1⟩
  refine ⟨uv, rv, ov, ue, re, oe, uk, rk, ok, ⟨Nat.lt_of_lt_of_le q.lt x.next, q.mp, fun j e => Nat.lt_of_lt_of_le (q.mb j e) x.next, by rw [x.get p q.lt fun e => (hn p e).2.1 rfl]; exact q.at', ?_, ?_, ?_, q.kp, q.ur, q.ro⟩, hn⟩
  · exact q.us.step xM (MGrow.refl M H) fun j e => ⟨x.get j (q.mb j (q.us.own j e)) fun k => (hn j k).2.2.1 e, q.us.own j e⟩
  · exact q.rs.step xM (MGrow.refl M H) fun j e => ⟨x.get j (q.mb j (q.rs.own j e)) fun k => (hn j k).2.2.2.1 e, q.rs.own j e⟩
  · exact q.os.step xM (MGrow.refl M H) fun j e => ⟨x.get j (q.mb j (q.os.own j e)) fun k => (hn j k).2.2.2.2 e, q.os.own j e⟩
theorem HistD.less {H : Heap} {M N N' : Nat → Prop} {p : Nat} {s : V} {h : HistC} (q : HistD H M N p s h) (hN : ∀ j, N' j → N j) : HistD H M N' p s h := by
  obtain ⟨uv, rv, ov, ue, re, oe, uk, rk, ok, q, hn⟩ := q
  exact ⟨uv, rv, ov, ue, re, oe, uk, rk, ok, q, fun j e => hn j (hN j e)⟩
theorem HistD.mb {H : Heap} {M N : Nat → Prop} {p : Nat} {s : V} {h : HistC} (q : HistD H M N p s h) {j : Nat} (e : M j) : j < H.next := by
  obtain ⟨_, _, _, _, _, _, _, _, _, q, _⟩ := q
  exact q.mb j e
theorem HistS.then {H H1 H2 : Heap} {M N : Nat → Prop} {p : Nat} {s : V} {h1 h2 : HistC} (a : HistS H M N p s H1 h1) (b : ∀ M', HistD H1 M' N p s h1 → HistS H1 M' N p s H2 h2) : HistS H M N p s H2 h2 := by
  obtain ⟨M1, q1, e1, g1⟩ := a
  obtain ⟨M2, q2, e2, g2⟩ := b M1 q1
  exact ⟨M2, q2, e1.stepN g1 e2, g1.trans g2 e1.next⟩
theorem HistS.grow {H H1 H2 : Heap} {M N : Nat → Prop} {p : Nat} {s : V} {h : HistC} (a : HistS H M N p s H1 h) (x : Ext H1 H2) : HistS H M N p s H2 h := by
  obtain ⟨M1, q1, e1, g1⟩ := a
  exact ⟨M1, q1.grow x, e1.trans (x.toM _), g1⟩
theorem HistD.before {H H1 H2 : Heap} {M N : Nat → Prop} {p : Nat} {s : V} {h' : HistC} (x : Ext H H1) (a : HistS H1 M N p s H2 h') (hb : ∀ j, M j → j < H.next) : HistS H M N p s H2 h' := by
  obtain ⟨M1, q1, e1, g1⟩ := a
  exact ⟨M1, q1, (x.toM _).trans e1, fun j e => (g1 j e).imp id fun k => Nat.le_trans x.next k⟩
theorem SL.row {H F : Heap} {id off len sz : Nat} {cap : Option Nat} {es : List (List V)} (h : SL H (.slice id off len cap) sz es) (hn : H.next ≤ F.next) (hg : F.get id = H.get id) : SL F (.slice id off len cap) sz es := by
  obtain ⟨h0, ⟨e1, _⟩ | ⟨id', off', cap', e1, e2, e3⟩⟩ := h
  · cases e1
  · cases e1
    refine ⟨h0, .inr ⟨id, off, cap, rfl, by omega, fun i e he => ?_⟩⟩
    obtain ⟨q1, ro, esz, cells, q2, q3⟩ := e3 i e he
    exact ⟨by omega, ro, esz, cells, by rw [hg]; exact q2, q3⟩
set_option maxRecDepth 20000 in
set_option maxHeartbeats 4000000 in
theorem keep_calls {H : Heap} {M N : Nat → Prop} {p : Nat} {s : V} {h : HistC} (q : HistD H M N p s h) {d u : V} {g : GrpC} (hg : GrpZ M H [d, u] g) (ho : ([d, u] : List V).all V.one = true) (hl : h.undo.length + 1 ≤ big) (hm : 0 ≤ h.max) (hmb : h.max ≤ 65536) :
    SCalls PP 39 [.ptr p 0, .agg [d, u]] H fun r H' => WF H' ∧ HistS H M N p s H' { h with undo := keepL h.max (h.undo ++ [g]) } := by
  refine SCalls.go c39 (by simp [fn39]) fun hw => ?_
  obtain ⟨uv, rv, ov, ue, re, oe, uk, rk, ok, q, hN⟩ := q
  obtain ⟨G1, hx1, hw1, ha1, hb1⟩ := x_boxed (Ext.refl H) hw (e := [d, u]) ho
  have hue := q.us.grp.length
  have l9 := (q.at7.ext hx1).ld (j := 3) (v := uv) rfl 1
  have lg := ha1.lda (n := 2) rfl
  obtain ⟨H3, H4, e1, e2, v4, o4, w4, n3, n4, gn4, k4⟩ := grp_push hw1 (q.us.vec.ext hx1) ho (by omega)
  have hpl := q.lt
  have hx1n := hx1.next
  have hp4 : H4.get p = some (.row false 7 [s, .int .i64 h.max, .bool true, uv, rv, .bool h.opened, ov]) := by
    rw [k4 p (by omega) (fun e => q.kp p (.inl e) rfl), hx1.get p q.lt]; exact q.at'
  have hst := st_cell (v := .slice H3.next 0 (ue.length + 1) none) hp4 (k := 3) (by simp) rfl rfl
  simp (maxSteps := 1000000) (implicitDefEqProofs := false) only [stp, if_true, if_false, Int.reduceEq, Int.reduceLT, Int.reduceLE, Int.reduceGT, Int.reduceGE, reduceCtorEq, Nat.reduceEqDiff, List.getElem?_cons_zero, List.getElem?_cons_succ, Option.map_some, fn39, enterFr, List.length, List.range, List.range.loop, List.zip, List.zipWith, hb1, l9, lg, e1, e2, hst]
  have hp5 : (H4.set p (.row false 7 (([s, .int .i64 h.max, .bool true, uv, rv, .bool h.opened, ov] : List V).set 3 (.slice H3.next 0 (ue.length + 1) none)))).get p = some (.row false 7 [s, .int .i64 h.max, .bool true, .slice H3.next 0 (ue.length + 1) none, rv, .bool h.opened, ov]) := set_get' _ _ _
  have hw5 := w4.set hp4 (.row false 7 (([s, .int .i64 h.max, .bool true, uv, rv, .bool h.opened, ov] : List V).set 3 (.slice H3.next 0 (ue.length + 1) none)))
  have o5 : Own (H4.set p (.row false 7 (([s, .int .i64 h.max, .bool true, uv, rv, .bool h.opened, ov] : List V).set 3 (.slice H3.next 0 (ue.length + 1) none)))) H3.next 2 (ue ++ [[d, u]]) := ⟨by rw [Heap.set_next]; exact o4.lt, by rw [Heap.set_get, if_neg (by omega)]; exact o4.get, o4.len⟩
  have k5 : ∀ j, j < H.next → uk ≠ some j → j ≠ p → (H4.set p (.row false 7 (([s, .int .i64 h.max, .bool true, uv, rv, .bool h.opened, ov] : List V).set 3 (.slice H3.next 0 (ue.length + 1) none)))).get j = H.get j := fun j hj a b => by
    rw [Heap.set_get, if_neg b, k4 j (by omega) a, hx1.get j hj]
  have n5 : (H4.set p (.row false 7 (([s, .int .i64 h.max, .bool true, uv, rv, .bool h.opened, ov] : List V).set 3 (.slice H3.next 0 (ue.length + 1) none)))).next = H4.next := rfl
  have gn5 : (H4.set p (.row false 7 (([s, .int .i64 h.max, .bool true, uv, rv, .bool h.opened, ov] : List V).set 3 (.slice H3.next 0 (ue.length + 1) none)))).gn = H.gn := by rw [Heap.set_gn, gn4, hx1.gn]
  generalize H4.set p (.row false 7 (([s, .int .i64 h.max, .bool true, uv, rv, .bool h.opened, ov] : List V).set 3 (.slice H3.next 0 (ue.length + 1) none))) = H5 at *
  have hat5 : At H5 p 0 [s, .int .i64 h.max, .bool true, .slice H3.next 0 (ue.length + 1) none, rv, .bool h.opened, ov] := ⟨by omega, false, 7, _, hp5, by simp, fun j v hj => by rw [Nat.zero_add]; exact hj⟩
  have m1 := hat5.ld (j := 1) (v := .int .i64 h.max) rfl 1
  have m3 := hat5.ld (j := 3) (v := .slice H3.next 0 (ue.length + 1) none) rfl 1
  have hln : ∀ F, exec .len [.slice H3.next 0 (ue.length + 1) none] F = some (.int .i64 ((ue.length + 1 : Nat) : Int), F) := fun F => rfl
  have hM5 : ExtM M H H5 := ⟨gn5, by omega, fun j hj hm => k5 j hj (fun e => hm (q.us.own j e)) (fun e => hm (by rw [e]; exact q.mp))⟩
  unfold big at hl
  have hsub : IntKind.i64.wrap (((ue.length + 1 : Nat) : Int) - h.max) = ((ue.length + 1 : Nat) : Int) - h.max := wrap_i64 (by omega) (by omega)
  by_cases hgt : ((ue.length + 1 : Nat) : Int) - h.max > 0
  rotate_left
  · simp (maxSteps := 1000000) (implicitDefEqProofs := false) only [stp, if_true, if_false, Int.reduceEq, Int.reduceLT, Int.reduceLE, Int.reduceGT, Int.reduceGE, reduceCtorEq, Nat.reduceEqDiff, List.getElem?_cons_zero, List.getElem?_cons_succ, Option.map_some, m1, m3, hln, hsub, hgt]
    have hG : MGrow M (fun j => M j ∨ j = H3.next) H := fun j hj => by
      rcases hj with e | e
      · exact .inl e
      · exact .inr (by omega)
    have hkl : keepL h.max (h.undo ++ [g]) = h.undo ++ [g] := by
      unfold keepL
      rw [show (h.undo ++ [g]).length - h.max.toNat = 0 by simp; omega, List.drop_zero]
    refine ⟨hw5, fun j => M j ∨ j = H3.next, ⟨.slice H3.next 0 (ue.length + 1) none, rv, ov, ue ++ [[d, u]], re, oe, some H3.next, rk, ok, ?_, fun j hj => by
      obtain ⟨a1, a2, _, a4, a5⟩ := hN j hj
      have := q.mb j a1
      exact ⟨.inl a1, a2, fun e => by cases e; omega, a4, a5⟩⟩, hM5.minus fun j hj hn => k5 j hj (hN j hn).2.2.1 (hN j hn).2.1, hG⟩
    rw [hkl]
    refine ⟨by omega, .inl q.mp, fun j hj => ?_, hp5, ⟨⟨o5.len, .inr (.inr (.inl ⟨H3.next, by simp, o5, rfl⟩))⟩, (fun e => by cases e), fun j e => .inr (by cases e; rfl), All2.append (All2.imp (fun a b r => r.step hM5 hG) q.us.grp) ⟨hg.step hM5 hG, trivial⟩⟩, q.rs.step hM5 hG fun j e => ⟨k5 j (q.mb j (q.rs.own j e)) (fun e2 => (q.ur j e2).1 e) (q.kp j (.inr (.inl e))), .inl (q.rs.own j e)⟩, q.os.step hM5 hG fun j e => ⟨k5 j (q.mb j (q.os.own j e)) (fun e2 => (q.ur j e2).2 e) (q.kp j (.inr (.inr e))), .inl (q.os.own j e)⟩, fun j hj => ?_, fun j hj => ?_, q.ro⟩
    · rcases hj with e | e
      · have := q.mb j e; omega
      · omega
    · rcases hj with e | e
      · cases e; omega
      · exact q.kp j (.inr e)
    · cases hj
      exact ⟨fun e => by have := q.mb _ (q.rs.own _ e); omega, fun e => by have := q.mb _ (q.os.own _ e); omega⟩
  · obtain ⟨n, hn⟩ : ∃ n : Nat, ((ue.length + 1 : Nat) : Int) - h.max = n := ⟨(((ue.length + 1 : Nat) : Int) - h.max).toNat, by omega⟩
    have hel : (ue ++ [[d, u]]).length = ue.length + 1 := by simp
    obtain ⟨H6, f1, f2, f3, w6, n6, gn6, k6, sl6⟩ := grp_cut hw5 o5 (n := n) (by omega) (by rw [hel]; omega)
    rw [hel] at f1 f3 sl6
    have hp6 : H6.get p = some (.row false 7 [s, .int .i64 h.max, .bool true, .slice H3.next 0 (ue.length + 1) none, rv, .bool h.opened, ov]) := by rw [k6 p (by omega)]; exact hp5
    have hat6 : At H6 p 0 [s, .int .i64 h.max, .bool true, .slice H3.next 0 (ue.length + 1) none, rv, .bool h.opened, ov] := ⟨by omega, false, 7, _, hp6, by simp, fun j v hj => by rw [Nat.zero_add]; exact hj⟩
    have m6 := hat6.ld (j := 3) (v := .slice H3.next 0 (ue.length + 1) none) rfl 1
    have hst6 := st_cell (v := .slice H3.next (0 + n * 2) (ue.length + 1 - n) (some (ue.length + 1 - n))) hp6 (k := 3) (by simp) rfl rfl
    have hsub' := hsub.trans hn
    have hgt' : (n : Int) > 0 := by omega
    simp (maxSteps := 1000000) (implicitDefEqProofs := false) only [stp, if_true, if_false, Int.reduceEq, Int.reduceLT, Int.reduceLE, Int.reduceGT, Int.reduceGE, reduceCtorEq, Nat.reduceEqDiff, List.getElem?_cons_zero, List.getElem?_cons_succ, Option.map_some, m1, m3, hln, hsub', hgt', f1, f2, m6, f3, hst6]
    have w7 := w6.set hp6 (.row false 7 (([s, .int .i64 h.max, .bool true, .slice H3.next 0 (ue.length + 1) none, rv, .bool h.opened, ov] : List V).set 3 (.slice H3.next (0 + n * 2) (ue.length + 1 - n) (some (ue.length + 1 - n)))))
    have hp7 : (H6.set p (.row false 7 (([s, .int .i64 h.max, .bool true, .slice H3.next 0 (ue.length + 1) none, rv, .bool h.opened, ov] : List V).set 3 (.slice H3.next (0 + n * 2) (ue.length + 1 - n) (some (ue.length + 1 - n)))))).get p = some (.row false 7 [s, .int .i64 h.max, .bool true, .slice H3.next (0 + n * 2) (ue.length + 1 - n) (some (ue.length + 1 - n)), rv, .bool h.opened, ov]) := set_get' _ _ _
    have k7 : ∀ j, j ≠ p → (H6.set p (.row false 7 (([s, .int .i64 h.max, .bool true, .slice H3.next 0 (ue.length + 1) none, rv, .bool h.opened, ov] : List V).set 3 (.slice H3.next (0 + n * 2) (ue.length + 1 - n) (some (ue.length + 1 - n)))))).get j = H6.get j := fun j b => by rw [Heap.set_get, if_neg b]
    have n7 : (H6.set p (.row false 7 (([s, .int .i64 h.max, .bool true, .slice H3.next 0 (ue.length + 1) none, rv, .bool h.opened, ov] : List V).set 3 (.slice H3.next (0 + n * 2) (ue.length + 1 - n) (some (ue.length + 1 - n)))))).next = H6.next := rfl
    have gn7 : (H6.set p (.row false 7 (([s, .int .i64 h.max, .bool true, .slice H3.next 0 (ue.length + 1) none, rv, .bool h.opened, ov] : List V).set 3 (.slice H3.next (0 + n * 2) (ue.length + 1 - n) (some (ue.length + 1 - n)))))).gn = H.gn := by rw [Heap.set_gn, gn6, gn5]
    generalize H6.set p (.row false 7 (([s, .int .i64 h.max, .bool true, .slice H3.next 0 (ue.length + 1) none, rv, .bool h.opened, ov] : List V).set 3 (.slice H3.next (0 + n * 2) (ue.length + 1 - n) (some (ue.length + 1 - n))))) = H7 at *
    have kk : ∀ j, j < H.next → uk ≠ some j → j ≠ p → H7.get j = H.get j := fun j hj a b => by rw [k7 j b, k6 j (by omega), k5 j hj a b]
    have hM7 : ExtM M H H7 := ⟨gn7, by omega, fun j hj hm => kk j hj (fun e => hm (q.us.own j e)) (fun e => hm (by rw [e]; exact q.mp))⟩
    have hG := MGrow.refl M H
    have hkl : keepL h.max (h.undo ++ [g]) = (h.undo ++ [g]).drop n := by
      unfold keepL
      rw [show (h.undo ++ [g]).length - h.max.toNat = n by simp; omega]
    have sl7 := sl6.row (F := H7) (by omega) (k7 _ (by omega))
    have hdl : ((ue ++ [[d, u]]).drop n).length = ue.length + 1 - n := by rw [List.length_drop, hel]
    have hgrp : All2 (GrpZ M H7) (ue ++ [[d, u]]) (h.undo ++ [g]) := All2.append (All2.imp (fun a b r => r.step hM7 hG) q.us.grp) ⟨hg.step hM7 hG, trivial⟩
    refine ⟨w7, M, ⟨.slice H3.next (0 + n * 2) (ue.length + 1 - n) (some (ue.length + 1 - n)), rv, ov, (ue ++ [[d, u]]).drop n, re, oe, none, rk, ok, ?_, fun j hj => by
      obtain ⟨a1, a2, _, a4, a5⟩ := hN j hj
      exact ⟨a1, a2, by simp, a4, a5⟩⟩, hM7.minus fun j hj hn => kk j hj (hN j hn).2.2.1 (hN j hn).2.1, hG⟩
    rw [hkl]
    refine ⟨by omega, q.mp, fun j hj => ?_, hp7, ⟨⟨sl7.1, .inr (.inl ⟨H3.next, 0 + n * 2, by rw [hdl], sl7, rfl⟩)⟩, fun _ F x => sl7.row x.next (x.get _ (by omega) fun e => by have := q.mb _ e; omega), (fun j e => by cases e), hgrp.drop n⟩, q.rs.step hM7 hG fun j e => ⟨kk j (q.mb j (q.rs.own j e)) (fun e2 => (q.ur j e2).1 e) (q.kp j (.inr (.inl e))), q.rs.own j e⟩, q.os.step hM7 hG fun j e => ⟨kk j (q.mb j (q.os.own j e)) (fun e2 => (q.ur j e2).2 e) (q.kp j (.inr (.inr e))), q.os.own j e⟩, fun j hj => ?_, (fun j hj => by cases hj), q.ro⟩
    · have := q.mb j hj; omega
    · rcases hj with e | e
      · cases e
      · exact q.kp j (.inr e)
end Go.Proofs.YtkmaikggdbielaaGreatDoor.Fw

/- A history moves its newest group. No condition. -/
namespace Go.Proofs.YtkmaikggdbielaaGreatDoor.Fw
open Go
set_option linter.unusedSimpArgs false
set_option linter.unusedVariables false

theorem All2.snoc {α β : Type} {R : α → β → Prop} : ∀ {l : List α} {k : List β} {b : β}, All2 R l (k ++ [b]) → ∃ l' a, l = l' ++ [a] ∧ All2 R l' k ∧ R a b
  | [], k, b, h => by cases k <;> exact h.elim
  | a :: l, [], b, h => by
    cases l with
    | nil => exact ⟨[], a, rfl, trivial, h.1⟩
    | cons c l => exact h.2.elim
  | a :: l, c :: k, b, h => by
    obtain ⟨l', x, e, h1, h2⟩ := All2.snoc (l := l) (k := k) h.2
    exact ⟨a :: l', x, by rw [e]; rfl, ⟨h.1, h1⟩, h2⟩
/-- All but the last elements. -/
theorem vec_take {H : Heap} {v : V} {sz : Nat} {es : List (List V)} {k : Option Nat} (h : Vec H v sz es k) (hne : es ≠ []) {m : Nat} (hm : m ≤ es.length) : ∃ a, exec (.slc sz false true false) [v, .int .i64 m] H = some (a, H) ∧ SL H a sz (es.take m) := by
  have up : ∀ (id off : Nat) (c c' : Option Nat), SL H (.slice id off es.length c) sz es → SL H (.slice id (off + 0 * sz) (m - 0) c') sz (es.take m) := by
    intro id off c c' h
    obtain ⟨h0, ⟨e, _⟩ | ⟨id', off', cap', e1, e2, e3⟩⟩ := h
    · cases e
    · simp only [V.slice.injEq] at e1
      obtain ⟨rfl, rfl, _, _⟩ := e1
      refine ⟨fun e he => h0 e (List.mem_of_mem_take he), .inr ⟨_, _, _, by rw [List.length_take, Nat.min_eq_left hm, Nat.sub_zero], e2, fun i e he => ?_⟩⟩
      rw [List.getElem?_take] at he
      split at he
      · have := e3 i e he
        rwa [Nat.zero_mul, Nat.add_zero]
      · cases he
  have hsl := h.sl
  obtain ⟨_, ⟨rfl, e, _⟩ | ⟨id, off, rfl, _, _⟩ | ⟨id, rfl, ho, _⟩ | ⟨e, _⟩⟩ := h
  · exact absurd e hne
  · refine ⟨.slice id (off + 0 * sz) (m - 0) (some (es.length - 0)), ?_, up _ _ _ _ hsl⟩
    have hb : bounds3 false true false es.length ((some es.length : Option Nat).getD es.length) [V.int .i64 m] = some (0, m, es.length) := by simp [bounds3, natV]
    simp only [exec, hb]
    rw [if_pos ⟨Nat.zero_le _, hm, Nat.le_refl _, by simp [slcOk]⟩]
  · refine ⟨.slice id (0 + 0 * sz) (m - 0) none, ?_, up _ _ _ _ hsl⟩
    have hb : bounds3 false true false es.length ((none : Option Nat).getD es.length) [V.int .i64 m] = some (0, m, es.length) := by simp [bounds3, natV]
    simp only [exec, hb]
    rw [if_pos ⟨Nat.zero_le _, hm, Nat.le_refl _, by simp [slcOk, ho.get]⟩]
  · exact absurd e hne
theorem cloneG_calls {x : V} {H : Heap} {es : List (List V)} (hx : SL H x 2 es) (hl : es.length ≤ big) :
    SCalls PP 55 [x] H fun r H' => Ext H H' ∧ WF H' ∧ ∃ k, Vec H' r 2 es k ∧ (∀ j, k = some j → H.next ≤ j) ∧ (es ≠ [] → ∃ j, k = some j ∧ Own H' j 2 es ∧ r = .slice j 0 es.length none) ∧ (k = none → es = []) :=
  clone_gen (show compFn PP 55 = some (cloneFn 2 48) from c55) (by decide) (by decide) hx hl
theorem x_build0 (H : Heap) : exec (.build [.nils, .nils] []) [] H = some (.agg [.nils, .nils], H) := rfl

set_option maxRecDepth 20000 in
set_option maxHeartbeats 1000000 in
theorem moveU_no {H : Heap} {M : Nat → Prop} {p : Nat} {s : V} {h : HistC} (q : HistI H M p s h) (hn : h.opened = true ∨ h.undo = []) :
    SCalls PP 40 [.ptr p 0, .ptr p (0 + 3), .ptr p (0 + 4)] H fun r H' => Ext H H' ∧ WF H' ∧ r = .tup [.agg [.nils, .nils], .int .i64 (if h.opened then 9 else 10)] := by
  refine SCalls.go c40 (by simp [fn40]) fun hw => ?_
  obtain ⟨uv, rv, ov, ue, re, oe, uk, rk, ok, q⟩ := q
  have al := x_alloc H [.nils, .nils] rfl
  have hx1 : Ext H (H.new (.row false 2 [.nils, .nils])) := (Ext.refl H).new _
  have hw1 : WF (H.new (.row false 2 [.nils, .nils])) := hw.new _
  have hg1 := new_get H (.row false 2 [.nils, .nils])
  have hn1 : H.next < (H.new (.row false 2 [.nils, .nils])).next := Nat.lt_succ_self _
  rw [show ([V.nils, .nils] : List V).length = 2 from rfl] at al
  generalize H.new (.row false 2 [.nils, .nils]) = G at *
  have lf := (q.at7.ext hx1).ld (j := 3) (v := uv) rfl 1
  have lo := (q.at7.ext hx1).ld (j := 5) (v := .bool h.opened) rfl 1
  have ln : ∀ F, exec .len [uv] F = some (.int .i64 h.undo.length, F) := fun F => by rw [← q.us.grp.length]; exact q.us.vec.len F
  have st := x_st (n := 2) (v := .agg [.nils, .nils]) hg1 rfl rfl rfl
  have hca : At (G.set H.next (.row false 2 [.nils, .nils])) H.next 0 [.nils, .nils] := ⟨hn1, false, 2, [.nils, .nils], set_get' _ _ _, by simp, fun j v hj => by rw [Nat.zero_add]; exact hj⟩
  have hcs : (V.agg [.nils, .nils]).cells = [.nils, .nils] := rfl
  rw [hcs] at st
  have hcc := hca.cells (n := 2) rfl
  have hxx : Ext H (G.set H.next (.row false 2 [.nils, .nils])) := hx1.set (Nat.le_refl _) _
  have hww := hw1.set hg1 (.row false 2 [.nils, .nils])
  generalize G.set H.next (.row false 2 [.nils, .nils]) = G2 at *
  by_cases ho : h.opened = true
  · rw [ho] at lo ⊢
    simp (maxSteps := 1000000) (implicitDefEqProofs := false) only [stp, if_true, if_false, Int.reduceEq, Int.reduceLT, Int.reduceLE, Int.reduceGT, Int.reduceGE, reduceCtorEq, Nat.reduceEqDiff, List.getElem?_cons_zero, List.getElem?_cons_succ, Option.map_some, fn40, enterFr, List.length, List.range, List.range.loop, List.zip, List.zipWith, al, lf, ln, lo, x_build0, st, hcc]
    exact ⟨hxx, hww, by trivial⟩
  · have ho' : h.opened = false := by simpa using ho
    have he : h.undo = [] := hn.resolve_left ho
    rw [ho'] at lo ⊢
    rw [he] at ln
    have hsub : IntKind.i64.wrap (((0 : Nat) : Int) - 1) = -1 := by decide
    rw [List.length_nil] at ln
    have hlt : (-1 : Int) < 0 := by decide
    simp (maxSteps := 1000000) (implicitDefEqProofs := false) only [stp, if_true, if_false, Int.reduceEq, Int.reduceLT, Int.reduceLE, Int.reduceGT, Int.reduceGE, reduceCtorEq, Nat.reduceEqDiff, List.getElem?_cons_zero, List.getElem?_cons_succ, Option.map_some, fn40, enterFr, List.length, List.range, List.range.loop, List.zip, List.zipWith, al, lf, ln, hsub, lo, hlt, x_build0, st, hcc]
    exact ⟨hxx, hww, by trivial⟩
set_option maxRecDepth 20000 in
set_option maxHeartbeats 4000000 in
theorem moveU_ok {H : Heap} {M N : Nat → Prop} {p : Nat} {s : V} {h : HistC} (q : HistD H M N p s h) (ho : h.opened = false) {gi : List GrpC} {g : GrpC} (hg : h.undo = gi ++ [g]) (hl : h.undo.length ≤ big) (hr : h.redo.length + 1 ≤ big) :
    SCalls PP 40 [.ptr p 0, .ptr p (0 + 3), .ptr p (0 + 4)] H fun r H' => WF H' ∧ ∃ M' d u, r = .tup [.agg [d, u], .int .i64 0] ∧ ([d, u] : List V).all V.one = true ∧ GrpZ M' H' [d, u] g ∧ HistD H' M' N p s { h with undo := gi, redo := h.redo ++ [g] } ∧ ExtM (fun j => M j ∧ ¬ N j) H H' ∧ MGrow M M' H := by
  refine SCalls.go c40 (by simp [fn40]) fun hw => ?_
  obtain ⟨uv, rv, ov, ue, re, oe, uk, rk, ok, q, hN⟩ := q
  unfold big at hl hr
  -- the newest group
  have hgrp := q.us.grp
  rw [hg] at hgrp
  obtain ⟨ei, e0, hue, hgi, hg0⟩ := hgrp.snoc
  have hel := q.us.vec.1 e0 (by rw [hue]; simp)
  have heil := hgi.length
  have hflen : h.undo.length = ei.length + 1 := by rw [hg, List.length_append, ← heil]; rfl
  have hne : ue ≠ [] := by rw [hue]; simp
  have hgl : ei.length ≤ ue.length := by rw [hue]; simp
  obtain ⟨d, u, hedu⟩ : ∃ d u, e0 = [d, u] := by
    obtain ⟨d, u, _, _, h1, _⟩ := hg0
    exact ⟨d, u, h1⟩
  subst hedu
  -- the result's box
  have al := x_alloc H [.nils, .nils] rfl
  have hx1 : Ext H (H.new (.row false 2 [.nils, .nils])) := (Ext.refl H).new _
  have hw1 : WF (H.new (.row false 2 [.nils, .nils])) := hw.new _
  have hg1 := new_get H (.row false 2 [.nils, .nils])
  have hn1 : (H.new (.row false 2 [.nils, .nils])).next = H.next + 1 := rfl
  rw [show ([V.nils, .nils] : List V).length = 2 from rfl] at al
  generalize H.new (.row false 2 [.nils, .nils]) = G1 at *
  have lf := (q.at7.ext hx1).ld (j := 3) (v := uv) rfl 1
  have lo := (q.at7.ext hx1).ld (j := 5) (v := .bool h.opened) rfl 1
  rw [ho] at lo
  have ln : ∀ F, exec .len [uv] F = some (.int .i64 ((ei.length + 1 : Nat) : Int), F) := fun F => by rw [← hflen, ← q.us.grp.length]; exact q.us.vec.len F
  have hsub : IntKind.i64.wrap (((ei.length + 1 : Nat) : Int) - 1) = ((ei.length : Nat) : Int) := by rw [wrap_i64 (by omega) (by omega)]; omega
  have hlt : ¬ (((ei.length : Nat) : Int) < 0) := by omega
  have hsf1 := q.us.vec.ext hx1
  obtain ⟨i1, o1, ha1, ht1⟩ := hsf1.sl.ia (H' := G1) (i := ei.length) (e := [d, u]) (by rw [hue]; simp) .i64
  have la1 := ht1.lda (n := 2) rfl
  obtain ⟨G2, hx2, hw2, ht2, c1, c2⟩ := x_copy (G := G1) (Ext.refl G1) hw1 (z := [.nils, .nils]) (e := [d, u]) (n := 2) rfl rfl rfl hel.2
  have hx12 := hx1.trans hx2
  have lf2 := (q.at7.ext hx12).ld (j := 3) (v := uv) rfl 1
  obtain ⟨a, sa, hsa⟩ := vec_take (q.us.vec.ext hx12) hne hgl
  have htk : ue.take ei.length = ei := by rw [hue]; simp
  rw [htk] at hsa
  simp (maxSteps := 1000000) (implicitDefEqProofs := false) only [stp, if_true, if_false, Int.reduceEq, Int.reduceLT, Int.reduceLE, Int.reduceGT, Int.reduceGE, reduceCtorEq, Nat.reduceEqDiff, List.getElem?_cons_zero, List.getElem?_cons_succ, Option.map_some, fn40, enterFr, List.length, List.range, List.range.loop, List.zip, List.zipWith, al, lf, ln, hsub, lo, hlt, ha1, la1, c1, c2, lf2, sa]
  refine SCalls.mono (cloneG_calls hsa (by unfold big; omega)) ?_
  rintro cv G3 ⟨hx3, hw3, k1, v1, f1, _, z1⟩
  have hx13 := hx12.trans hx3
  have hp3 : G3.get p = some (.row false 7 [s, .int .i64 h.max, .bool true, uv, rv, .bool h.opened, ov]) := by rw [hx13.get p q.lt]; exact q.at'
  obtain ⟨G4, st4, hw4, hp4, n4, gn4, k4⟩ := st_row hw3 (k := 3) (v := cv) hp3 (by simp) v1.one.2 v1.one.1 rfl
  simp only [List.set_cons_succ, List.set_cons_zero] at hp4
  have b2 := hx1.next
  have b3 := hx2.next
  have b4 := hx3.next
  have hat4 : At G4 p 0 [s, .int .i64 h.max, .bool true, cv, rv, .bool h.opened, ov] := ⟨by have := q.lt; omega, false, 7, _, hp4, by simp, fun j v hj => by rw [Nat.zero_add]; exact hj⟩
  have lt4 := hat4.ld (j := 4) (v := rv) rfl 1
  have ht4 : At G4 G1.next 0 [d, u] := by
    obtain ⟨q1, ro, esz, cells, q2, q3⟩ := ht2.ext hx3
    exact ⟨by omega, ro, esz, cells, by rw [k4 _ (by have := q.lt; omega)]; exact q2, q3⟩
  have la4 := ht4.lda (n := 2) rfl
  have old4 : ∀ j, j < H.next → j ≠ p → G4.get j = H.get j := fun j hj hp => by rw [k4 j hp, hx13.get j hj]
  have tv4 : Vec G4 rv 2 re rk := q.rs.vec.keep (by omega) (fun j e => by
      have hj := q.rs.vec
      rw [e] at hj
      exact old4 j hj.lt (q.kp j (.inr (.inl e)))) fun e _ => q.rs.st e G4 ⟨by rw [gn4, hx13.gn], by omega, fun j hj hm => old4 j hj (fun e => hm (by rw [e]; exact q.mp))⟩
  obtain ⟨H5, H6, e5, e6, v6, o6, w6, n5, n6, gn6, k6⟩ := grp_push hw4 tv4 (d := d) (u := u) hel.2 (by rw [q.rs.grp.length]; exact hr)
  simp (maxSteps := 1000000) (implicitDefEqProofs := false) only [stp, if_true, if_false, Int.reduceEq, Int.reduceLT, Int.reduceLE, Int.reduceGT, Int.reduceGE, reduceCtorEq, Nat.reduceEqDiff, List.getElem?_cons_zero, List.getElem?_cons_succ, Option.map_some, st4, lt4, la4, e5, e6]
  have hpl := q.lt
  have hp6 : H6.get p = some (.row false 7 [s, .int .i64 h.max, .bool true, cv, rv, .bool h.opened, ov]) := by
    rw [k6 p (by omega) (fun e => q.kp p (by exact .inr (.inl e)) rfl)]; exact hp4
  obtain ⟨H7, st7, hw7, hp7, n7, gn7, k7⟩ := st_row w6 (k := 4) (v := .slice H5.next 0 (re.length + 1) none) hp6 (by simp) rfl rfl rfl
  simp only [List.set_cons_succ, List.set_cons_zero] at hp7
  have tkl : ∀ j, rk = some j → j < H.next := fun j e => q.mb j (q.rs.own j e)
  have hg7 : H7.get H.next = some (.row false 2 [.nils, .nils]) := by
    rw [k7 _ (by omega), k6 _ (by omega) (fun e => by have := tkl _ e; omega), k4 _ (by omega), hx3.get _ (by omega), hx2.get _ (by omega)]; exact hg1
  have ht7 : At H7 G1.next 0 [d, u] := by
    obtain ⟨q1, ro, esz, cells, q2, q3⟩ := ht4
    exact ⟨by omega, ro, esz, cells, by rw [k7 _ (by omega), k6 _ (by omega) (fun e => by have := tkl _ e; omega)]; exact q2, q3⟩
  have la7 := ht7.lda (n := 2) rfl
  have st8 := x_st (n := 2) (v := .agg [d, u]) hg7 rfl rfl hel.2
  rw [show (V.agg [d, u]).cells = [d, u] from rfl] at st8
  have hca : At (H7.set H.next (.row false 2 [d, u])) H.next 0 [d, u] := ⟨by rw [Heap.set_next]; omega, false, 2, [d, u], set_get' _ _ _, by simp, fun j v hj => by rw [Nat.zero_add]; exact hj⟩
  have hcc := hca.cells (n := 2) rfl
  have hw8 := hw7.set hg7 (.row false 2 [d, u])
  have k8 : ∀ j, j ≠ H.next → (H7.set H.next (.row false 2 [d, u])).get j = H7.get j := fun j b => by rw [Heap.set_get, if_neg b]
  have n8 : (H7.set H.next (.row false 2 [d, u])).next = H7.next := rfl
  have gn8 : (H7.set H.next (.row false 2 [d, u])).gn = H7.gn := rfl
  generalize H7.set H.next (.row false 2 [d, u]) = H8 at *
  simp (maxSteps := 1000000) (implicitDefEqProofs := false) only [stp, if_true, if_false, Int.reduceEq, Int.reduceLT, Int.reduceLE, Int.reduceGT, Int.reduceGE, reduceCtorEq, Nat.reduceEqDiff, List.getElem?_cons_zero, List.getElem?_cons_succ, Option.map_some, st7, la7, st8, hcc]
  have kk : ∀ j, j < H.next → rk ≠ some j → j ≠ p → H8.get j = H.get j := fun j hj a b => by
    rw [k8 j (by omega), k7 j b, k6 j (by omega) a, old4 j hj b]
  have hM : ExtM M H H8 := ⟨by rw [gn8, gn7, gn6, gn4, hx13.gn], by omega, fun j hj hm => kk j hj (fun e => hm (q.rs.own j e)) (fun e => hm (by rw [e]; exact q.mp))⟩
  have hG : MGrow M (fun j => M j ∨ j = H5.next ∨ k1 = some j) H := fun j hj => by
    rcases hj with e | e | e
    · exact .inl e
    · exact .inr (by omega)
    · have := f1 j e
      exact .inr (by omega)
  have k1l : ∀ j, k1 = some j → j < G3.next := fun j e => by rw [e] at v1; exact v1.lt
  have v8 : Vec H8 cv 2 ei k1 := v1.keep (by omega) (fun j e => by
      have h1 := f1 j e
      have h2 := k1l j e
      rw [k8 j (by omega), k7 j (by omega), k6 j (by omega) (fun e => by have := tkl _ e; omega), k4 j (by omega)]) fun e hs => by
        rw [z1 e] at hs ⊢
        exact hs.empty (by omega)
  have tv8 : Vec H8 (.slice H5.next 0 (re.length + 1) none) 2 (re ++ [[d, u]]) (some H5.next) := v6.keep (by omega) (fun j e => by
      cases e
      rw [k8 _ (by omega), k7 _ (by omega)]) (fun e => by cases e)
  refine ⟨hw8, fun j => M j ∨ j = H5.next ∨ k1 = some j, d, u, by trivial, hel.2, hg0.step hM hG, ⟨cv, .slice H5.next 0 (re.length + 1) none, ov, ei, re ++ [[d, u]], oe, k1, some H5.next, ok, ?_, fun j hj => ?_⟩, hM.minus fun j hj hn => kk j hj ((fun a => a.2.2.2.1) (hN j hn)) (hN j hn).2.1, hG⟩
  rotate_left
  · obtain ⟨a1, a2, a3, a4, a5⟩ := hN j hj
    have hj' := q.mb j a1
    have c1 : k1 ≠ some j := fun e => by have := f1 j e; omega
    have c2 : some H5.next ≠ some j := fun e => by cases e; omega
    exact ⟨.inl a1, a2, by first | exact c1 | exact c2, by first | exact c1 | exact c2, a5⟩
  have hfs : StZ (fun j => M j ∨ j = H5.next ∨ k1 = some j) H8 cv ei gi k1 := ⟨v8, fun e F x => (by
      have hs := v8.sl
      rw [z1 e] at hs ⊢
      exact hs.empty x.next), fun j e => .inr (.inr e), All2.imp (fun a b r => r.step hM hG) hgi⟩
  have hts : StZ (fun j => M j ∨ j = H5.next ∨ k1 = some j) H8 (.slice H5.next 0 (re.length + 1) none) (re ++ [[d, u]]) (h.redo ++ [g]) (some H5.next) := ⟨tv8, (fun e => by cases e), fun j e => .inr (.inl (by cases e; rfl)), All2.append (All2.imp (fun a b r => r.step hM hG) q.rs.grp) ⟨hg0.step hM hG, trivial⟩⟩
  have okl : ∀ j, ok = some j → j < H.next := fun j e => q.mb j (q.os.own j e)
  exact {
    lt := by omega
    mp := .inl q.mp
    mb := fun j hj => by
      rcases hj with e | e | e
      · have := q.mb j e; omega
      · omega
      · have := k1l j e; omega
    at' := by rw [k8 p (by omega)]; exact hp7
    us := hfs
    rs := hts
    os := q.os.step hM hG fun j e => ⟨kk j (okl j e) (fun e2 => q.ro j e2 e) (q.kp j (.inr (.inr e))), .inl (q.os.own j e)⟩
    kp := fun j hj e => by
      subst e
      have a1 : ∀ i, k1 = some i → i ≠ j := fun i e2 e3 => by have := f1 i e2; omega
      have a2 : ∀ i, some H5.next = some i → i ≠ j := fun i e2 e3 => by cases e2; omega
      rcases hj with e | e | e
      · first | exact a1 _ e rfl | exact a2 _ e rfl
      · first | exact a1 _ e rfl | exact a2 _ e rfl
      · exact q.kp j (.inr (.inr e)) rfl
    ur := fun j e => by
      have a1 : ∀ i, k1 = some i → some H5.next ≠ some i := fun i e2 e3 => by cases e3; have := k1l _ e2; omega
      have a3 : ∀ i, k1 = some i → ok ≠ some i := fun i e2 e3 => by have := f1 _ e2; have := okl _ e3; omega
      have a4 : ∀ i, some H5.next = some i → ok ≠ some i := fun i e2 e3 => by cases e2; have := okl _ e3; omega
      first
      | exact ⟨a1 _ e, a3 _ e⟩
      | exact ⟨fun e2 => a1 _ e2 e, a4 _ e⟩
    ro := fun j e => by
      have a3 : ∀ i, k1 = some i → ok ≠ some i := fun i e2 e3 => by have := f1 _ e2; have := okl _ e3; omega
      have a4 : ∀ i, some H5.next = some i → ok ≠ some i := fun i e2 e3 => by cases e2; have := okl _ e3; omega
      first | exact a3 _ e | exact a4 _ e }

set_option maxRecDepth 20000 in
set_option maxHeartbeats 1000000 in
theorem moveR_no {H : Heap} {M : Nat → Prop} {p : Nat} {s : V} {h : HistC} (q : HistI H M p s h) (hn : h.opened = true ∨ h.redo = []) :
    SCalls PP 40 [.ptr p 0, .ptr p (0 + 4), .ptr p (0 + 3)] H fun r H' => Ext H H' ∧ WF H' ∧ r = .tup [.agg [.nils, .nils], .int .i64 (if h.opened then 9 else 10)] := by
  refine SCalls.go c40 (by simp [fn40]) fun hw => ?_
  obtain ⟨uv, rv, ov, ue, re, oe, uk, rk, ok, q⟩ := q
  have al := x_alloc H [.nils, .nils] rfl
  have hx1 : Ext H (H.new (.row false 2 [.nils, .nils])) := (Ext.refl H).new _
  have hw1 : WF (H.new (.row false 2 [.nils, .nils])) := hw.new _
  have hg1 := new_get H (.row false 2 [.nils, .nils])
  have hn1 : H.next < (H.new (.row false 2 [.nils, .nils])).next := Nat.lt_succ_self _
  rw [show ([V.nils, .nils] : List V).length = 2 from rfl] at al
  generalize H.new (.row false 2 [.nils, .nils]) = G at *
  have lf := (q.at7.ext hx1).ld (j := 4) (v := rv) rfl 1
  have lo := (q.at7.ext hx1).ld (j := 5) (v := .bool h.opened) rfl 1
  have ln : ∀ F, exec .len [rv] F = some (.int .i64 h.redo.length, F) := fun F => by rw [← q.rs.grp.length]; exact q.rs.vec.len F
  have st := x_st (n := 2) (v := .agg [.nils, .nils]) hg1 rfl rfl rfl
  have hca : At (G.set H.next (.row false 2 [.nils, .nils])) H.next 0 [.nils, .nils] := ⟨hn1, false, 2, [.nils, .nils], set_get' _ _ _, by simp, fun j v hj => by rw [Nat.zero_add]; exact hj⟩
  have hcs : (V.agg [.nils, .nils]).cells = [.nils, .nils] := rfl
  rw [hcs] at st
  have hcc := hca.cells (n := 2) rfl
  have hxx : Ext H (G.set H.next (.row false 2 [.nils, .nils])) := hx1.set (Nat.le_refl _) _
  have hww := hw1.set hg1 (.row false 2 [.nils, .nils])
  generalize G.set H.next (.row false 2 [.nils, .nils]) = G2 at *
  by_cases ho : h.opened = true
  · rw [ho] at lo ⊢
    simp (maxSteps := 1000000) (implicitDefEqProofs := false) only [stp, if_true, if_false, Int.reduceEq, Int.reduceLT, Int.reduceLE, Int.reduceGT, Int.reduceGE, reduceCtorEq, Nat.reduceEqDiff, List.getElem?_cons_zero, List.getElem?_cons_succ, Option.map_some, fn40, enterFr, List.length, List.range, List.range.loop, List.zip, List.zipWith, al, lf, ln, lo, x_build0, st, hcc]
    exact ⟨hxx, hww, by trivial⟩
  · have ho' : h.opened = false := by simpa using ho
    have he : h.redo = [] := hn.resolve_left ho
    rw [ho'] at lo ⊢
    rw [he] at ln
    have hsub : IntKind.i64.wrap (((0 : Nat) : Int) - 1) = -1 := by decide
    rw [List.length_nil] at ln
    have hlt : (-1 : Int) < 0 := by decide
    simp (maxSteps := 1000000) (implicitDefEqProofs := false) only [stp, if_true, if_false, Int.reduceEq, Int.reduceLT, Int.reduceLE, Int.reduceGT, Int.reduceGE, reduceCtorEq, Nat.reduceEqDiff, List.getElem?_cons_zero, List.getElem?_cons_succ, Option.map_some, fn40, enterFr, List.length, List.range, List.range.loop, List.zip, List.zipWith, al, lf, ln, hsub, lo, hlt, x_build0, st, hcc]
    exact ⟨hxx, hww, by trivial⟩
set_option maxRecDepth 20000 in
set_option maxHeartbeats 4000000 in
theorem moveR_ok {H : Heap} {M N : Nat → Prop} {p : Nat} {s : V} {h : HistC} (q : HistD H M N p s h) (ho : h.opened = false) {gi : List GrpC} {g : GrpC} (hg : h.redo = gi ++ [g]) (hl : h.redo.length ≤ big) (hr : h.undo.length + 1 ≤ big) :
    SCalls PP 40 [.ptr p 0, .ptr p (0 + 4), .ptr p (0 + 3)] H fun r H' => WF H' ∧ ∃ M' d u, r = .tup [.agg [d, u], .int .i64 0] ∧ ([d, u] : List V).all V.one = true ∧ GrpZ M' H' [d, u] g ∧ HistD H' M' N p s { h with redo := gi, undo := h.undo ++ [g] } ∧ ExtM (fun j => M j ∧ ¬ N j) H H' ∧ MGrow M M' H := by
  refine SCalls.go c40 (by simp [fn40]) fun hw => ?_
  obtain ⟨uv, rv, ov, ue, re, oe, uk, rk, ok, q, hN⟩ := q
  unfold big at hl hr
  -- the newest group
  have hgrp := q.rs.grp
  rw [hg] at hgrp
  obtain ⟨ei, e0, hue, hgi, hg0⟩ := hgrp.snoc
  have hel := q.rs.vec.1 e0 (by rw [hue]; simp)
  have heil := hgi.length
  have hflen : h.redo.length = ei.length + 1 := by rw [hg, List.length_append, ← heil]; rfl
  have hne : re ≠ [] := by rw [hue]; simp
  have hgl : ei.length ≤ re.length := by rw [hue]; simp
  obtain ⟨d, u, hedu⟩ : ∃ d u, e0 = [d, u] := by
    obtain ⟨d, u, _, _, h1, _⟩ := hg0
    exact ⟨d, u, h1⟩
  subst hedu
  -- the result's box
  have al := x_alloc H [.nils, .nils] rfl
  have hx1 : Ext H (H.new (.row false 2 [.nils, .nils])) := (Ext.refl H).new _
  have hw1 : WF (H.new (.row false 2 [.nils, .nils])) := hw.new _
  have hg1 := new_get H (.row false 2 [.nils, .nils])
  have hn1 : (H.new (.row false 2 [.nils, .nils])).next = H.next + 1 := rfl
  rw [show ([V.nils, .nils] : List V).length = 2 from rfl] at al
  generalize H.new (.row false 2 [.nils, .nils]) = G1 at *
  have lf := (q.at7.ext hx1).ld (j := 4) (v := rv) rfl 1
  have lo := (q.at7.ext hx1).ld (j := 5) (v := .bool h.opened) rfl 1
  rw [ho] at lo
  have ln : ∀ F, exec .len [rv] F = some (.int .i64 ((ei.length + 1 : Nat) : Int), F) := fun F => by rw [← hflen, ← q.rs.grp.length]; exact q.rs.vec.len F
  have hsub : IntKind.i64.wrap (((ei.length + 1 : Nat) : Int) - 1) = ((ei.length : Nat) : Int) := by rw [wrap_i64 (by omega) (by omega)]; omega
  have hlt : ¬ (((ei.length : Nat) : Int) < 0) := by omega
  have hsf1 := q.rs.vec.ext hx1
  obtain ⟨i1, o1, ha1, ht1⟩ := hsf1.sl.ia (H' := G1) (i := ei.length) (e := [d, u]) (by rw [hue]; simp) .i64
  have la1 := ht1.lda (n := 2) rfl
  obtain ⟨G2, hx2, hw2, ht2, c1, c2⟩ := x_copy (G := G1) (Ext.refl G1) hw1 (z := [.nils, .nils]) (e := [d, u]) (n := 2) rfl rfl rfl hel.2
  have hx12 := hx1.trans hx2
  have lf2 := (q.at7.ext hx12).ld (j := 4) (v := rv) rfl 1
  obtain ⟨a, sa, hsa⟩ := vec_take (q.rs.vec.ext hx12) hne hgl
  have htk : re.take ei.length = ei := by rw [hue]; simp
  rw [htk] at hsa
  simp (maxSteps := 1000000) (implicitDefEqProofs := false) only [stp, if_true, if_false, Int.reduceEq, Int.reduceLT, Int.reduceLE, Int.reduceGT, Int.reduceGE, reduceCtorEq, Nat.reduceEqDiff, List.getElem?_cons_zero, List.getElem?_cons_succ, Option.map_some, fn40, enterFr, List.length, List.range, List.range.loop, List.zip, List.zipWith, al, lf, ln, hsub, lo, hlt, ha1, la1, c1, c2, lf2, sa]
  refine SCalls.mono (cloneG_calls hsa (by unfold big; omega)) ?_
  rintro cv G3 ⟨hx3, hw3, k1, v1, f1, _, z1⟩
  have hx13 := hx12.trans hx3
  have hp3 : G3.get p = some (.row false 7 [s, .int .i64 h.max, .bool true, uv, rv, .bool h.opened, ov]) := by rw [hx13.get p q.lt]; exact q.at'
  obtain ⟨G4, st4, hw4, hp4, n4, gn4, k4⟩ := st_row hw3 (k := 4) (v := cv) hp3 (by simp) v1.one.2 v1.one.1 rfl
  simp only [List.set_cons_succ, List.set_cons_zero] at hp4
  have b2 := hx1.next
  have b3 := hx2.next
  have b4 := hx3.next
  have hat4 : At G4 p 0 [s, .int .i64 h.max, .bool true, uv, cv, .bool h.opened, ov] := ⟨by have := q.lt; omega, false, 7, _, hp4, by simp, fun j v hj => by rw [Nat.zero_add]; exact hj⟩
  have lt4 := hat4.ld (j := 3) (v := uv) rfl 1
  have ht4 : At G4 G1.next 0 [d, u] := by
    obtain ⟨q1, ro, esz, cells, q2, q3⟩ := ht2.ext hx3
    exact ⟨by omega, ro, esz, cells, by rw [k4 _ (by have := q.lt; omega)]; exact q2, q3⟩
  have la4 := ht4.lda (n := 2) rfl
  have old4 : ∀ j, j < H.next → j ≠ p → G4.get j = H.get j := fun j hj hp => by rw [k4 j hp, hx13.get j hj]
  have tv4 : Vec G4 uv 2 ue uk := q.us.vec.keep (by omega) (fun j e => by
      have hj := q.us.vec
      rw [e] at hj
      exact old4 j hj.lt (q.kp j (.inl e))) fun e _ => q.us.st e G4 ⟨by rw [gn4, hx13.gn], by omega, fun j hj hm => old4 j hj (fun e => hm (by rw [e]; exact q.mp))⟩
  obtain ⟨H5, H6, e5, e6, v6, o6, w6, n5, n6, gn6, k6⟩ := grp_push hw4 tv4 (d := d) (u := u) hel.2 (by rw [q.us.grp.length]; exact hr)
  simp (maxSteps := 1000000) (implicitDefEqProofs := false) only [stp, if_true, if_false, Int.reduceEq, Int.reduceLT, Int.reduceLE, Int.reduceGT, Int.reduceGE, reduceCtorEq, Nat.reduceEqDiff, List.getElem?_cons_zero, List.getElem?_cons_succ, Option.map_some, st4, lt4, la4, e5, e6]
  have hpl := q.lt
  have hp6 : H6.get p = some (.row false 7 [s, .int .i64 h.max, .bool true, uv, cv, .bool h.opened, ov]) := by
    rw [k6 p (by omega) (fun e => q.kp p (by exact .inl e) rfl)]; exact hp4
  obtain ⟨H7, st7, hw7, hp7, n7, gn7, k7⟩ := st_row w6 (k := 3) (v := .slice H5.next 0 (ue.length + 1) none) hp6 (by simp) rfl rfl rfl
  simp only [List.set_cons_succ, List.set_cons_zero] at hp7
  have tkl : ∀ j, uk = some j → j < H.next := fun j e => q.mb j (q.us.own j e)
  have hg7 : H7.get H.next = some (.row false 2 [.nils, .nils]) := by
    rw [k7 _ (by omega), k6 _ (by omega) (fun e => by have := tkl _ e; omega), k4 _ (by omega), hx3.get _ (by omega), hx2.get _ (by omega)]; exact hg1
  have ht7 : At H7 G1.next 0 [d, u] := by
    obtain ⟨q1, ro, esz, cells, q2, q3⟩ := ht4
    exact ⟨by omega, ro, esz, cells, by rw [k7 _ (by omega), k6 _ (by omega) (fun e => by have := tkl _ e; omega)]; exact q2, q3⟩
  have la7 := ht7.lda (n := 2) rfl
  have st8 := x_st (n := 2) (v := .agg [d, u]) hg7 rfl rfl hel.2
  rw [show (V.agg [d, u]).cells = [d, u] from rfl] at st8
  have hca : At (H7.set H.next (.row false 2 [d, u])) H.next 0 [d, u] := ⟨by rw [Heap.set_next]; omega, false, 2, [d, u], set_get' _ _ _, by simp, fun j v hj => by rw [Nat.zero_add]; exact hj⟩
  have hcc := hca.cells (n := 2) rfl
  have hw8 := hw7.set hg7 (.row false 2 [d, u])
  have k8 : ∀ j, j ≠ H.next → (H7.set H.next (.row false 2 [d, u])).get j = H7.get j := fun j b => by rw [Heap.set_get, if_neg b]
  have n8 : (H7.set H.next (.row false 2 [d, u])).next = H7.next := rfl
  have gn8 : (H7.set H.next (.row false 2 [d, u])).gn = H7.gn := rfl
  generalize H7.set H.next (.row false 2 [d, u]) = H8 at *
  simp (maxSteps := 1000000) (implicitDefEqProofs := false) only [stp, if_true, if_false, Int.reduceEq, Int.reduceLT, Int.reduceLE, Int.reduceGT, Int.reduceGE, reduceCtorEq, Nat.reduceEqDiff, List.getElem?_cons_zero, List.getElem?_cons_succ, Option.map_some, st7, la7, st8, hcc]
  have kk : ∀ j, j < H.next → uk ≠ some j → j ≠ p → H8.get j = H.get j := fun j hj a b => by
    rw [k8 j (by omega), k7 j b, k6 j (by omega) a, old4 j hj b]
  have hM : ExtM M H H8 := ⟨by rw [gn8, gn7, gn6, gn4, hx13.gn], by omega, fun j hj hm => kk j hj (fun e => hm (q.us.own j e)) (fun e => hm (by rw [e]; exact q.mp))⟩
  have hG : MGrow M (fun j => M j ∨ j = H5.next ∨ k1 = some j) H := fun j hj => by
    rcases hj with e | e | e
    · exact .inl e
    · exact .inr (by omega)
    · have := f1 j e
      exact .inr (by omega)
  have k1l : ∀ j, k1 = some j → j < G3.next := fun j e => by rw [e] at v1; exact v1.lt
  have v8 : Vec H8 cv 2 ei k1 := v1.keep (by omega) (fun j e => by
      have h1 := f1 j e
      have h2 := k1l j e
      rw [k8 j (by omega), k7 j (by omega), k6 j (by omega) (fun e => by have := tkl _ e; omega), k4 j (by omega)]) fun e hs => by
        rw [z1 e] at hs ⊢
        exact hs.empty (by omega)
  have tv8 : Vec H8 (.slice H5.next 0 (ue.length + 1) none) 2 (ue ++ [[d, u]]) (some H5.next) := v6.keep (by omega) (fun j e => by
      cases e
      rw [k8 _ (by omega), k7 _ (by omega)]) (fun e => by cases e)
  refine ⟨hw8, fun j => M j ∨ j = H5.next ∨ k1 = some j, d, u, by trivial, hel.2, hg0.step hM hG, ⟨.slice H5.next 0 (ue.length + 1) none, cv, ov, ue ++ [[d, u]], ei, oe, some H5.next, k1, ok, ?_, fun j hj => ?_⟩, hM.minus fun j hj hn => kk j hj ((fun a => a.2.2.1) (hN j hn)) (hN j hn).2.1, hG⟩
  rotate_left
  · obtain ⟨a1, a2, a3, a4, a5⟩ := hN j hj
    have hj' := q.mb j a1
    have c1 : k1 ≠ some j := fun e => by have := f1 j e; omega
    have c2 : some H5.next ≠ some j := fun e => by cases e; omega
    exact ⟨.inl a1, a2, by first | exact c1 | exact c2, by first | exact c1 | exact c2, a5⟩
  have hfs : StZ (fun j => M j ∨ j = H5.next ∨ k1 = some j) H8 cv ei gi k1 := ⟨v8, fun e F x => (by
      have hs := v8.sl
      rw [z1 e] at hs ⊢
      exact hs.empty x.next), fun j e => .inr (.inr e), All2.imp (fun a b r => r.step hM hG) hgi⟩
  have hts : StZ (fun j => M j ∨ j = H5.next ∨ k1 = some j) H8 (.slice H5.next 0 (ue.length + 1) none) (ue ++ [[d, u]]) (h.undo ++ [g]) (some H5.next) := ⟨tv8, (fun e => by cases e), fun j e => .inr (.inl (by cases e; rfl)), All2.append (All2.imp (fun a b r => r.step hM hG) q.us.grp) ⟨hg0.step hM hG, trivial⟩⟩
  have okl : ∀ j, ok = some j → j < H.next := fun j e => q.mb j (q.os.own j e)
  exact {
    lt := by omega
    mp := .inl q.mp
    mb := fun j hj => by
      rcases hj with e | e | e
      · have := q.mb j e; omega
      · omega
      · have := k1l j e; omega
    at' := by rw [k8 p (by omega)]; exact hp7
    rs := hfs
    us := hts
    os := q.os.step hM hG fun j e => ⟨kk j (okl j e) (fun e2 => (q.ur j e2).2 e) (q.kp j (.inr (.inr e))), .inl (q.os.own j e)⟩
    kp := fun j hj e => by
      subst e
      have a1 : ∀ i, k1 = some i → i ≠ j := fun i e2 e3 => by have := f1 i e2; omega
      have a2 : ∀ i, some H5.next = some i → i ≠ j := fun i e2 e3 => by cases e2; omega
      rcases hj with e | e | e
      · first | exact a1 _ e rfl | exact a2 _ e rfl
      · first | exact a1 _ e rfl | exact a2 _ e rfl
      · exact q.kp j (.inr (.inr e)) rfl
    ur := fun j e => by
      have a1 : ∀ i, k1 = some i → some H5.next ≠ some i := fun i e2 e3 => by cases e3; have := k1l _ e2; omega
      have a3 : ∀ i, k1 = some i → ok ≠ some i := fun i e2 e3 => by have := f1 _ e2; have := okl _ e3; omega
      have a4 : ∀ i, some H5.next = some i → ok ≠ some i := fun i e2 e3 => by cases e2; have := okl _ e3; omega
      first
      | exact ⟨a1 _ e, a3 _ e⟩
      | exact ⟨fun e2 => a1 _ e2 e, a4 _ e⟩
    ro := fun j e => by
      have a3 : ∀ i, k1 = some i → ok ≠ some i := fun i e2 e3 => by have := f1 _ e2; have := okl _ e3; omega
      have a4 : ∀ i, some H5.next = some i → ok ≠ some i := fun i e2 e3 => by cases e2; have := okl _ e3; omega
      first | exact a3 _ e | exact a4 _ e }
end Go.Proofs.YtkmaikggdbielaaGreatDoor.Fw

/- The maker's Insert. No condition. -/
namespace Go.Proofs.YtkmaikggdbielaaGreatDoor.Fw
open Go
set_option linter.unusedSimpArgs false
set_option linter.unusedVariables false

theorem flat_set {sz : Nat} (v : V) : ∀ {es : List (List V)} (_ : ∀ e ∈ es, e.length = sz) {k c : Nat} (hk : k < es.length), c < sz → es.flatten.set (k * sz + c) v = (es.set k (es[k].set c v)).flatten
  | [], h, k, c, hk, hc => by simp at hk
  | x :: es, h, 0, c, hk, hc => by
    have hx := h x (by simp)
    simp only [List.flatten_cons, Nat.zero_mul, Nat.zero_add, List.set_cons_zero, List.getElem_cons_zero]
    rw [List.set_append_left _ _ (by omega)]
  | x :: es, h, k + 1, c, hk, hc => by
    have hx := h x (by simp)
    have ih := flat_set v (es := es) (fun y hy => h y (List.mem_cons_of_mem _ hy)) (k := k) (c := c) (by simpa using hk) hc
    simp only [List.flatten_cons, List.set_cons_succ, List.getElem_cons_succ]
    rw [List.set_append_right _ _ (by rw [hx, Nat.add_mul]; omega), hx, ← ih]
    congr 2
    rw [Nat.add_mul]; omega
theorem Own.cell {H : Heap} {id sz : Nat} {es : List (List V)} (h : Own H id sz es) {k c : Nat} (hk : k < es.length) (hc : c < sz) {v : V} (hv : v.cells = [v]) (ho : v.one = true) :
    exec (.st 1) [.ptr id (0 + k * sz + c), v] H = some (.undef, H.set id (.row false sz (es.set k (es[k].set c v)).flatten)) ∧ Own (H.set id (.row false sz (es.set k (es[k].set c v)).flatten)) id sz (es.set k (es[k].set c v)) := by
  have hf := flatLen fun e he => (h.len e he).1
  have hm : (k + 1) * sz ≤ es.length * sz := Nat.mul_le_mul_right _ (by omega)
  rw [Nat.add_mul] at hm
  have h1 := st_cell (v := v) h.get (k := k * sz + c) (by omega) hv ho
  rw [Nat.zero_add, h1, flat_set v (fun e he => (h.len e he).1) hk hc]
  refine ⟨rfl, h.lt, set_get' _ _ _, fun y hy => ?_⟩
  rcases List.mem_or_eq_of_mem_set hy with hy | rfl
  · exact h.len y hy
  · obtain ⟨q1, q2⟩ := h.len es[k] (List.getElem_mem hk)
    refine ⟨by simpa using q1, List.all_eq_true.2 fun u hu => ?_⟩
    rcases List.mem_or_eq_of_mem_set hu with hu | rfl
    · exact List.all_eq_true.1 q2 u hu
    · exact ho

theorem Vec.some {H : Heap} {r : V} {sz : Nat} {es : List (List V)} {k : Option Nat} (h : Vec H r sz es k) (h0 : k = none → es = []) (hne : es ≠ []) : ∃ i, k = some i ∧ r = .slice i 0 es.length none ∧ Own H i sz es := by
  obtain ⟨_, ⟨_, e, _⟩ | ⟨_, _, _, _, e⟩ | ⟨id, e1, e2, e3⟩ | ⟨e, _⟩⟩ := h
  · exact absurd e hne
  · exact absurd (h0 e) hne
  · exact ⟨id, e3, e1, e2⟩
  · exact absurd e hne

/-- The last insert grows. -/
theorem insert_grow {H : Heap} (hw : WF H) {M N : Nat → Prop} {p : Nat} {m : MkC} {dv iv : V} {dcs : List (List V)} {dk ik rk : Option Nat} {ei : List (List V)} {el : List V} (h : MkP H M N p m dv iv dcs (ei ++ [el]) dk ik rk) {ci' : List OpC} {cl' : OpC} {r : Nat} (er : rk = some r)
    (ha2 : All2 (OpZ M H) ei ci') (hz : LastZ M H el cl' r) {lv : V} {ls : List Int} (hlv : SL H lv 1 (ls.map fun x => [V.int .i32 x])) (hne : ls ≠ []) (hb : cl'.rs.length + ls.length ≤ big) {i : Nat} (hiv0 : iv = .slice i 0 (ei.length + 1) none) :
    ∃ rv H1 H2 M', exec (.app 1 4) [.slice r 0 cl'.rs.length none, lv] H = some (rv, H1) ∧
      exec (.ld 1) [.ptr p (0 + 1)] H1 = some (iv, H1) ∧ exec (.st 1) [.ptr i (0 + ei.length * 5 + 2), rv] H1 = some (.undef, H2) ∧
      MkI H2 M' N p ⟨m.done, ci' ++ [⟨cl'.kind, cl'.n, cl'.rs ++ ls, cl'.ats, cl'.chs⟩], m.gone⟩ ∧ ExtM (fun j => M j ∧ ¬ N j) H H2 ∧ MGrow M M' H ∧ WF H2 := by
  unfold big at hb
  obtain ⟨i', hik, hiv, hio⟩ := h.ivec.some h.inn (by simp)
  rw [List.length_append] at hiv
  obtain rfl : i = i' := by
    rw [hiv0] at hiv
    simp only [V.slice.injEq] at hiv
    exact hiv.1
  have hrl := hz.own.lt
  have hrn : cl'.rs ≠ [] := hz.ne
  obtain ⟨s1, s2⟩ := hlv.src (by simpa using hne)
  rw [List.length_map] at s1 s2
  have hvr : Vec H (.slice r 0 cl'.rs.length none) 1 (cl'.rs.map fun x => [V.int .i32 x]) (some r) := ⟨hz.own.len, .inr (.inr (.inl ⟨r, by rw [List.length_map], hz.own, rfl⟩))⟩
  obtain ⟨H1, ha, hv1, ho1, hw1, hn1, hgn1, hk1⟩ := hvr.app (bytes := 4) (n := ls.length) (news := ls.map fun x => [V.int .i32 x]) hw (by decide) (by simp) (fun q => hne (List.length_eq_zero_iff.1 q)) s1 s2 hlv.1 (by rw [List.length_map]; omega) (by rw [List.length_map]; omega)
  rw [List.length_map] at ha hv1
  rw [← List.map_append] at hv1 ho1
  have hdl : ∀ j, dk = some j → j < H.next := fun j e => by have := h.dvec; rw [e] at this; exact this.lt
  have hil := hio.lt
  have hpl := h.lt
  have hri : r ≠ i := fun q => (h.mr r er).2.2 (by rw [hik, q])
  have hrp := (h.mr r er).1
  have hip : i ≠ p := (h.mi i hik).2
  have hp1 : H1.get p = some (.row false 3 [dv, iv, .int .i64 m.gone]) := by rw [hk1 p hpl (fun q => hrp (by cases q; rfl))]; exact h.at'
  have hat1 : At H1 p 0 [dv, iv, .int .i64 m.gone] := ⟨by omega, false, 3, _, hp1, by simp, fun j v hj => by rw [Nat.zero_add]; exact hj⟩
  have hio1 : Own H1 i 5 (ei ++ [el]) := ⟨by omega, by rw [hk1 i hil (fun q => hri (by cases q; rfl))]; exact hio.get, hio.len⟩
  obtain ⟨q1, q2⟩ := hio1.cell (k := ei.length) (c := 2) (by simp) (by decide) (v := .slice H.next 0 (cl'.rs.length + ls.length) none) rfl rfl
  have hset : (ei ++ [el]).set ei.length ((ei ++ [el])[ei.length].set 2 (.slice H.next 0 (cl'.rs.length + ls.length) none)) = ei ++ [el.set 2 (.slice H.next 0 (cl'.rs.length + ls.length) none)] := by simp
  rw [hset] at q1 q2
  refine ⟨_, H1, _, fun j => M j ∨ j = H.next, ha, hat1.ld (j := 1) rfl 1, q1, ?_, ?_, ?_, ?_⟩
  rotate_left
  · refine ExtM.minus ⟨by rw [Heap.set_gn, hgn1], by rw [Heap.set_next]; omega, fun j hj hm => ?_⟩ fun j hj hn => ?_
    · rw [Heap.set_get, if_neg (fun q => hm (by rw [q]; exact (h.mi i hik).1)), hk1 j hj (fun q => hm (by cases q; exact hz.mr))]
    · rw [Heap.set_get, if_neg (fun q => (h.nn j hn).2.2.2.1 (by rw [hik, q])), hk1 j hj (fun q => (h.nn j hn).2.2.2.2 (by rw [er]; exact q))]
  · intro j hj
    rcases hj with q | q
    · exact .inl q
    · exact .inr (by omega)
  · exact hw1.set hio1.get _
  have hM : ExtM M H (H1.set i (.row false 5 (ei ++ [el.set 2 (.slice H.next 0 (cl'.rs.length + ls.length) none)]).flatten)) := by
    refine ⟨by rw [Heap.set_gn, hgn1], by rw [Heap.set_next]; omega, fun j hj hm => ?_⟩
    rw [Heap.set_get, if_neg (fun q => hm (by rw [q]; exact (h.mi i hik).1)), hk1 j hj (fun q => hm (by cases q; exact hz.mr))]
  have hG : MGrow M (fun j => M j ∨ j = H.next) H := fun j hj => by
    rcases hj with q | q
    · exact .inl q
    · exact .inr (by omega)
  have hxx : ∀ j, j < H1.next → j ≠ i → (H1.set i (.row false 5 (ei ++ [el.set 2 (.slice H.next 0 (cl'.rs.length + ls.length) none)]).flatten)).get j = H1.get j := fun j hj hi => by rw [Heap.set_get, if_neg hi]
  have hn2 : (H1.set i (.row false 5 (ei ++ [el.set 2 (.slice H.next 0 (cl'.rs.length + ls.length) none)]).flatten)).next = H1.next := rfl
  generalize H1.set i (.row false 5 (ei ++ [el.set 2 (.slice H.next 0 (cl'.rs.length + ls.length) none)]).flatten) = H2 at *
  refine ⟨dv, iv, dcs, ei ++ [el.set 2 (.slice H.next 0 (cl'.rs.length + ls.length) none)], dk, ik, some H.next, by omega, .inl h.mp, fun j hj => ?_, ?_, ?_, ?_, fun j e => ⟨.inl (h.md j e).1, (h.md j e).2⟩, fun j e => ⟨.inl (h.mi j e).1, (h.mi j e).2⟩, h.di, ?_, ?_, ?_, h.dn, (fun e => by rw [hik] at e; cases e), fun j hn => by
    obtain ⟨a1, a2, a3, a4, a5⟩ := h.nn j hn
    have := h.mb j a1
    exact ⟨.inl a1, a2, a3, a4, fun e => by cases e; omega⟩⟩
  · rcases hj with q | q
    · have := h.mb j q; omega
    · omega
  · rw [hxx p (by omega) (Ne.symm hip)]; exact hp1
  · refine h.dvec.keep (by omega) (fun j e => ?_) (fun e s => ?_)
    · have := hdl j e
      rw [hxx j (by omega) (fun q => h.di j e (by rw [hik, q])), hk1 j this (fun q => (h.mr r er).2.1 (by cases q; exact e))]
    · rw [h.dn e] at s ⊢
      exact s.empty (by omega)
  · exact ⟨q2.len, .inr (.inr (.inl ⟨i, by rw [hiv]; simp, q2, hik⟩))⟩
  · intro j e
    cases e
    refine ⟨by omega, fun q => ?_, fun q => ?_⟩
    · have := hdl _ q; omega
    · rw [hik] at q; cases q; omega
  · exact All2.imp (fun a b q => q.step hM hG) h.done
  · refine .inr ⟨ei, _, ci', _, H.next, rfl, rfl, rfl, All2.imp (fun a b q => q.step hM hG) ha2, ?_⟩
    obtain ⟨sv, hel, hsv⟩ := hz.sh
    refine ⟨⟨sv, by rw [hel]; simp, hsv.step hM hG⟩, ⟨by omega, by rw [hxx _ (by omega) (by omega)]; exact ho1.get, ho1.len⟩, .inr rfl, ?_, by simp [hrn], hz.is⟩
    have ok := hz.ok
    exact ⟨by rw [List.length_append]; unfold big; omega, ok.al, ok.cl, ok.sa, ok.sc, ok.nlo, ok.nhi⟩

def insLast (ins : List OpC) (ls : List Int) (ats : List AttrA) : List OpC :=
  match ins.getLast? with
  | some cl => if listEq attrEq cl.ats ats then ins.dropLast ++ [⟨cl.kind, cl.n, cl.rs ++ ls, cl.ats, cl.chs⟩] else ins ++ [⟨2, 0, ls, ats, []⟩]
  | none => ins ++ [⟨2, 0, ls, ats, []⟩]
def MkC.insert (m : MkC) (ls : List Int) (ats : List AttrA) : MkC := if ls = [] then m else ⟨m.done, insLast m.ins ls ats, m.gone⟩

def insNew : ACode :=
 (.draw (.op ⟨some 51, none, .ex (.mov) [.s 0]⟩ (.op ⟨some 52, none, .ex (.mov) [.s 0]⟩ (.op ⟨some 53, none, .ex (.nilck) [.s 52]⟩ (.op ⟨some 54, none, .ex (.fa 1) [.s 53]⟩ (.op ⟨some 56, none, .ex (.mov) [.s 1]⟩ (.op ⟨some 58, none, .ex (.mov) [.s 2]⟩ (.fork (.op ⟨some 55, none, .ex (.ld 1) [.s 54]⟩ (.op ⟨some 57, none, .callf 51 [.s 56]⟩ (.op ⟨some 59, none, .callf 52 [.s 58]⟩ (.op ⟨some 60, none, .ex (.build [(.int .u8 0), (.int .i64 0), .nils, .nils, .nils] [(0, 1), (2, 1), (3, 1)]) [.k (.int .u8 2), .s 57, .s 59]⟩ (.op ⟨some 61, none, .ex (.bsl 5 1 [(.int .u8 0), (.int .i64 0), .nils, .nils, .nils] [(0, 5)]) [.s 60]⟩ (.op ⟨some 62, none, .ex (.app 5 88) [.s 55, .s 61]⟩ (.op ⟨some 63, none, .ex (.nilck) [.s 51]⟩ (.op ⟨some 64, none, .ex (.fa 1) [.s 63]⟩ (.op ⟨none, none, .ex (.st 1) [.s 64, .s 62]⟩ .done))))))))) (.op ⟨some 57, none, .callf 51 [.s 56]⟩ (.fork (.op ⟨some 55, none, .ex (.ld 1) [.s 54]⟩ (.op ⟨some 59, none, .callf 52 [.s 58]⟩ (.op ⟨some 60, none, .ex (.build [(.int .u8 0), (.int .i64 0), .nils, .nils, .nils] [(0, 1), (2, 1), (3, 1)]) [.k (.int .u8 2), .s 57, .s 59]⟩ (.op ⟨some 61, none, .ex (.bsl 5 1 [(.int .u8 0), (.int .i64 0), .nils, .nils, .nils] [(0, 5)]) [.s 60]⟩ (.op ⟨some 62, none, .ex (.app 5 88) [.s 55, .s 61]⟩ (.op ⟨some 63, none, .ex (.nilck) [.s 51]⟩ (.op ⟨some 64, none, .ex (.fa 1) [.s 63]⟩ (.op ⟨none, none, .ex (.st 1) [.s 64, .s 62]⟩ .done)))))))) (.op ⟨some 59, none, .callf 52 [.s 58]⟩ (.op ⟨some 55, none, .ex (.ld 1) [.s 54]⟩ (.op ⟨some 60, none, .ex (.build [(.int .u8 0), (.int .i64 0), .nils, .nils, .nils] [(0, 1), (2, 1), (3, 1)]) [.k (.int .u8 2), .s 57, .s 59]⟩ (.op ⟨some 61, none, .ex (.bsl 5 1 [(.int .u8 0), (.int .i64 0), .nils, .nils, .nils] [(0, 5)]) [.s 60]⟩ (.op ⟨some 62, none, .ex (.app 5 88) [.s 55, .s 61]⟩ (.op ⟨some 63, none, .ex (.nilck) [.s 51]⟩ (.op ⟨some 64, none, .ex (.fa 1) [.s 63]⟩ (.op ⟨none, none, .ex (.st 1) [.s 64, .s 62]⟩ .done))))))))))))))))))

def fn102' : AFn := ⟨65,
 (.seq
  (.seq
   (.region [⟨some 7, none, .ex (.mov) [.s 0]⟩,
     ⟨some 8, none, .ex (.eqnil 0 false) [.s 7, .k .nilp]⟩,
     ⟨some 9, none, .ex (.mov) [.s 8]⟩,
     ⟨some 10, some (9, false), .ex (.mov) [.s 1]⟩,
     ⟨some 11, some (9, false), .ex (.len) [.s 10]⟩,
     ⟨some 12, some (9, false), .ex (.ibin .eql) [.s 11, .k (.int .i64 0)]⟩,
     ⟨some 13, none, .ex (.pick) [.s 9, .k (.bool true), .s 12]⟩])
   (.cond (.s 13)
    .ret
    .skip))
  (.seq
   (.region [⟨some 14, none, .ex (.mov) [.s 0]⟩,
     ⟨some 15, none, .ex (.nilck) [.s 14]⟩,
     ⟨some 16, none, .ex (.fa 1) [.s 15]⟩,
     ⟨some 17, none, .ex (.ld 1) [.s 16]⟩,
     ⟨some 18, none, .ex (.len) [.s 17]⟩,
     ⟨some 19, none, .ex (.ibin .sub) [.s 18, .k (.int .i64 1)]⟩,
     ⟨some 6, none, .ex (.mov) [.s 19]⟩])
   (.seq
    (.seq
     (.region [⟨some 20, none, .ex (.mov) [.s 6]⟩,
       ⟨some 21, none, .ex (.ibin .geq) [.s 20, .k (.int .i64 0)]⟩,
       ⟨some 22, none, .ex (.mov) [.s 21]⟩,
       ⟨some 23, some (22, true), .ex (.mov) [.s 0]⟩,
       ⟨some 24, some (22, true), .ex (.nilck) [.s 23]⟩,
       ⟨some 25, some (22, true), .ex (.fa 1) [.s 24]⟩,
       ⟨some 26, some (22, true), .ex (.ld 1) [.s 25]⟩,
       ⟨some 27, some (22, true), .ex (.mov) [.s 6]⟩,
       ⟨some 28, some (22, true), .ex (.ia 5) [.s 26, .s 27]⟩,
       ⟨some 29, some (22, true), .ex (.fa 3) [.s 28]⟩,
       ⟨some 30, some (22, true), .ex (.ld 1) [.s 29]⟩,
       ⟨some 31, some (22, true), .ex (.mov) [.s 2]⟩,
       ⟨some 32, some (22, true), .callf 121 [.s 30, .s 31]⟩,
       ⟨some 33, none, .ex (.pick) [.s 22, .s 32, .k (.bool false)]⟩])
     (.cond (.s 33)
      (.seq
       (.draw (.op ⟨some 34, none, .ex (.mov) [.s 0]⟩ (.op ⟨some 35, none, .ex (.nilck) [.s 34]⟩ (.op ⟨some 36, none, .ex (.fa 1) [.s 35]⟩ (.op ⟨some 38, none, .ex (.mov) [.s 6]⟩ (.op ⟨some 39, none, .ex (.mov) [.s 0]⟩ (.op ⟨some 40, none, .ex (.nilck) [.s 39]⟩ (.op ⟨some 41, none, .ex (.fa 1) [.s 40]⟩ (.op ⟨some 42, none, .ex (.ld 1) [.s 41]⟩ (.op ⟨some 43, none, .ex (.mov) [.s 6]⟩ (.op ⟨some 44, none, .ex (.ia 5) [.s 42, .s 43]⟩ (.op ⟨some 45, none, .ex (.fa 2) [.s 44]⟩ (.op ⟨some 46, none, .ex (.ld 1) [.s 45]⟩ (.op ⟨some 47, none, .ex (.mov) [.s 1]⟩ (.fork (.op ⟨some 37, none, .ex (.ld 1) [.s 36]⟩ (.op ⟨some 48, none, .ex (.app 1 4) [.s 46, .s 47]⟩ (.op ⟨some 49, none, .ex (.ia 5) [.s 37, .s 38]⟩ (.op ⟨some 50, none, .ex (.fa 2) [.s 49]⟩ (.op ⟨none, none, .ex (.st 1) [.s 50, .s 48]⟩ .done))))) (.op ⟨some 48, none, .ex (.app 1 4) [.s 46, .s 47]⟩ (.op ⟨some 37, none, .ex (.ld 1) [.s 36]⟩ (.op ⟨some 49, none, .ex (.ia 5) [.s 37, .s 38]⟩ (.op ⟨some 50, none, .ex (.fa 2) [.s 49]⟩ (.op ⟨none, none, .ex (.st 1) [.s 50, .s 48]⟩ .done))))))))))))))))))))
       .ret)
      .skip))
    insNew))),
 []⟩
theorem c102' : compFn Go.Proofs.Tryz.prog 102 = some fn102' := c102

theorem x_buildI {rv sv : V} (hr : rv.cells = [rv]) (hs : sv.cells = [sv]) (H : Heap) : exec (.build [.int .u8 0, .int .i64 0, .nils, .nils, .nils] [(0, 1), (2, 1), (3, 1)]) [.int .u8 2, rv, sv] H = some (.agg [.int .u8 2, .int .i64 0, rv, sv, .nils], H) := by
  have hf : fillA [V.int .u8 0, .int .i64 0, .nils, .nils, .nils] [((0, 1), .int .u8 2), ((2, 1), rv), ((3, 1), sv)] = some [.int .u8 2, .int .i64 0, rv, sv, .nils] := by
    simp only [fillA, hr, hs]
    rfl
  show (fillA [V.int .u8 0, .int .i64 0, .nils, .nils, .nils] [((0, 1), .int .u8 2), ((2, 1), rv), ((3, 1), sv)]).map (fun cs => (V.agg cs, H)) = _
  rw [hf]
  rfl
theorem cloneR_calls {x : V} {H : Heap} {rs : List Int} (hx : SL H x 1 (rs.map fun r => [V.int .i32 r])) (hl : rs.length ≤ big) :
    SCalls PP 51 [x] H fun r H' => Ext H H' ∧ WF H' ∧ ∃ k, Vec H' r 1 (rs.map fun r => [V.int .i32 r]) k ∧ (∀ j, k = some j → H.next ≤ j) ∧ (rs.map (fun r => [V.int .i32 r]) ≠ [] → ∃ j, k = some j ∧ Own H' j 1 (rs.map fun r => [V.int .i32 r]) ∧ r = .slice j 0 (rs.map fun r => [V.int .i32 r]).length none) ∧ (k = none → rs.map (fun r => [V.int .i32 r]) = []) :=
  clone_gen (show compFn PP 51 = some (cloneFn 1 4) from c51) (by decide) (by decide) hx (by simpa using hl)
theorem attrsCopy_calls {x : V} {H : Heap} {ats : List AttrA} (hx : SL H x 5 (ats.map AttrA.cells)) (hl : ats.length ≤ big) :
    SCalls PP 52 [x] H fun r H' => Ext H H' ∧ WF H' ∧ ∃ k, Vec H' r 5 (ats.map AttrA.cells) k ∧ (∀ j, k = some j → H.next ≤ j) ∧ (k = none → ats = []) := by
  refine SCalls.go c52 (by simp [fn52]) fun hw => ?_
  simp (maxSteps := 1000000) (implicitDefEqProofs := false) only [stp, if_true, if_false, Int.reduceEq, Int.reduceLT, Int.reduceLE, Int.reduceGT, Int.reduceGE, reduceCtorEq, Nat.reduceEqDiff, List.getElem?_cons_zero, List.getElem?_cons_succ, Option.map_some, fn52, enterFr, List.length, List.range, List.range.loop, List.zip, List.zipWith]
  refine SCalls.mono (clone_gen (show compFn PP 72 = some (cloneFn 5 48) from c72) (by decide) (by decide) hx (by simpa using hl)) ?_
  rintro r H' ⟨h1, h2, k, h3, h4, _, h5⟩
  simp (maxSteps := 1000000) (implicitDefEqProofs := false) only [stp, if_true, if_false, Int.reduceEq, Int.reduceLT, Int.reduceLE, Int.reduceGT, Int.reduceGE, reduceCtorEq, Nat.reduceEqDiff, List.getElem?_cons_zero, List.getElem?_cons_succ, Option.map_some, if_true]
  exact ⟨h1, h2, k, h3, h4, fun e => by simpa using h5 e⟩

set_option maxRecDepth 20000 in
set_option maxHeartbeats 4000000 in
theorem insert_calls {H : Heap} {M N : Nat → Prop} {p : Nat} {m : MkC} (h : MkI H M N p m) {lv sv : V} {ls : List Int} {ats : List AttrA} (hlv : SL H lv 1 (ls.map fun x => [V.int .i32 x])) (hsv : SL H sv 5 (ats.map AttrA.cells))
    (hll : ls.length ≤ big) (hal : ats.length ≤ big) (hsa : ∀ a ∈ ats, a.val.s.size ≤ big) (hin : m.ins.length + 1 ≤ big) (hrb : ∀ c ∈ m.ins, c.rs.length + ls.length ≤ big) :
    SCalls PP 102 [.ptr p 0, lv, sv] H fun _ H' => ∃ M', MkI H' M' N p (m.insert ls ats) ∧ ExtM (fun j => M j ∧ ¬ N j) H H' ∧ MGrow M M' H ∧ WF H' := by
  refine SCalls.go c102' (by simp [fn102']) fun hw => ?_
  obtain ⟨dv, iv, dcs, ics, dk, ik, rk, h⟩ := h
  have hnp : exec (.eqnil 0 false) [.ptr p 0, .nilp] H = some (.bool false, H) := rfl
  have hlen : ∀ G, exec .len [lv] G = some (.int .i64 ls.length, G) := fun G => by have := hlv.len (H' := G); rwa [List.length_map] at this
  have l1 := h.at3.ld (j := 1) (v := iv) rfl 1
  have hivl := h.ivec.len H
  by_cases hl0 : ls = []
  · subst hl0
    simp (maxSteps := 1000000) (implicitDefEqProofs := false) only [stp, if_true, if_false, Int.reduceEq, Int.reduceLT, Int.reduceLE, Int.reduceGT, Int.reduceGE, reduceCtorEq, Nat.reduceEqDiff, List.getElem?_cons_zero, List.getElem?_cons_succ, Option.map_some, fn102', enterFr, List.length, List.range, List.range.loop, List.zip, List.zipWith, hnp, hlen, List.length_nil, Int.natCast_zero]
    exact ⟨M, by simpa [MkC.insert] using ⟨dv, iv, dcs, ics, dk, ik, rk, h⟩, ExtM.refl _ H, MGrow.refl M H, hw⟩
  have hl0' : ¬ ((ls.length : Int) = 0) := fun q => hl0 (List.length_eq_zero_iff.1 (by omega))
  have hil : ics.length = m.ins.length := by
    rcases h.ins with ⟨rfl, e, _⟩ | ⟨ei, el', ci, cl, r, rfl, e, _, ha, _⟩
    · rw [e]; rfl
    · rw [e, List.length_append, List.length_append, ha.length]; rfl
  unfold big at hin
  have hw1 : IntKind.i64.wrap ((ics.length : Int) - 1) = (ics.length : Int) - 1 := wrap_i64 (by omega) (by omega)
  -- a new insert
  have tail : insLast m.ins ls ats = m.ins ++ [⟨2, 0, ls, ats, []⟩] → ∀ (G : Heap) (rj : Nat) (sv' : V) (sk : Option Nat), Ext H G → WF G → Own G rj 1 (ls.map fun x => [V.int .i32 x]) → H.next ≤ rj → Vec G sv' 5 (ats.map AttrA.cells) sk → (sk = none → ats = []) → (∀ j, sk = some j → H.next ≤ j ∧ j ≠ rj) →
      ∃ iv' H3 H4 H5, exec (.bsl 5 1 [.int .u8 0, .int .i64 0, .nils, .nils, .nils] [(0, 5)]) [.agg [.int .u8 2, .int .i64 0, .slice rj 0 ls.length none, sv', .nils]] G = some (.slice G.next 0 1 (some 1), H3) ∧
        exec (.app 5 88) [iv, .slice G.next 0 1 (some 1)] H3 = some (iv', H4) ∧ exec (.st 1) [.ptr p (0 + 1), iv'] H4 = some (.undef, H5) ∧ ∃ M', MkI H5 M' N p (m.insert ls ats) ∧ ExtM (fun j => M j ∧ ¬ N j) H H5 ∧ MGrow M M' H ∧ WF H5 := by
    intro hil2 G rj sv' sk hx hwG hr hrj hs hs0 hsj
    obtain ⟨iv', H3, H4, H5, M', e1, e2, e3, e4, e5⟩ := insert_new h hx hwG hr hrj hs hs0 hsj hl0 ⟨hll, hal, by simp, hsa, by simp, by simp, by simp⟩ (by unfold big; omega)
    refine ⟨iv', H3, H4, H5, e1, e2, e3, M', ?_, e5⟩
    rw [MkC.insert, if_neg hl0, hil2]
    exact e4
  have new12 : ∀ (G1 G2 : Heap) (rv sv' : V) (sk : Option Nat) (rj : Nat), insLast m.ins ls ats = m.ins ++ [⟨2, 0, ls, ats, []⟩] → Ext H G2 → WF G2 → Own G2 rj 1 (ls.map fun x => [V.int .i32 x]) → rv = .slice rj 0 ls.length none → H.next ≤ rj → Vec G2 sv' 5 (ats.map AttrA.cells) sk → (sk = none → ats = []) → (∀ j, sk = some j → H.next ≤ j ∧ j ≠ rj) →
      ∃ iv' H3 H4 H5, exec (.build [.int .u8 0, .int .i64 0, .nils, .nils, .nils] [(0, 1), (2, 1), (3, 1)]) [.int .u8 2, rv, sv'] G2 = some (.agg [.int .u8 2, .int .i64 0, rv, sv', .nils], G2) ∧ exec (.bsl 5 1 [.int .u8 0, .int .i64 0, .nils, .nils, .nils] [(0, 5)]) [.agg [.int .u8 2, .int .i64 0, rv, sv', .nils]] G2 = some (.slice G2.next 0 1 (some 1), H3) ∧
        exec (.app 5 88) [iv, .slice G2.next 0 1 (some 1)] H3 = some (iv', H4) ∧ exec (.st 1) [.ptr p (0 + 1), iv'] H4 = some (.undef, H5) ∧ ∃ M', MkI H5 M' N p (m.insert ls ats) ∧ ExtM (fun j => M j ∧ ¬ N j) H H5 ∧ MGrow M M' H ∧ WF H5 := by
    intro G1 G2 rv sv' sk rj hi hx hwG hr hrv hrj hs hs0 hsj
    subst hrv
    obtain ⟨iv', H3, H4, H5, e1, e2, e3, e4⟩ := tail hi G2 rj sv' sk hx hwG hr hrj hs hs0 hsj
    exact ⟨iv', H3, H4, H5, x_buildI rfl hs.one.2 _, e1, e2, e3, e4⟩
  have ldx : ∀ G, Ext H G → exec (.ld 1) [.ptr p (0 + 1)] G = some (iv, G) := fun G hx => (h.at3.ext hx).ld (j := 1) (v := iv) rfl 1
  have finish : insLast m.ins ls ats = m.ins ++ [⟨2, 0, ls, ats, []⟩] → ∀ fr : Fr, fr.get 0 = some (.ptr p 0) → fr.get 1 = some lv → fr.get 2 = some sv →
      wpC (SCalls PP) insNew fr H (kend [] fun _ H' => ∃ M', MkI H' M' N p (m.insert ls ats) ∧ ExtM (fun j => M j ∧ ¬ N j) H H' ∧ MGrow M M' H ∧ WF H') := by
    intro hi fr g0 g1 g2
    have crs : ∀ G, Ext H G → WF G → SCalls PP 51 [lv] G fun r H' => ∃ rj, Ext G H' ∧ WF H' ∧ Own H' rj 1 (ls.map fun x => [V.int .i32 x]) ∧ r = .slice rj 0 ls.length none ∧ G.next ≤ rj := fun G hx hwG =>
      SCalls.mono (cloneR_calls (hlv.ext hx) hll) fun r H' ⟨q1, q2, k, q3, q4, q5, _⟩ => by
        obtain ⟨j, e1, e2, e3⟩ := q5 (by simpa using hl0)
        exact ⟨j, q1, q2, e2, by rw [e3, List.length_map], q4 j e1⟩
    have cas : ∀ G, Ext H G → SCalls PP 52 [sv] G fun r H' => Ext G H' ∧ WF H' ∧ ∃ k, Vec H' r 5 (ats.map AttrA.cells) k ∧ (∀ j, k = some j → G.next ≤ j) ∧ (k = none → ats = []) := fun G hx => attrsCopy_calls (hsv.ext hx) hal
    have l0 := ldx H (Ext.refl H)
    simp (maxSteps := 1000000) (implicitDefEqProofs := false) only [stp, if_true, if_false, Int.reduceEq, Int.reduceLT, Int.reduceLE, Int.reduceGT, Int.reduceGE, reduceCtorEq, Nat.reduceEqDiff, List.getElem?_cons_zero, List.getElem?_cons_succ, Option.map_some, insNew, g0, g1, g2, l0]
    refine ⟨?_, ?_⟩
    · refine SCalls.mono (crs H (Ext.refl H) hw) ?_
      rintro rv G1 ⟨rj, hx1, hw1', hro, hrv, hrj⟩
      have hrlt := hro.lt
      simp (maxSteps := 1000000) (implicitDefEqProofs := false) only [stp, if_true, if_false, Int.reduceEq, Int.reduceLT, Int.reduceLE, Int.reduceGT, Int.reduceGE, reduceCtorEq, Nat.reduceEqDiff, List.getElem?_cons_zero, List.getElem?_cons_succ, Option.map_some, g0, g1, g2]
      refine SCalls.mono (cas G1 hx1) ?_
      rintro sv' G2 ⟨hx2, hw2, sk, hs, hsk, hs0⟩
      obtain ⟨iv', H3, H4, H5, e0, e1, e2, e3, e4⟩ := new12 G1 G2 rv sv' sk rj hi (hx1.trans hx2) hw2 (hro.ext hx2) hrv hrj hs hs0 (fun j e => by have := hsk j e; have := hx1.next; omega)
      simp (maxSteps := 1000000) (implicitDefEqProofs := false) only [stp, if_true, if_false, Int.reduceEq, Int.reduceLT, Int.reduceLE, Int.reduceGT, Int.reduceGE, reduceCtorEq, Nat.reduceEqDiff, List.getElem?_cons_zero, List.getElem?_cons_succ, Option.map_some, g0, e0, e1, e2, e3]
      exact e4
    · refine SCalls.mono (crs H (Ext.refl H) hw) ?_
      rintro rv G1 ⟨rj, hx1, hw1', hro, hrv, hrj⟩
      have hrlt := hro.lt
      have l1' := ldx G1 hx1
      simp (maxSteps := 1000000) (implicitDefEqProofs := false) only [stp, if_true, if_false, Int.reduceEq, Int.reduceLT, Int.reduceLE, Int.reduceGT, Int.reduceGE, reduceCtorEq, Nat.reduceEqDiff, List.getElem?_cons_zero, List.getElem?_cons_succ, Option.map_some, g0, g1, g2, l1']
      refine ⟨?_, ?_⟩
      all_goals
        refine SCalls.mono (cas G1 hx1) ?_
        rintro sv' G2 ⟨hx2, hw2, sk, hs, hsk, hs0⟩
        obtain ⟨iv', H3, H4, H5, e0, e1, e2, e3, e4⟩ := new12 G1 G2 rv sv' sk rj hi (hx1.trans hx2) hw2 (hro.ext hx2) hrv hrj hs hs0 (fun j e => by have := hsk j e; have := hx1.next; omega)
        have l2' := ldx G2 (hx1.trans hx2)
        simp (maxSteps := 1000000) (implicitDefEqProofs := false) only [stp, if_true, if_false, Int.reduceEq, Int.reduceLT, Int.reduceLE, Int.reduceGT, Int.reduceGE, reduceCtorEq, Nat.reduceEqDiff, List.getElem?_cons_zero, List.getElem?_cons_succ, Option.map_some, g0, l2', e0, e1, e2, e3]
        exact e4
  rcases hins : h.ins with ⟨hie, hne, _⟩ | ⟨ei, el, ci, cl, r, hie, hne, hrk, ha2, hz⟩
  · subst hie
    have hlt : ¬ ((([] : List (List V)).length : Int) - 1 ≥ 0) := by simp
    simp only [List.length_nil, Int.natCast_zero] at hlt hw1 hivl
    simp (maxSteps := 1000000) (implicitDefEqProofs := false) only [stp, if_true, if_false, Int.reduceEq, Int.reduceLT, Int.reduceLE, Int.reduceGT, Int.reduceGE, reduceCtorEq, Nat.reduceEqDiff, List.getElem?_cons_zero, List.getElem?_cons_succ, Option.map_some, fn102', enterFr, List.length, List.range, List.range.loop, List.zip, List.zipWith, hnp, hlen, hl0', l1, hivl, hw1, hlt]
    refine finish (by rw [hne]; rfl) _ ?_ ?_ ?_ <;> rfl
  · obtain ⟨i, hik, hiv, hio⟩ := h.ivec.some h.inn (by rw [hie]; simp)
    have hicl : ics.length = ei.length + 1 := by rw [hie, List.length_append]; rfl
    have hw1' : IntKind.i64.wrap ((ics.length : Int) - 1) = ((ei.length : Nat) : Int) := by rw [hw1]; omega
    have hge : ((ei.length : Nat) : Int) ≥ 0 := by omega
    have hia := x_iax (H := H) (id := i) (n := ics.length) (i := ei.length) (sz := 5) (by omega)
    rw [← hiv] at hia
    have hat : At H i (0 + ei.length * 5) el := by
      have hs := h.ivec.sl
      rw [hie] at hs
      obtain ⟨_, ⟨e, _⟩ | ⟨id', off', cap', e1, e2, e3⟩⟩ := hs
      · rw [hiv] at e; cases e
      · rw [hiv] at e1
        simp only [V.slice.injEq] at e1
        obtain ⟨rfl, rfl, _, _⟩ := e1
        exact e3 ei.length el (by simp)
    obtain ⟨o, ho1, ho2, ho3⟩ := hz.sl
    have l3 := hat.ld (j := 3) (v := o.set) (by rw [ho1]; rfl) 1
    have l2 := hat.ld (j := 2) (v := o.runes) (by rw [ho1]; rfl) 1
    have hoa : o.ats = cl.ats := by rw [← ho2]; rfl
    simp (maxSteps := 1000000) (implicitDefEqProofs := false) only [stp, if_true, if_false, Int.reduceEq, Int.reduceLT, Int.reduceLE, Int.reduceGT, Int.reduceGE, reduceCtorEq, Nat.reduceEqDiff, List.getElem?_cons_zero, List.getElem?_cons_succ, Option.map_some, fn102', enterFr, List.length, List.range, List.range.loop, List.zip, List.zipWith, hnp, hlen, hl0', l1, hivl, hw1', hge, hia, l3]
    refine SCalls.mono (attrsSame_calls ho3.set hsv (by rw [hoa]; exact hz.ok.al)) ?_
    rintro r' H' ⟨rfl, rfl⟩
    rw [hoa]
    have hgl : m.ins.getLast? = some cl := by rw [hne]; simp
    cases heq : listEq attrEq cl.ats ats with
    | false =>
      simp (maxSteps := 1000000) (implicitDefEqProofs := false) only [stp, if_true, if_false, Int.reduceEq, Int.reduceLT, Int.reduceLE, Int.reduceGT, Int.reduceGE, reduceCtorEq, Nat.reduceEqDiff, List.getElem?_cons_zero, List.getElem?_cons_succ, Option.map_some, heq]
      refine finish (by rw [insLast, hgl]; simp [heq]) _ ?_ ?_ ?_ <;> rfl
    | true =>
      have hil2 : insLast m.ins ls ats = ci ++ [⟨cl.kind, cl.n, cl.rs ++ ls, cl.ats, cl.chs⟩] := by
        rw [insLast, hgl]
        simp only [heq, if_true]
        rw [hne, List.dropLast_concat]
      subst hie
      obtain ⟨rv, H1, H2, M', f1, f3, f4, f5⟩ := insert_grow hw h hrk ha2 hz hlv hl0 (hrb cl (by rw [hne]; simp)) (by rw [hiv, hicl])
      have hrun : o.runes = .slice r 0 cl.rs.length none := by
        obtain ⟨sv2, hs2, _⟩ := hz.sh
        rw [ho1] at hs2
        simp [OpA.cells] at hs2
        exact hs2.2.2.1
      rw [hrun] at l2
      have hia1 := x_iax (H := H1) (id := i) (n := (ei ++ [el]).length) (i := ei.length) (sz := 5) (by omega)
      rw [← hiv] at hia1
      simp (maxSteps := 1000000) (implicitDefEqProofs := false) only [stp, if_true, if_false, Int.reduceEq, Int.reduceLT, Int.reduceLE, Int.reduceGT, Int.reduceGE, reduceCtorEq, Nat.reduceEqDiff, List.getElem?_cons_zero, List.getElem?_cons_succ, Option.map_some, heq, l1, hia, l2, f1]
      refine ⟨?_, ?_⟩
      all_goals
        simp (maxSteps := 1000000) (implicitDefEqProofs := false) only [stp, if_true, if_false, Int.reduceEq, Int.reduceLT, Int.reduceLE, Int.reduceGT, Int.reduceGE, reduceCtorEq, Nat.reduceEqDiff, List.getElem?_cons_zero, List.getElem?_cons_succ, Option.map_some, f1, f3, hia1, f4]
        exact ⟨M', by rw [MkC.insert, if_neg hl0, hil2]; exact f5.1, f5.2⟩
end Go.Proofs.YtkmaikggdbielaaGreatDoor.Fw

/- The maker's gap and Retain. No condition. -/
namespace Go.Proofs.YtkmaikggdbielaaGreatDoor.Fw
open Go
set_option linter.unusedSimpArgs false
set_option linter.unusedVariables false

abbrev zo : List V := [.int .u8 0, .int .i64 0, .nils, .nils, .nils]
theorem wrap_bd (n : Int) : -9223372036854775808 ≤ IntKind.i64.wrap n ∧ IntKind.i64.wrap n ≤ 9223372036854775807 := by
  simp only [IntKind.wrap, IntKind.bits, IntKind.signed, Bool.true_and]
  split
  · rename_i e; simp at e; omega
  · rename_i e; simp at e; omega
/-- The gap's delete. -/
def delO (g : Int) : List OpC := if g > 0 then [⟨3, g, [], [], []⟩] else []
def delC (g : Int) : List (List V) := if g > 0 then [[.int .u8 3, .int .i64 g, .nils, .nils, .nils]] else []
theorem cloneO_calls {x : V} {H : Heap} {es : List (List V)} (hx : SL H x 5 es) (hl : es.length ≤ big) :
    SCalls PP 50 [x] H fun r H' => Ext H H' ∧ WF H' ∧ ∃ k, Vec H' r 5 es k ∧ (∀ j, k = some j → H.next ≤ j) ∧ (es ≠ [] → ∃ j, k = some j ∧ Own H' j 5 es ∧ r = .slice j 0 es.length none) ∧ (k = none → es = []) :=
  clone_gen (show compFn PP 50 = some (cloneFn 5 88) from c50) (by decide) (by decide) hx hl
theorem bsl1 {H : Heap} {e : List V} (he : e.length = 5) (ho : e.all V.one = true) : ∃ H', exec (.bsl 5 1 zo [(0, 5)]) [.agg e] H = some (.slice H.next 0 1 (some 1), H') ∧ Ext H H' ∧ (WF H → WF H') ∧ SL H' (.slice H.next 0 1 (some 1)) 5 [e] ∧ H'.next = H.next + 1 := by
  refine ⟨H.new (.row false 5 e), ?_, (Ext.refl H).new _, fun hw => hw.new _, ?_, rfl⟩
  · match e, he with
    | [a, b, c, d, f], _ =>
      have hf : fillA zo [((0, 5), .agg [a, b, c, d, f])] = some [a, b, c, d, f] := by
        simp only [fillA]
        rfl
      simp only [exec, List.length_cons, List.length_nil, if_true, List.zip_cons_cons, List.zip_nil_right, hf, Option.bind_some, ho]
  · have ow : Own (H.new (.row false 5 e)) H.next 5 [e] := ⟨Nat.lt_succ_self _, by rw [new_get]; simp, by simpa using ⟨he, by simpa using ho⟩⟩
    exact ow.sl (some 1)
theorem app1 {H : Heap} (hw : WF H) {r : V} {es : List (List V)} {k : Option Nat} (h : Vec H r 5 es k) {x : V} {e : List V} (hx : SL H x 5 [e]) (hl : es.length + 1 ≤ big) :
    ∃ H', exec (.app 5 88) [r, x] H = some (.slice H.next 0 (es.length + 1) none, H') ∧ Vec H' (.slice H.next 0 (es.length + 1) none) 5 (es ++ [e]) (some H.next) ∧ Own H' H.next 5 (es ++ [e]) ∧
      WF H' ∧ H'.next = H.next + 1 ∧ H'.gn = H.gn ∧ ∀ j, j < H.next → k ≠ some j → H'.get j = H.get j := by
  unfold big at hl
  obtain ⟨s1, s2⟩ := hx.src (by simp)
  exact h.app (bytes := 88) (n := 1) (news := [e]) hw (by decide) rfl (by decide) (by simpa using s1) (by simpa using s2) hx.1 (by omega) (by omega)
theorem x_buildD (k : Int) (kk : Int) (H : Heap) : exec (.build [.int .u8 0, .int .i64 0, .nils, .nils, .nils] [(0, 1), (1, 1)]) [.int .u8 kk, .int .i64 k] H = some (.agg [.int .u8 kk, .int .i64 k, .nils, .nils, .nils], H) := rfl

set_option maxRecDepth 20000 in
set_option maxHeartbeats 1000000 in
theorem gap_calls {H : Heap} {M N : Nat → Prop} {p : Nat} {m : MkC} {dv iv : V} {dcs ics : List (List V)} {dk ik rk : Option Nat} (h : MkP H M N p m dv iv dcs ics dk ik rk) (hl : ics.length + 1 ≤ big) :
    SCalls PP 108 [.ptr p 0] H fun r H' => Ext H H' ∧ WF H' ∧ ∃ k, Vec H' r 5 (ics ++ delC m.gone) k ∧ (∀ j, k = some j → H.next ≤ j) ∧ (k = none → ics ++ delC m.gone = []) := by
  refine SCalls.go c108 (by simp [fn108]) fun hw => ?_
  have l1 := h.at3.ld (j := 1) (v := iv) rfl 1
  simp (maxSteps := 1000000) (implicitDefEqProofs := false) only [stp, if_true, if_false, Int.reduceEq, Int.reduceLT, Int.reduceLE, Int.reduceGT, Int.reduceGE, reduceCtorEq, Nat.reduceEqDiff, List.getElem?_cons_zero, List.getElem?_cons_succ, Option.map_some, fn108, enterFr, List.length, List.range, List.range.loop, List.zip, List.zipWith, l1]
  refine SCalls.mono (cloneO_calls h.ivec.sl (by omega)) ?_
  rintro r G ⟨hx, hwG, k, hv, hk, _, h0⟩
  have l2 := (h.at3.ext hx).ld (j := 2) (v := .int .i64 m.gone) rfl 1
  by_cases hg : m.gone > 0
  · obtain ⟨G2, b1, b2, b3, b4, b5⟩ := bsl1 (H := G) (e := [.int .u8 3, .int .i64 m.gone, .nils, .nils, .nils]) rfl rfl
    obtain ⟨G3, a1, a2, a3, a4, a5, a6, a7⟩ := app1 (b3 hwG) (hv.ext b2) b4 hl
    simp (maxSteps := 1000000) (implicitDefEqProofs := false) only [stp, if_true, if_false, Int.reduceEq, Int.reduceLT, Int.reduceLE, Int.reduceGT, Int.reduceGE, reduceCtorEq, Nat.reduceEqDiff, List.getElem?_cons_zero, List.getElem?_cons_succ, Option.map_some, l2, hg, x_buildD, b1, a1]
    have hn := hx.next
    have hn2 := b2.next
    refine ⟨⟨by rw [a6, b2.gn, hx.gn], by omega, fun j hj => ?_⟩, a4, _, by rw [delC, if_pos hg]; exact a2, fun j e => by cases e; omega, fun e => by cases e⟩
    rw [a7 j (by omega) (fun q => by have := hk j q; omega), b2.get j (by omega), hx.get j hj]
  · simp (maxSteps := 1000000) (implicitDefEqProofs := false) only [stp, if_true, if_false, Int.reduceEq, Int.reduceLT, Int.reduceLE, Int.reduceGT, Int.reduceGE, reduceCtorEq, Nat.reduceEqDiff, List.getElem?_cons_zero, List.getElem?_cons_succ, Option.map_some, l2, hg]
    refine ⟨hx, hwG, k, by rw [delC, if_neg hg, List.append_nil]; exact hv, hk, fun e => by rw [delC, if_neg hg, List.append_nil]; exact h0 e⟩

/-- Stores into the maker. -/
theorem mk_st {H : Heap} {p : Nat} {a b c : V} (hg : H.get p = some (.row false 3 [a, b, c])) {k : Nat} (hk : k < 3) {v : V} (hv : v.cells = [v]) (ho : v.one = true) : exec (.st 1) [.ptr p (0 + k), v] H = some (.undef, H.set p (.row false 3 ([a, b, c].set k v))) := by
  rw [Nat.zero_add]
  exact st_cell hg (by simpa using hk) hv ho
theorem set_set (H : Heap) (p : Nat) (a b : Ob) : (H.set p a).set p b = H.set p b := by
  unfold Heap.set
  congr 1
  funext j
  by_cases h : j = p <;> simp [h]

theorem delO_z (M : Nat → Prop) (H : Heap) (g : Int) (hg : g ≤ 9223372036854775807) : All2 (OpZ M H) (delC g) (delO g) := by
  unfold delC delO
  split
  · exact ⟨⟨⟨3, g, .nils, .nils, .nils, [], [], []⟩, rfl, rfl, fun H' _ => ⟨⟨by simp, .inl ⟨rfl, rfl⟩⟩, ⟨by simp, .inl ⟨rfl, rfl⟩⟩, ⟨by simp, .inl ⟨rfl, rfl⟩⟩, by simp, by simp, by simp, by simp, by simp, by simp only; omega, hg⟩⟩, trivial⟩
  · trivial
theorem InsZ.len {M : Nat → Prop} {H : Heap} {ics : List (List V)} {ins : List OpC} {rk : Option Nat} (h : InsZ M H ics ins rk) : ics.length = ins.length := by
  rcases h with ⟨rfl, rfl, _⟩ | ⟨ei, el', ci, cl, r, rfl, rfl, _, ha, _⟩
  · rfl
  · rw [List.length_append, List.length_append, ha.length]; rfl
/-- The gap's inserts, once they no longer grow. -/
theorem InsZ.to {M M' : Nat → Prop} {H : Heap} {ics : List (List V)} {ins : List OpC} {rk : Option Nat} (h : InsZ M H ics ins rk) (hm : MGrow M M' H) (hr : ∀ j, rk = some j → ¬ M' j) : All2 (OpZ M' H) ics ins := by
  rcases h with ⟨rfl, rfl, _⟩ | ⟨ei, el, ci, cl, r, rfl, rfl, q, ha, hz⟩
  · trivial
  · exact All2.append (All2.imp (fun a b z => z.step (ExtM.refl M H) hm) ha) ⟨hz.to hm (hr r q), trivial⟩

/-- What was told ahead of the gap: all of it done. -/
theorem flush {H G : Heap} {M N : Nat → Prop} {p : Nat} {m : MkC} {dv iv : V} {dcs ics : List (List V)} {dk ik rk : Option Nat} (h : MkP H M N p m dv iv dcs ics dk ik rk) (hx : Ext H G) (hwG : WF G) {gv : V} {gcs : List (List V)} {gk : Option Nat} (hg : Vec G gv 5 gcs gk)
    (hgc : gcs = ics ++ delC m.gone) (hb : dcs.length + gcs.length ≤ big) (hgo : m.gone ≤ 9223372036854775807) :
    ∃ dv' dk' H1 H2 H3 H4 M', exec (.app 5 88) [dv, gv] G = some (dv', H1) ∧ exec (.st 1) [.ptr p (0 + 0), dv'] H1 = some (.undef, H2) ∧ exec (.st 1) [.ptr p (0 + 1), .nils] H2 = some (.undef, H3) ∧ exec (.st 1) [.ptr p (0 + 2), .int .i64 0] H3 = some (.undef, H4) ∧
      MkP H4 M' N p ⟨m.done ++ (m.ins ++ delO m.gone), [], 0⟩ dv' .nils (dcs ++ gcs) [] dk' none none ∧ ExtM (fun j => M j ∧ ¬ N j) H H4 ∧ MGrow M M' H ∧ WF H4 := by
  unfold big at hb
  have hpl := h.lt
  have hdl : ∀ j, dk = some j → j < H.next := fun j e => by have := h.dvec; rw [e] at this; exact this.lt
  have hrl' : ∀ j, rk = some j → j < H.next := fun j e => by
    rcases h.ins with ⟨_, _, q⟩ | ⟨_, _, _, _, r, _, _, q, _, hz⟩
    · rw [q] at e; cases e
    · rw [q] at e; cases e; exact hz.own.lt
  have hxn := hx.next
  -- the append
  have hap : ∃ dv' dk' H1, exec (.app 5 88) [dv, gv] G = some (dv', H1) ∧ Vec H1 dv' 5 (dcs ++ gcs) dk' ∧ WF H1 ∧ G.next ≤ H1.next ∧ H1.gn = G.gn ∧ (∀ j, j < G.next → dk ≠ some j → H1.get j = G.get j) ∧ (dk' = dk ∧ H1 = G ∨ dk' = some G.next ∧ G.next < H1.next) ∧ (dk' = none → dcs ++ gcs = []) := by
    by_cases hz : gcs = []
    · subst hz
      obtain ⟨s1, s2⟩ := hg.sl.src0
      exact ⟨dv, dk, G, x_app0 h.dvec.shape s1 s2 (by decide), by rw [List.append_nil]; exact h.dvec.ext hx, hwG, Nat.le_refl _, rfl, fun _ _ _ => rfl, .inl ⟨rfl, rfl⟩, fun e => by rw [List.append_nil]; exact h.dn e⟩
    · obtain ⟨s1, s2⟩ := hg.sl.src hz
      obtain ⟨H1, a1, a2, a3, a4, a5, a6, a7⟩ := (h.dvec.ext hx).app (bytes := 88) (n := gcs.length) (news := gcs) hwG (by decide) rfl (fun q => hz (List.length_eq_zero_iff.1 q)) s1 s2 hg.1 (by omega) (by omega)
      exact ⟨_, _, H1, a1, a2, a4, by omega, a6, a7, .inr ⟨rfl, by omega⟩, fun e => by cases e⟩
  obtain ⟨dv', dk', H1, a1, a2, a4, a5, a6, a7, a8, a9⟩ := hap
  have hp1 : H1.get p = some (.row false 3 [dv, iv, .int .i64 m.gone]) := by
    rw [a7 p (by omega) (fun e => (h.md p e).2 rfl), hx.get p hpl]; exact h.at'
  have e1 := mk_st (k := 0) hp1 (by decide) a2.one.2 a2.one.1
  have g2 : (H1.set p (.row false 3 ([dv, iv, .int .i64 m.gone].set 0 dv'))).get p = some (.row false 3 [dv', iv, .int .i64 m.gone]) := set_get' _ _ _
  have e2 := mk_st (k := 1) g2 (by decide) (v := .nils) rfl rfl
  have g3 : ((H1.set p (.row false 3 ([dv, iv, .int .i64 m.gone].set 0 dv'))).set p (.row false 3 ([dv', iv, .int .i64 m.gone].set 1 .nils))).get p = some (.row false 3 [dv', .nils, .int .i64 m.gone]) := set_get' _ _ _
  have e3 := mk_st (k := 2) g3 (by decide) (v := .int .i64 0) rfl rfl
  rw [set_set, set_set] at e3
  rw [set_set] at e2
  have hp4 : (H1.set p (.row false 3 ([dv', .nils, .int .i64 m.gone].set 2 (.int .i64 0)))).get p = some (.row false 3 [dv', .nils, .int .i64 0]) := set_get' _ _ _
  have hxx : ∀ j, j < G.next → dk ≠ some j → j ≠ p → (H1.set p (.row false 3 ([dv', .nils, .int .i64 m.gone].set 2 (.int .i64 0)))).get j = G.get j := fun j hj h1 h2 => by
    rw [Heap.set_get, if_neg h2, a7 j hj h1]
  have hn4 : (H1.set p (.row false 3 ([dv', .nils, .int .i64 m.gone].set 2 (.int .i64 0)))).next = H1.next := rfl
  have hM : ExtM M H (H1.set p (.row false 3 ([dv', .nils, .int .i64 m.gone].set 2 (.int .i64 0)))) := by
    refine ⟨by rw [Heap.set_gn, a6, hx.gn], by rw [Heap.set_next]; omega, fun j hj hm => ?_⟩
    rw [hxx j (by omega) (fun e => hm (h.md j e).1) (fun e => hm (by rw [e]; exact h.mp))]
    exact hx.get j hj
  have hG : MGrow M (fun j => (M j ∧ rk ≠ some j) ∨ (dk' = some j)) H := fun j hj => by
    rcases hj with ⟨q, _⟩ | q
    · exact .inl q
    · rcases a8 with ⟨e, _⟩ | ⟨e, _⟩
      · rw [e] at q; exact .inl (h.md j q).1
      · rw [e] at q; cases q; exact .inr (by omega)
  have hwf4 := a4.set hp1 (.row false 3 ([dv', .nils, .int .i64 m.gone].set 2 (.int .i64 0)))
  have hdk5 : ∀ j, dk' = some j → j ≠ p ∧ j < H1.next ∧ (H1.set p (.row false 3 ([dv', .nils, .int .i64 m.gone].set 2 (.int .i64 0)))).get j = H1.get j := fun j q => by
    have hjp : j ≠ p := by
      rcases a8 with ⟨e, _⟩ | ⟨e, _⟩
      · rw [e] at q; exact (h.md j q).2
      · rw [e] at q; cases q; omega
    exact ⟨hjp, by have := a2; rw [q] at this; exact this.lt, by rw [Heap.set_get, if_neg hjp]⟩
  refine ⟨dv', dk', H1, _, _, _, fun j => (M j ∧ rk ≠ some j) ∨ (dk' = some j), a1, e1, e2, e3, ?_, hM.minus fun j hj hn => by rw [hxx j (by omega) (h.nn j hn).2.2.1 (h.nn j hn).2.1]; exact hx.get j hj, hG, hwf4⟩
  generalize H1.set p (.row false 3 ([dv', .nils, .int .i64 m.gone].set 2 (.int .i64 0))) = H4 at *
  have hrd : ∀ j, rk = some j → dk' ≠ some j := fun j e q => by
    rcases a8 with ⟨e', _⟩ | ⟨e', _⟩
    · rw [e'] at q; exact (h.mr j e).2.1 q
    · rw [e'] at q; cases q; have := hrl' _ e; omega
  refine ⟨by omega, .inl ⟨h.mp, fun e => (h.mr p e).1 rfl⟩, fun j hj => ?_, hp4, ?_, Vec.nil _ _, fun j e => ⟨.inr e, (hdk5 j e).1⟩, fun j e => (by cases e), fun j _ q => (by cases q), fun j e => (by cases e), ?_, .inl ⟨rfl, rfl, rfl⟩, a9, fun _ => rfl, fun j hn => by
    obtain ⟨c1, c2, c3, c4, c5⟩ := h.nn j hn
    have := h.mb j c1
    refine ⟨.inl ⟨c1, c5⟩, c2, fun e => ?_, by simp, by simp⟩
    rcases a8 with ⟨e', _⟩ | ⟨e', _⟩
    · rw [e'] at e; exact c3 e
    · rw [e'] at e; cases e; omega⟩
  · rcases hj with ⟨q, _⟩ | q
    · have := h.mb j q; omega
    · have := (hdk5 j q).2.1; omega
  · refine a2.keep (by omega) (fun j e => (hdk5 j e).2.2) (fun e s => ?_)
    rw [a9 e] at s ⊢
    exact s.empty (by omega)
  · refine All2.append (All2.imp (fun a b q => q.step hM hG) h.done) ?_
    rw [hgc]
    refine All2.append ?_ (delO_z _ _ _ hgo)
    have hz := h.ins.to (M' := fun j => M j ∧ rk ≠ some j) (fun j hj => .inl hj.1) (fun j e q => q.2 e)
    refine All2.imp (fun a b q => q.step ⟨hM.gn, hM.next, fun j hj hm => ?_⟩ (fun j hj => ?_)) hz
    · by_cases hjr : rk = some j
      · rw [hxx j (by omega) (h.mr j hjr).2.1 (h.mr j hjr).1]
        exact hx.get j hj
      · exact hM.get j hj fun q => hm ⟨q, hjr⟩
    · rcases hj with q | q
      · exact .inl q
      · rcases a8 with ⟨e, _⟩ | ⟨e, _⟩
        · rw [e] at q; exact .inl ⟨(h.md j q).1, fun q2 => (h.mr j q2).2.1 q⟩
        · rw [e] at q; cases q; exact .inr (by omega)

def isRetain (c : OpC) (ps : List ChgA) : Bool := decide (c.kind = 1) && listEq chgEq c.chs ps
/-- A retain is told. -/
def retainDone (done : List OpC) (n : Int) (ps : List ChgA) : List OpC :=
  match done.getLast? with
  | some c => if isRetain c ps then done.dropLast ++ [⟨c.kind, IntKind.i64.wrap (c.n + n), c.rs, c.ats, c.chs⟩] else done ++ [⟨1, n, [], [], ps⟩]
  | none => done ++ [⟨1, n, [], [], ps⟩]
def MkC.retain (m : MkC) (n : Int) (ps : List ChgA) : MkC := if n < 1 then m else ⟨retainDone (m.done ++ (m.ins ++ delO m.gone)) n ps, [], 0⟩

/-- The last done op grows. -/
theorem grow_done {H : Heap} (hw : WF H) {M N : Nat → Prop} {p : Nat} {m : MkC} {dv iv : V} {dcs : List (List V)} {dk ik rk : Option Nat} {ei : List (List V)} {el : List V} (h : MkP H M N p m dv iv (ei ++ [el]) dcs dk ik rk) {cd : List OpC} {c : OpC} (hd : m.done = cd ++ [c]) (n : Int) :
    ∃ i, dv = .slice i 0 (ei.length + 1) none ∧ At H i (0 + ei.length * 5) el ∧ OpZ M H el c ∧ ∃ H1, exec (.st 1) [.ptr i (0 + ei.length * 5 + 1), .int .i64 (IntKind.i64.wrap n)] H = some (.undef, H1) ∧
      MkI H1 M N p ⟨cd ++ [⟨c.kind, IntKind.i64.wrap n, c.rs, c.ats, c.chs⟩], m.ins, m.gone⟩ ∧ ExtM (fun j => M j ∧ ¬ N j) H H1 ∧ WF H1 := by
  obtain ⟨i, hdk, hdv, hio⟩ := h.dvec.some h.dn (by simp)
  rw [List.length_append] at hdv
  have hat : At H i (0 + ei.length * 5) el := by
    have hs := hio.sl none
    obtain ⟨_, ⟨e, _⟩ | ⟨id', off', cap', e1, e2, e3⟩⟩ := hs
    · cases e
    · simp only [V.slice.injEq] at e1
      obtain ⟨rfl, rfl, _, _⟩ := e1
      exact e3 ei.length el (by simp)
  have hall : ∀ {l : List (List V)} {k : List OpC} {x : List V} {y : OpC}, All2 (OpZ M H) (l ++ [x]) (k ++ [y]) → All2 (OpZ M H) l k ∧ OpZ M H x y := by
    intro l
    induction l with
    | nil =>
      intro k x y h
      cases k with
      | nil => exact ⟨trivial, h.1⟩
      | cons b k => cases k <;> exact h.2.elim
    | cons a l ih =>
      intro k x y h
      cases k with
      | nil => cases l <;> exact h.2.elim
      | cons b k =>
        obtain ⟨h1, h2⟩ := h
        obtain ⟨q1, q2⟩ := ih h2
        exact ⟨⟨h1, q1⟩, q2⟩
  have hdz := h.done
  rw [hd] at hdz
  obtain ⟨z1, z2⟩ := hall hdz
  obtain ⟨q1, q2⟩ := hio.cell (k := ei.length) (c := 1) (by simp) (by decide) (v := .int .i64 (IntKind.i64.wrap n)) rfl rfl
  have hset : (ei ++ [el]).set ei.length ((ei ++ [el])[ei.length].set 1 (.int .i64 (IntKind.i64.wrap n))) = ei ++ [el.set 1 (.int .i64 (IntKind.i64.wrap n))] := by simp
  rw [hset] at q1 q2
  have hip : i ≠ p := (h.md i hdk).2
  have hM : ExtM M H (H.set i (.row false 5 (ei ++ [el.set 1 (.int .i64 (IntKind.i64.wrap n))]).flatten)) :=
    ⟨rfl, Nat.le_refl _, fun j hj hm => by rw [Heap.set_get, if_neg (fun q => hm (by rw [q]; exact (h.md i hdk).1))]⟩
  refine ⟨i, hdv, hat, z2, _, q1, ?_, hM.minus fun j hj hn => by rw [Heap.set_get, if_neg (fun q => (h.nn j hn).2.2.1 (by rw [hdk, q]))], hw.set hio.get _⟩
  have hxx : ∀ j, j ≠ i → (H.set i (.row false 5 (ei ++ [el.set 1 (.int .i64 (IntKind.i64.wrap n))]).flatten)).get j = H.get j := fun j hj => by rw [Heap.set_get, if_neg hj]
  have hn1 : (H.set i (.row false 5 (ei ++ [el.set 1 (.int .i64 (IntKind.i64.wrap n))]).flatten)).next = H.next := rfl
  generalize H.set i (.row false 5 (ei ++ [el.set 1 (.int .i64 (IntKind.i64.wrap n))]).flatten) = H1 at *
  have hstep : ∀ a b, OpZ M H a b → OpZ M H1 a b := fun a b q => q.step hM (MGrow.refl M H)
  have hil' : ∀ j, ik = some j → j ≠ i := fun j e q => by rw [q] at e; exact h.di i hdk e
  refine ⟨dv, iv, ei ++ [el.set 1 (.int .i64 (IntKind.i64.wrap n))], dcs, dk, ik, rk, by rw [hn1]; exact h.lt, h.mp, fun j hj => by rw [hn1]; exact h.mb j hj, by rw [hxx p (Ne.symm hip)]; exact h.at', ?_, ?_, h.md, h.mi, h.di, h.mr, ?_, ?_, fun e => (by rw [hdk] at e; cases e), h.inn, h.nn⟩
  · exact ⟨q2.len, .inr (.inr (.inl ⟨i, by rw [hdv]; simp, q2, hdk⟩))⟩
  · refine h.ivec.keep (by omega) (fun j e => hxx j (hil' j e)) (fun e s => ?_)
    rw [h.inn e] at s ⊢
    exact s.empty (by omega)
  · refine All2.append (All2.imp hstep z1) ⟨?_, trivial⟩
    obtain ⟨o, ho1, ho2, ho3⟩ := hstep _ _ z2
    refine ⟨⟨o.kind, IntKind.i64.wrap n, o.runes, o.set, o.patch, o.rs, o.ats, o.chs⟩, by rw [ho1]; rfl, by rw [← ho2]; rfl, fun H' hx => ?_⟩
    have q := ho3 H' hx
    exact ⟨q.runes, q.set, q.patch, q.rl, q.al, q.cl, q.sa, q.sc, (wrap_bd n).1, (wrap_bd n).2⟩
  · rcases h.ins with q | ⟨e1, e2, e3, e4, r, q1, q2, q3, q4, q5⟩
    · exact .inl q
    · exact .inr ⟨e1, e2, e3, e4, r, q1, q2, q3, All2.imp hstep q4, q5.step hM (MGrow.refl M H) (hxx r (fun q => (h.mr r q3).2.1 (by rw [hdk, q]))) q5.mr⟩
end Go.Proofs.YtkmaikggdbielaaGreatDoor.Fw

/- The maker's Retain. No condition. Parts printed. -/
namespace Go.Proofs.YtkmaikggdbielaaGreatDoor.Fw
open Go
set_option linter.unusedSimpArgs false
set_option linter.unusedVariables false

def retNew : ACode :=
 (.draw (.op ⟨some 72, none, .ex (.mov) [.s 0]⟩ (.op ⟨some 73, none, .ex (.mov) [.s 0]⟩ (.op ⟨some 74, none, .ex (.nilck) [.s 73]⟩ (.op ⟨some 75, none, .ex (.fa 0) [.s 74]⟩ (.op ⟨some 77, none, .ex (.mov) [.s 1]⟩ (.op ⟨some 78, none, .ex (.mov) [.s 2]⟩ (.fork (.op ⟨some 76, none, .ex (.ld 1) [.s 75]⟩ (.op ⟨some 79, none, .callf 53 [.s 78]⟩ (.op ⟨some 80, none, .ex (.build [(.int .u8 0), (.int .i64 0), .nils, .nils, .nils] [(0, 1), (1, 1), (4, 1)]) [.k (.int .u8 1), .s 77, .s 79]⟩ (.op ⟨some 81, none, .ex (.bsl 5 1 [(.int .u8 0), (.int .i64 0), .nils, .nils, .nils] [(0, 5)]) [.s 80]⟩ (.op ⟨some 82, none, .ex (.app 5 88) [.s 76, .s 81]⟩ (.op ⟨some 83, none, .ex (.nilck) [.s 72]⟩ (.op ⟨some 84, none, .ex (.fa 0) [.s 83]⟩ (.op ⟨none, none, .ex (.st 1) [.s 84, .s 82]⟩ .done)))))))) (.op ⟨some 79, none, .callf 53 [.s 78]⟩ (.op ⟨some 76, none, .ex (.ld 1) [.s 75]⟩ (.op ⟨some 80, none, .ex (.build [(.int .u8 0), (.int .i64 0), .nils, .nils, .nils] [(0, 1), (1, 1), (4, 1)]) [.k (.int .u8 1), .s 77, .s 79]⟩ (.op ⟨some 81, none, .ex (.bsl 5 1 [(.int .u8 0), (.int .i64 0), .nils, .nils, .nils] [(0, 5)]) [.s 80]⟩ (.op ⟨some 82, none, .ex (.app 5 88) [.s 76, .s 81]⟩ (.op ⟨some 83, none, .ex (.nilck) [.s 72]⟩ (.op ⟨some 84, none, .ex (.fa 0) [.s 83]⟩ (.op ⟨none, none, .ex (.st 1) [.s 84, .s 82]⟩ .done))))))))))))))))
def retTail : ACode :=
 (.seq
     (.region [⟨some 29, none, .ex (.mov) [.s 0]⟩,
       ⟨some 30, none, .ex (.nilck) [.s 29]⟩,
       ⟨some 31, none, .ex (.fa 0) [.s 30]⟩,
       ⟨some 32, none, .ex (.ld 1) [.s 31]⟩,
       ⟨some 33, none, .ex (.len) [.s 32]⟩,
       ⟨some 34, none, .ex (.ibin .sub) [.s 33, .k (.int .i64 1)]⟩,
       ⟨some 6, none, .ex (.mov) [.s 34]⟩])
     (.seq
      (.seq
       (.region [⟨some 35, none, .ex (.mov) [.s 6]⟩,
         ⟨some 36, none, .ex (.ibin .geq) [.s 35, .k (.int .i64 0)]⟩,
         ⟨some 37, none, .ex (.mov) [.s 36]⟩,
         ⟨some 38, some (37, true), .ex (.mov) [.s 0]⟩,
         ⟨some 39, some (37, true), .ex (.nilck) [.s 38]⟩,
         ⟨some 40, some (37, true), .ex (.fa 0) [.s 39]⟩,
         ⟨some 41, some (37, true), .ex (.ld 1) [.s 40]⟩,
         ⟨some 42, some (37, true), .ex (.mov) [.s 6]⟩,
         ⟨some 43, some (37, true), .ex (.ia 5) [.s 41, .s 42]⟩,
         ⟨some 44, some (37, true), .ex (.fa 0) [.s 43]⟩,
         ⟨some 45, some (37, true), .ex (.ld 1) [.s 44]⟩,
         ⟨some 46, some (37, true), .ex (.ibin .eql) [.s 45, .k (.int .u8 1)]⟩,
         ⟨some 47, none, .ex (.pick) [.s 37, .s 46, .k (.bool false)]⟩,
         ⟨some 48, none, .ex (.mov) [.s 47]⟩,
         ⟨some 49, some (48, true), .ex (.mov) [.s 0]⟩,
         ⟨some 50, some (48, true), .ex (.nilck) [.s 49]⟩,
         ⟨some 51, some (48, true), .ex (.fa 0) [.s 50]⟩,
         ⟨some 52, some (48, true), .ex (.ld 1) [.s 51]⟩,
         ⟨some 53, some (48, true), .ex (.mov) [.s 6]⟩,
         ⟨some 54, some (48, true), .ex (.ia 5) [.s 52, .s 53]⟩,
         ⟨some 55, some (48, true), .ex (.fa 4) [.s 54]⟩,
         ⟨some 56, some (48, true), .ex (.ld 1) [.s 55]⟩,
         ⟨some 57, some (48, true), .ex (.mov) [.s 2]⟩,
         ⟨some 58, some (48, true), .callf 120 [.s 56, .s 57]⟩,
         ⟨some 59, none, .ex (.pick) [.s 48, .s 58, .k (.bool false)]⟩])
       (.cond (.s 59)
        (.seq
         (.region [⟨some 60, none, .ex (.mov) [.s 0]⟩,
           ⟨some 61, none, .ex (.nilck) [.s 60]⟩,
           ⟨some 62, none, .ex (.fa 0) [.s 61]⟩,
           ⟨some 63, none, .ex (.ld 1) [.s 62]⟩,
           ⟨some 64, none, .ex (.mov) [.s 6]⟩,
           ⟨some 65, none, .ex (.ia 5) [.s 63, .s 64]⟩,
           ⟨some 66, none, .ex (.fa 1) [.s 65]⟩,
           ⟨some 67, none, .ex (.ld 1) [.s 66]⟩,
           ⟨some 68, none, .ex (.mov) [.s 1]⟩,
           ⟨some 69, none, .ex (.ibin .add) [.s 67, .s 68]⟩,
           ⟨some 70, none, .ex (.ia 5) [.s 63, .s 64]⟩,
           ⟨some 71, none, .ex (.fa 1) [.s 70]⟩,
           ⟨none, none, .ex (.st 1) [.s 71, .s 69]⟩])
         .ret)
        .skip))
      retNew))
def fn101' : AFn := ⟨85,
 (.seq
  (.seq
   (.region [⟨some 7, none, .ex (.mov) [.s 0]⟩,
     ⟨some 8, none, .ex (.eqnil 0 false) [.s 7, .k .nilp]⟩,
     ⟨some 9, none, .ex (.mov) [.s 8]⟩,
     ⟨some 10, some (9, false), .ex (.mov) [.s 1]⟩,
     ⟨some 11, some (9, false), .ex (.ibin .lss) [.s 10, .k (.int .i64 1)]⟩,
     ⟨some 12, none, .ex (.pick) [.s 9, .k (.bool true), .s 11]⟩])
   (.cond (.s 12)
    .ret
    .skip))
  (.seq
   (.draw (.op ⟨some 13, none, .ex (.mov) [.s 0]⟩ (.op ⟨some 14, none, .ex (.mov) [.s 0]⟩ (.op ⟨some 15, none, .ex (.nilck) [.s 14]⟩ (.op ⟨some 16, none, .ex (.fa 0) [.s 15]⟩ (.op ⟨some 18, none, .ex (.mov) [.s 0]⟩ (.fork (.op ⟨some 17, none, .ex (.ld 1) [.s 16]⟩ (.op ⟨some 19, none, .callf 108 [.s 18]⟩ (.op ⟨some 20, none, .ex (.app 5 88) [.s 17, .s 19]⟩ (.op ⟨some 21, none, .ex (.nilck) [.s 13]⟩ (.op ⟨some 22, none, .ex (.fa 0) [.s 21]⟩ (.op ⟨none, none, .ex (.st 1) [.s 22, .s 20]⟩ .done)))))) (.op ⟨some 19, none, .callf 108 [.s 18]⟩ (.op ⟨some 17, none, .ex (.ld 1) [.s 16]⟩ (.op ⟨some 20, none, .ex (.app 5 88) [.s 17, .s 19]⟩ (.op ⟨some 21, none, .ex (.nilck) [.s 13]⟩ (.op ⟨some 22, none, .ex (.fa 0) [.s 21]⟩ (.op ⟨none, none, .ex (.st 1) [.s 22, .s 20]⟩ .done)))))))))))))
   (.seq
    (.region [⟨some 23, none, .ex (.mov) [.s 0]⟩,
      ⟨some 24, none, .ex (.mov) [.s 0]⟩,
      ⟨some 25, none, .ex (.nilck) [.s 23]⟩,
      ⟨some 26, none, .ex (.fa 1) [.s 25]⟩,
      ⟨none, none, .ex (.st 1) [.s 26, .k .nils]⟩,
      ⟨some 27, none, .ex (.nilck) [.s 24]⟩,
      ⟨some 28, none, .ex (.fa 2) [.s 27]⟩,
      ⟨none, none, .ex (.st 1) [.s 28, .k (.int .i64 0)]⟩])
    retTail))),
 []⟩
theorem c101' : compFn Go.Proofs.Tryz.prog 101 = some fn101' := c101

theorem x_buildR {n : Int} {pv : V} (hp : pv.cells = [pv]) (H : Heap) : exec (.build [.int .u8 0, .int .i64 0, .nils, .nils, .nils] [(0, 1), (1, 1), (4, 1)]) [.int .u8 1, .int .i64 n, pv] H = some (.agg [.int .u8 1, .int .i64 n, .nils, .nils, pv], H) := by
  have hf : fillA [V.int .u8 0, .int .i64 0, .nils, .nils, .nils] [((0, 1), .int .u8 1), ((1, 1), .int .i64 n), ((4, 1), pv)] = some [.int .u8 1, .int .i64 n, .nils, .nils, pv] := by
    simp only [fillA, hp]
    rfl
  show (fillA [V.int .u8 0, .int .i64 0, .nils, .nils, .nils] [((0, 1), .int .u8 1), ((1, 1), .int .i64 n), ((4, 1), pv)]).map (fun cs => (V.agg cs, H)) = _
  rw [hf]
  rfl
/-- A new retain behind what is done. -/
theorem done_new {H G : Heap} {M N : Nat → Prop} {p : Nat} {m : MkC} {dv iv : V} {dcs ics : List (List V)} {dk ik rk : Option Nat} (h : MkP H M N p m dv iv dcs ics dk ik rk) (hi : m.ins = []) (hx : Ext H G) (hw : WF G) {pv : V} {ps : List ChgA} {pk : Option Nat} {n : Int}
    (hs : Vec G pv 6 (ps.map ChgA.cells) pk) (hs0 : pk = none → ps = []) (hsj : ∀ j, pk = some j → H.next ≤ j) (hok : OpC.Ok ⟨1, n, [], [], ps⟩) (hl : dcs.length + 1 ≤ big) :
    ∃ dv' H3 H4 H5 M', exec (.bsl 5 1 zo [(0, 5)]) [.agg [.int .u8 1, .int .i64 n, .nils, .nils, pv]] G = some (.slice G.next 0 1 (some 1), H3) ∧
      exec (.app 5 88) [dv, .slice G.next 0 1 (some 1)] H3 = some (dv', H4) ∧ exec (.st 1) [.ptr p (0 + 0), dv'] H4 = some (.undef, H5) ∧
      MkI H5 M' N p ⟨m.done ++ [⟨1, n, [], [], ps⟩], m.ins, m.gone⟩ ∧ ExtM (fun j => M j ∧ ¬ N j) H H5 ∧ MGrow M M' H ∧ WF H5 := by
  have hso := hs.one
  obtain ⟨H3, b1, b2, b3, b4, b5⟩ := bsl1 (H := G) (e := [.int .u8 1, .int .i64 n, .nils, .nils, pv]) rfl (by
    simp only [List.all_cons, List.all_nil, Bool.and_true, hso.1]
    rfl)
  obtain ⟨H4, a1, a2, a3, a4, a5, a6, a7⟩ := app1 (b3 hw) ((h.dvec.ext hx).ext b2) b4 hl
  have hxn := hx.next
  have hbn := b2.next
  have hpl := h.lt
  have hdl : ∀ j, dk = some j → j < H.next := fun j e => by have := h.dvec; rw [e] at this; exact this.lt
  have hil' : ∀ j, ik = some j → j < H.next := fun j e => by have := h.ivec; rw [e] at this; exact this.lt
  have hp4 : H4.get p = some (.row false 3 [dv, iv, .int .i64 m.gone]) := by
    rw [a7 p (by omega) (fun e => (h.md p e).2 rfl), b2.get p (by omega), hx.get p hpl]; exact h.at'
  have e1 := mk_st (k := 0) hp4 (by decide) (v := .slice H3.next 0 (dcs.length + 1) none) rfl rfl
  have hxx : ∀ j, j < G.next → dk ≠ some j → j ≠ p → (H4.set p (.row false 3 ([dv, iv, V.int .i64 m.gone].set 0 (.slice H3.next 0 (dcs.length + 1) none)))).get j = G.get j := fun j hj h1 h2 => by
    rw [Heap.set_get, if_neg h2, a7 j (by omega) h1, b2.get j hj]
  have hM : ExtM M H (H4.set p (.row false 3 ([dv, iv, V.int .i64 m.gone].set 0 (.slice H3.next 0 (dcs.length + 1) none)))) := by
    refine ⟨by rw [Heap.set_gn, a6, b2.gn, hx.gn], by rw [Heap.set_next]; omega, fun j hj hm => ?_⟩
    rw [hxx j (by omega) (fun e => hm (h.md j e).1) (fun e => hm (by rw [e]; exact h.mp))]
    exact hx.get j hj
  have hG : MGrow M (fun j => M j ∨ j = H3.next) H := fun j hj => by
    rcases hj with q | q
    · exact .inl q
    · exact .inr (by omega)
  refine ⟨_, H3, H4, _, fun j => M j ∨ j = H3.next, b1, a1, e1, ?_, hM.minus fun j hj hn => by rw [hxx j (by omega) (h.nn j hn).2.2.1 (h.nn j hn).2.1]; exact hx.get j hj, hG, a4.set hp4 _⟩
  have hp5 : (H4.set p (.row false 3 ([dv, iv, V.int .i64 m.gone].set 0 (.slice H3.next 0 (dcs.length + 1) none)))).get p = some (.row false 3 [.slice H3.next 0 (dcs.length + 1) none, iv, .int .i64 m.gone]) := set_get' _ _ _
  have hi5 : (H4.set p (.row false 3 ([dv, iv, V.int .i64 m.gone].set 0 (.slice H3.next 0 (dcs.length + 1) none)))).get H3.next = H4.get H3.next := by rw [Heap.set_get, if_neg (by omega)]
  have hn5 : (H4.set p (.row false 3 ([dv, iv, V.int .i64 m.gone].set 0 (.slice H3.next 0 (dcs.length + 1) none)))).next = H4.next := rfl
  generalize H4.set p (.row false 3 ([dv, iv, V.int .i64 m.gone].set 0 (.slice H3.next 0 (dcs.length + 1) none))) = H5 at *
  rcases h.ins with ⟨hie, _, hrk⟩ | ⟨_, _, _, _, _, _, q, _⟩
  rotate_left
  · rw [hi] at q; simp at q
  refine ⟨.slice H3.next 0 (dcs.length + 1) none, iv, dcs ++ [[.int .u8 1, .int .i64 n, .nils, .nils, pv]], ics, some H3.next, ik, none, by omega, .inl h.mp, fun j hj => ?_, hp5, ?_, ?_, fun j e => ?_, fun j e => ⟨.inl (h.mi j e).1, (h.mi j e).2⟩, fun j e q => ?_, fun j e => (by cases e), ?_, .inl ⟨hie, hi, rfl⟩, fun e => (by cases e), h.inn, fun j hn => by
    obtain ⟨c1, c2, c3, c4, c5⟩ := h.nn j hn
    have := h.mb j c1
    exact ⟨.inl c1, c2, fun e => by cases e; omega, c4, by simp⟩⟩
  · rcases hj with q | q
    · have := h.mb j q; omega
    · omega
  · refine a2.keep (by omega) (fun j e => ?_) (fun e => by cases e)
    cases e
    exact hi5
  · refine h.ivec.keep (by omega) (fun j e => ?_) (fun e s => ?_)
    · have := hil' j e
      rw [hxx j (by omega) (fun q => h.di j q e) (h.mi j e).2]
      exact hx.get j this
    · rw [h.inn e] at s ⊢
      exact s.empty (by omega)
  · cases e
    exact ⟨.inr rfl, by omega⟩
  · cases e
    have := hil' _ q
    omega
  · refine All2.append (All2.imp (fun a b q => q.step hM hG) h.done) ⟨⟨⟨1, n, .nils, .nils, pv, [], [], ps⟩, rfl, rfl, ?_⟩, trivial⟩
    have hfr : Fz (fun j => M j ∨ j = H3.next) H5 fun H' => SL H' pv 6 (ps.map ChgA.cells) := by
      refine hs.fz (fun e => by rw [hs0 e]; rfl) (by omega) fun j e => ?_
      have hjl : j < G.next := by rw [e] at hs; exact hs.lt
      have q1 := hsj j e
      refine ⟨?_, hxx j hjl (fun q => ?_) (by omega)⟩
      · rintro (q | q)
        · have := h.mb j q; omega
        · omega
      · have := hdl j q; omega
    exact fun H' hx => ⟨⟨by simp, .inl ⟨rfl, rfl⟩⟩, ⟨by simp, .inl ⟨rfl, rfl⟩⟩, hfr H' hx, by simp, by simp, hok.cl, by simp, hok.sc, hok.nlo, hok.nhi⟩

theorem patchCopy_calls {x : V} {H : Heap} {ps : List ChgA} (hx : SL H x 6 (ps.map ChgA.cells)) (hl : ps.length ≤ big) :
    SCalls PP 53 [x] H fun r H' => Ext H H' ∧ WF H' ∧ ∃ k, Vec H' r 6 (ps.map ChgA.cells) k ∧ (∀ j, k = some j → H.next ≤ j) ∧ (k = none → ps = []) := by
  refine SCalls.go c53 (by simp [fn53]) fun hw => ?_
  simp (maxSteps := 1000000) (implicitDefEqProofs := false) only [stp, if_true, if_false, Int.reduceEq, Int.reduceLT, Int.reduceLE, Int.reduceGT, Int.reduceGE, reduceCtorEq, Nat.reduceEqDiff, List.getElem?_cons_zero, List.getElem?_cons_succ, Option.map_some, fn53, enterFr, List.length, List.range, List.range.loop, List.zip, List.zipWith]
  refine SCalls.mono (clone_gen (show compFn PP 73 = some (cloneFn 6 56) from c73) (by decide) (by decide) hx (by simpa using hl)) ?_
  rintro r H' ⟨h1, h2, k, h3, h4, _, h5⟩
  simp (maxSteps := 1000000) (implicitDefEqProofs := false) only [stp, if_true, if_false, Int.reduceEq, Int.reduceLT, Int.reduceLE, Int.reduceGT, Int.reduceGE, reduceCtorEq, Nat.reduceEqDiff, List.getElem?_cons_zero, List.getElem?_cons_succ, Option.map_some, if_true]
  exact ⟨h1, h2, k, h3, h4, fun e => by simpa using h5 e⟩

theorem MkI.trans {H H1 H2 : Heap} {M M1 M2 : Nat → Prop} (h : ExtM M H H1) (g : MGrow M M1 H) (h' : ExtM M1 H1 H2) (g' : MGrow M1 M2 H1) : ExtM M H H2 ∧ MGrow M M2 H := ⟨h.step g h', g.trans g' h.next⟩

set_option maxRecDepth 20000 in
set_option maxHeartbeats 4000000 in
theorem retTail_ok {H : Heap} (hw : WF H) {M N : Nat → Prop} {p : Nat} {m : MkC} {dv iv : V} {dcs ics : List (List V)} {dk ik rk : Option Nat} (h : MkP H M N p m dv iv dcs ics dk ik rk) (hi : m.ins = []) {pv : V} {ps : List ChgA} {n : Int}
    (hpv : SL H pv 6 (ps.map ChgA.cells)) (hok : OpC.Ok ⟨1, n, [], [], ps⟩) (hl : dcs.length + 1 ≤ big) {R : V → Heap → Prop}
    (hR : ∀ H' M', MkI H' M' N p ⟨retainDone m.done n ps, m.ins, m.gone⟩ → ExtM (fun j => M j ∧ ¬ N j) H H' → MGrow M M' H → WF H' → ∀ v, R v H') {fr : Fr} (g0 : fr.get 0 = some (.ptr p 0)) (g1 : fr.get 1 = some (.int .i64 n)) (g2 : fr.get 2 = some pv) :
    wpC (SCalls PP) retTail fr H (kend [] R) := by
  have hl' := hl
  unfold big at hl'
  have hcl := hok.cl
  simp only at hcl
  have l0 := h.at3.ld (j := 0) (v := dv) rfl 1
  have hdlen := h.dvec.len H
  have hdl := h.done.length
  have ldx : ∀ G, Ext H G → exec (.ld 1) [.ptr p (0 + 0)] G = some (dv, G) := fun G hx => (h.at3.ext hx).ld (j := 0) (v := dv) rfl 1
  have new : retainDone m.done n ps = m.done ++ [⟨1, n, [], [], ps⟩] → ∀ fr : Fr, fr.get 0 = some (.ptr p 0) → fr.get 1 = some (.int .i64 n) → fr.get 2 = some pv → wpC (SCalls PP) retNew fr H (kend [] R) := by
    intro hrd fr g0 g1 g2
    have l0 := ldx H (Ext.refl H)
    simp (maxSteps := 1000000) (implicitDefEqProofs := false) only [stp, if_true, if_false, Int.reduceEq, Int.reduceLT, Int.reduceLE, Int.reduceGT, Int.reduceGE, reduceCtorEq, Nat.reduceEqDiff, List.getElem?_cons_zero, List.getElem?_cons_succ, Option.map_some, retNew, g0, g1, g2, l0]
    refine ⟨?_, ?_⟩
    all_goals
      refine SCalls.mono (patchCopy_calls hpv hcl) ?_
      rintro r G ⟨hx, hwG, k, hv, hk, hk0⟩
      obtain ⟨dv', H3, H4, H5, M', e1, e2, e3, e4, e5, e6, e7⟩ := done_new h hi hx hwG hv hk0 hk hok hl
      have l0' := ldx G hx
      simp (maxSteps := 1000000) (implicitDefEqProofs := false) only [stp, if_true, if_false, Int.reduceEq, Int.reduceLT, Int.reduceLE, Int.reduceGT, Int.reduceGE, reduceCtorEq, Nat.reduceEqDiff, List.getElem?_cons_zero, List.getElem?_cons_succ, Option.map_some, g0, l0', x_buildR hv.one.2, e1, e2, e3]
      exact hR _ M' (by rw [hrd]; exact e4) e5 e6 e7 _
  have hw1 : IntKind.i64.wrap ((dcs.length : Int) - 1) = (dcs.length : Int) - 1 := wrap_i64 (by omega) (by omega)
  rcases List.eq_nil_or_concat dcs with hd0 | ⟨ei, el, hde⟩
  · subst hd0
    have hm0 : m.done = [] := List.eq_nil_of_length_eq_zero (by simpa using hdl.symm)
    have hlt : ¬ ((([] : List (List V)).length : Int) - 1 ≥ 0) := by simp
    simp only [List.length_nil, Int.natCast_zero] at hlt hw1 hdlen
    simp (maxSteps := 1000000) (implicitDefEqProofs := false) only [stp, if_true, if_false, Int.reduceEq, Int.reduceLT, Int.reduceLE, Int.reduceGT, Int.reduceGE, reduceCtorEq, Nat.reduceEqDiff, List.getElem?_cons_zero, List.getElem?_cons_succ, Option.map_some, retTail, g0, g1, g2, l0, hdlen, hw1, hlt]
    refine new (by rw [hm0]; rfl) _ ?_ ?_ ?_
    · exact g0
    · exact g1
    · exact g2
  · rw [List.concat_eq_append] at hde
    subst hde
    obtain ⟨cd, c, hcd⟩ : ∃ cd c, m.done = cd ++ [c] := by
      rcases List.eq_nil_or_concat m.done with q | ⟨cd, c, q⟩
      · rw [q] at hdl; simp at hdl
      · exact ⟨cd, c, by rw [q, List.concat_eq_append]⟩
    have hicl : (ei ++ [el]).length = ei.length + 1 := by rw [List.length_append]; rfl
    have hw1' : IntKind.i64.wrap (((ei ++ [el]).length : Int) - 1) = ((ei.length : Nat) : Int) := by rw [hw1]; omega
    have hge : ((ei.length : Nat) : Int) ≥ 0 := by omega
    obtain ⟨i, q1, q2, q3, H1, q4, q5, q6, q7⟩ := grow_done hw h hcd (c.n + n)
    obtain ⟨o, ho1, ho2, ho3⟩ := q3
    have ho3 := ho3.here
    have l1 := q2.ld (j := 0) (v := .int .u8 o.kind) (by rw [ho1]; rfl) 1
    have l4 := q2.ld (j := 4) (v := o.patch) (by rw [ho1]; rfl) 1
    have ln := q2.ld (j := 1) (v := .int .i64 o.n) (by rw [ho1]; rfl) 1
    have hia := x_iax (H := H) (id := i) (n := (ei ++ [el]).length) (i := ei.length) (sz := 5) (by omega)
    rw [hicl, ← q1] at hia
    have hok' : o.kind = c.kind := by rw [← ho2]; rfl
    have hon : o.n = c.n := by rw [← ho2]; rfl
    have hoc : o.chs = c.chs := by rw [← ho2]; rfl
    have hgl : m.done.getLast? = some c := by rw [hcd]; simp
    have nw : isRetain c ps = false → ∀ fr : Fr, fr.get 0 = some (.ptr p 0) → fr.get 1 = some (.int .i64 n) → fr.get 2 = some pv → wpC (SCalls PP) retNew fr H (kend [] R) := fun hr => new (by rw [retainDone, hgl]; simp [hr])
    by_cases hk : c.kind = 1
    · simp (maxSteps := 1000000) (implicitDefEqProofs := false) only [stp, if_true, if_false, Int.reduceEq, Int.reduceLT, Int.reduceLE, Int.reduceGT, Int.reduceGE, reduceCtorEq, Nat.reduceEqDiff, List.getElem?_cons_zero, List.getElem?_cons_succ, Option.map_some, retTail, g0, g1, g2, l0, hdlen, hw1', hge, hia, l1, hok', hk, l4]
      refine SCalls.mono (patchSame_calls ho3.patch hpv (by rw [hoc]; exact ho2 ▸ ho3.cl)) ?_
      rintro r H' ⟨rfl, rfl⟩
      rw [hoc]
      cases heq : listEq chgEq c.chs ps with
      | false =>
        simp (maxSteps := 1000000) (implicitDefEqProofs := false) only [stp, if_true, if_false, Int.reduceEq, Int.reduceLT, Int.reduceLE, Int.reduceGT, Int.reduceGE, reduceCtorEq, Nat.reduceEqDiff, List.getElem?_cons_zero, List.getElem?_cons_succ, Option.map_some, heq]
        refine nw (by simp [isRetain, heq]) _ ?_ ?_ ?_
        · exact g0
        · exact g1
        · exact g2
      | true =>
        have hrd : retainDone m.done n ps = cd ++ [⟨c.kind, IntKind.i64.wrap (c.n + n), c.rs, c.ats, c.chs⟩] := by
          rw [retainDone, hgl]
          simp only [isRetain, hk, heq, decide_true, Bool.and_self, if_true]
          rw [hcd, List.dropLast_concat]
        simp (maxSteps := 1000000) (implicitDefEqProofs := false) only [stp, if_true, if_false, Int.reduceEq, Int.reduceLT, Int.reduceLE, Int.reduceGT, Int.reduceGE, reduceCtorEq, Nat.reduceEqDiff, List.getElem?_cons_zero, List.getElem?_cons_succ, Option.map_some, heq, g0, g1, l0, hia, ln, hon, q4]
        exact hR _ M (by rw [hrd]; exact q5) q6 (MGrow.refl M _) q7 _
    · simp (maxSteps := 1000000) (implicitDefEqProofs := false) only [stp, if_true, if_false, Int.reduceEq, Int.reduceLT, Int.reduceLE, Int.reduceGT, Int.reduceGE, reduceCtorEq, Nat.reduceEqDiff, List.getElem?_cons_zero, List.getElem?_cons_succ, Option.map_some, retTail, g0, g1, g2, l0, hdlen, hw1', hge, hia, l1, hok', hk]
      refine nw (by simp [isRetain, hk]) _ ?_ ?_ ?_
      · exact g0
      · exact g1
      · exact g2

set_option maxRecDepth 20000 in
set_option maxHeartbeats 4000000 in
theorem retain_calls {H : Heap} {M N : Nat → Prop} {p : Nat} {m : MkC} (h : MkI H M N p m) {pv : V} {ps : List ChgA} {n : Int} (hpv : Fz M H fun H' => SL H' pv 6 (ps.map ChgA.cells)) (hok : OpC.Ok ⟨1, n, [], [], ps⟩) (hl : m.done.length + m.ins.length + 3 ≤ big) (hgo : m.gone ≤ 9223372036854775807) :
    SCalls PP 101 [.ptr p 0, .int .i64 n, pv] H fun _ H' => ∃ M', MkI H' M' N p (m.retain n ps) ∧ ExtM (fun j => M j ∧ ¬ N j) H H' ∧ MGrow M M' H ∧ WF H' := by
  refine SCalls.go c101' (by simp [fn101']) fun hw => ?_
  obtain ⟨dv, iv, dcs, ics, dk, ik, rk, h⟩ := h
  unfold big at hl
  have hnp : exec (.eqnil 0 false) [.ptr p 0, .nilp] H = some (.bool false, H) := rfl
  by_cases hn1 : n < 1
  · simp (maxSteps := 1000000) (implicitDefEqProofs := false) only [stp, if_true, if_false, Int.reduceEq, Int.reduceLT, Int.reduceLE, Int.reduceGT, Int.reduceGE, reduceCtorEq, Nat.reduceEqDiff, List.getElem?_cons_zero, List.getElem?_cons_succ, Option.map_some, fn101', enterFr, List.length, List.range, List.range.loop, List.zip, List.zipWith, hnp, hn1]
    exact ⟨M, by simpa [MkC.retain, hn1] using ⟨dv, iv, dcs, ics, dk, ik, rk, h⟩, ExtM.refl _ H, MGrow.refl M H, hw⟩
  have hil := h.ins.len
  have hdl := h.done.length
  have hdc : (delC m.gone).length ≤ 1 := by unfold delC; split <;> simp
  have l0 := h.at3.ld (j := 0) (v := dv) rfl 1
  simp (maxSteps := 1000000) (implicitDefEqProofs := false) only [stp, if_true, if_false, Int.reduceEq, Int.reduceLT, Int.reduceLE, Int.reduceGT, Int.reduceGE, reduceCtorEq, Nat.reduceEqDiff, List.getElem?_cons_zero, List.getElem?_cons_succ, Option.map_some, fn101', enterFr, List.length, List.range, List.range.loop, List.zip, List.zipWith, hnp, hn1, l0]
  refine ⟨?_, ?_⟩
  all_goals
    refine SCalls.mono (gap_calls h (by unfold big; omega)) ?_
    rintro r G ⟨hx, hwG, k, hv, hk, hk0⟩
    have l0' := (h.at3.ext hx).ld (j := 0) (v := dv) rfl 1
    obtain ⟨dv', dk', H1, H2, H3, H4, M', e1, e2, e3, e4, e5, e6, e7, e8⟩ := flush h hx hwG hv rfl (by rw [List.length_append]; unfold big; omega) hgo
    simp (maxSteps := 1000000) (implicitDefEqProofs := false) only [stp, if_true, if_false, Int.reduceEq, Int.reduceLT, Int.reduceLE, Int.reduceGT, Int.reduceGE, reduceCtorEq, Nat.reduceEqDiff, List.getElem?_cons_zero, List.getElem?_cons_succ, Option.map_some, l0', e1, e2, e3, e4]
    refine retTail_ok e8 e5 rfl (hpv _ e6.whole) hok (by rw [List.length_append, List.length_append]; unfold big; omega) (fun H' M2 q1 q2 q3 q4 v => ?_) rfl rfl rfl
    refine ⟨M2, ?_, e6.stepN e7 q2, e7.trans q3 e6.next, q4⟩
    rw [MkC.retain, if_neg hn1]
    exact q1
end Go.Proofs.YtkmaikggdbielaaGreatDoor.Fw

