/- The framework, part F: the operations on abstract values do what the model's do, third part: nil, places, loads, stores, new variables. No condition. -/
import Derived.Test.YtkmaikggdbielaaGreatDoorE
namespace Go.Proofs.YtkmaikggdbielaaGreatDoor.Fw
open Go
set_option linter.unusedSimpArgs false
set_option linter.unusedVariables false
section
variable {P : Program} {m : Nat → Pl} {H H' : Heap} {w : World}

theorem good_neg {t : TypeId} {x : Operand} {o : Oper} (e : o.op = .unOp .neg t x) {ρ : Operand → Value} {vs : List V} {r : V}
    (he : exec .neg vs H = some (r, H')) (hv : VRelL m H vs ([x].map ρ)) (hr : Rel m H w) : Good P m H w (execOp ρ o) r H' := by
  simp only [exec] at he
  split at he
  · rename_i k a
    cases he
    obtain ⟨z, hz, h⟩ := hv.one
    simp at hz
    rw [h.int_inv] at hz
    exact Good.pure hr (x := .int k (k.wrap (0 - a))) (by simp [execOp, e, hz, Op.unary, Op.intArith]) (.mk_int _ _)
  · cases he

theorem good_bnot {t : TypeId} {x : Operand} {o : Oper} (e : o.op = .unOp .not t x) {ρ : Operand → Value} {vs : List V} {r : V}
    (he : exec .bnot vs H = some (r, H')) (hv : VRelL m H vs ([x].map ρ)) (hr : Rel m H w) : Good P m H w (execOp ρ o) r H' := by
  simp only [exec] at he
  split at he
  · rename_i b
    cases he
    obtain ⟨z, hz, h⟩ := hv.one
    simp at hz
    rw [h.bool_inv] at hz
    exact Good.pure hr (x := .bool (!b)) (by simp [execOp, e, hz, Op.unary]) (.mk_bool _)
  · cases he

theorem good_fa {t : TypeId} {x : Operand} {f off : Nat} {o : Oper} (e : o.op = .fieldAddr t x f) (hf : fieldOff P t f = some off) {ρ : Operand → Value} {vs : List V} {r : V}
    (he : exec (.fa off) vs H = some (r, H')) (hv : VRelL m H vs ([x].map ρ)) (hr : Rel m H w) : Good P m H w (execOp ρ o) r H' := by
  simp only [exec] at he
  split at he
  · rename_i id o1
    cases he
    obtain ⟨z, hz, h⟩ := hv.one
    simp at hz
    obtain ⟨a, rfl, ha⟩ := h.ptr_inv
    unfold fieldOff at hf
    split at hf
    · rename_i fs ht
      split at hf
      · rename_i fd hfd
        split at hf
        · cases hf
        · rename_i n hn hsz
          cases hf
          have hne : ∀ k, sizeA P fd.type = some k → k ≠ 0 := by rintro k hk rfl; rw [hk] at hsz; simp at hsz; exact hn hsz.symm
          refine Good.pure hr (x := .pointer (some (a.add fd.offset))) ?_ (.mk_ptr ⟨ha.1, fun hh => ?_⟩)
          · simp only [execOp, e, hz, Instr.fieldAt, Sem.run_bind, run_under ht, Result.andThen_ok, hfd, Instr.sureAddr, Sem.run_pure, fieldPlace, run_sizeOf hsz, Sem.run_ite, hne _ hsz, if_false]
          · rw [ha.2 hh, add_none, Nat.add_assoc]
        · cases hf
      · cases hf
    · cases hf
  · cases he

theorem run_asIntOf (k : IntKind) (i : Int) : (asIntOf (.int k i)).run P w = .ok (k, i) w := rfl

theorem good_ia {t el : TypeId} {x i : Operand} {sz : Nat} {o : Oper} (e : o.op = .indexAddr t x i) (ht : P.underlying t = some (.slice el)) (hs : sizeA P el = some sz) {ρ : Operand → Value} {vs : List V} {r : V}
    (he : exec (.ia sz) vs H = some (r, H')) (hv : VRelL m H vs ([x, i].map ρ)) (hr : Rel m H w) : Good P m H w (execOp ρ o) r H' := by
  simp only [exec] at he
  split at he
  · rename_i id off len cap k i
    split at he
    · rename_i hi
      cases he
      obtain ⟨u, v, hz, h1, h2⟩ := hv.two
      simp only [List.map_cons, List.map_nil, List.cons.injEq, and_true] at hz
      obtain ⟨a, c, rfl, ha⟩ := h1.slice_inv
      rw [h2.int_inv] at hz
      obtain ⟨ha1, ha2, ha3, ha4⟩ := ha
      refine Good.pure hr (x := .pointer (some (a.add (i.toNat * sz)))) ?_ (.mk_ptr ⟨ha1, fun hh => ?_⟩)
      · simp only [execOp, e, hz.1, hz.2, Instr.indexAt, Sem.run_bind, run_asIntOf, Result.andThen_ok, run_under ht, Sem.run_pure, run_sizeOf hs, Sem.run_ite, hi, and_self, if_true]
      · rcases hh' : H.get id with _ | ob
        · exact absurd hh' hh
        · rw [(ha4 (by omega) ob hh').1, add_none, Nat.add_assoc]
    · cases he
  · cases he

theorem good_iar {t el : TypeId} {x i : Operand} {len sz : Nat} {o : Oper} (e : o.op = .indexAddr t x i) (ht : P.underlying t = some (.array len el)) (hs : sizeA P el = some sz) {ρ : Operand → Value} {vs : List V} {r : V}
    (he : exec (.iar len sz) vs H = some (r, H')) (hv : VRelL m H vs ([x, i].map ρ)) (hr : Rel m H w) : Good P m H w (execOp ρ o) r H' := by
  simp only [exec] at he
  split at he
  · rename_i id off k i
    split at he
    · rename_i hi
      cases he
      obtain ⟨u, v, hz, h1, h2⟩ := hv.two
      simp only [List.map_cons, List.map_nil, List.cons.injEq, and_true] at hz
      obtain ⟨a, rfl, ha⟩ := h1.ptr_inv
      rw [h2.int_inv] at hz
      refine Good.pure hr (x := .pointer (some (a.add (i.toNat * sz)))) ?_ (.mk_ptr ⟨ha.1, fun hh => ?_⟩)
      · simp only [execOp, e, hz.1, hz.2, Instr.indexAt, Sem.run_bind, run_asIntOf, Result.andThen_ok, run_under ht, Sem.run_pure, Instr.sureAddr, run_sizeOf hs, Sem.run_ite, hi, and_self, if_true]
      · rw [ha.2 hh, add_none, Nat.add_assoc]
    · cases he
  · cases he

theorem good_ld {t : TypeId} {x : Operand} {n : Nat} {o : Oper} (e : o.op = .load t x) (ha : isAggT P t = some false) {ρ : Operand → Value} {vs : List V} {r : V}
    (he : exec (.ld n) vs H = some (r, H')) (hv : VRelL m H vs ([x].map ρ)) (hr : Rel m H w) : Good P m H w (execOp ρ o) r H' := by
  simp only [exec] at he
  split at he
  · rename_i id off
    split at he
    · rename_i ro esz cells hg
      cases hc : cells[off]? with
      | none => rw [hc] at he; cases he
      | some v =>
        rw [hc] at he; simp at he; obtain ⟨rfl, rfl⟩ := he
        obtain ⟨z, hz, h⟩ := hv.one
        simp at hz
        obtain ⟨a, rfl, hp⟩ := h.ptr_inv
        obtain ⟨y, hy1, hy2⟩ := hr.read hg hc
        have hae := hp.2 (by rw [hg]; simp)
        refine Good.pure hr (x := y) ?_ hy2
        simp only [execOp, e, hz, Instr.loadAt, Instr.sureAddr, loadVar, Sem.run_bind, Sem.run_pure, Result.andThen_ok, run_isAgg ha, Bool.false_eq_true, if_false, run_load, hae, hy1]
    · cases he
  · cases he

theorem good_lda {t : TypeId} {x : Operand} {n : Nat} {o : Oper} (e : o.op = .load t x) (ha : isAggT P t = some true) (hn : sizeA P t = some n) {ρ : Operand → Value} {vs : List V} {r : V}
    (he : exec (.lda n) vs H = some (r, H')) (hv : VRelL m H vs ([x].map ρ)) (hr : Rel m H w) : Good P m H w (execOp ρ o) r H' := by
  simp only [exec] at he
  split at he
  · rename_i id off
    split at he
    · rename_i ro esz cells hg
      split at he
      · rename_i hl
        cases he
        obtain ⟨z, hz, h⟩ := hv.one
        simp at hz
        obtain ⟨a, rfl, hp⟩ := h.ptr_inv
        obtain ⟨xs, hxl, hxr, hrun⟩ := hr.readL hg off n hl
        have hae := hp.2 (by rw [hg]; simp)
        refine Good.pure hr (x := .agg xs.toArray) ?_ (.mk_agg (by simpa using hxr))
        simp only [execOp, e, hz, Instr.loadAt, Instr.sureAddr, loadVar, Sem.run_bind, Sem.run_pure, Result.andThen_ok, run_isAgg ha, if_true, run_sizeOf hn, hae, hrun P w rfl]
      · cases he
    · cases he
  · cases he

/-! ### Stores -/
theorem splice_length (cells : List V) (off : Nat) (vs : List V) (h : off + vs.length ≤ cells.length) : (splice cells off vs).length = cells.length := by
  simp [splice]; omega
theorem splice_get (cells : List V) (off : Nat) (vs : List V) (h : off + vs.length ≤ cells.length) (j : Nat) :
    (splice cells off vs)[j]? = if off ≤ j ∧ j < off + vs.length then vs[j - off]? else cells[j]? := by
  unfold splice
  rw [List.append_assoc]
  by_cases h1 : j < off
  · rw [List.getElem?_append_left (by simp; omega), if_neg (by omega), List.getElem?_take, if_pos h1]
  · rw [List.getElem?_append_right (by simp; omega)]
    have ht : (cells.take off).length = off := by simp; omega
    rw [ht]
    by_cases h2 : j < off + vs.length
    · rw [if_pos ⟨by omega, h2⟩, List.getElem?_append_left (by omega)]
    · rw [if_neg (by omega), List.getElem?_append_right (by omega), List.getElem?_drop]
      congr 1; omega

/-- A row of values written into an array of cells. -/
def putRow (c : Array Value) (off : Nat) : List Value → Array Value
  | [] => c
  | x :: xs => putRow (c.setIfInBounds off x) (off + 1) xs
theorem putRow_size : ∀ (xs : List Value) (c : Array Value) (off : Nat), (putRow c off xs).size = c.size
  | [], _, _ => rfl
  | x :: xs, c, off => by rw [putRow, putRow_size]; simp
theorem putRow_get : ∀ (xs : List Value) (c : Array Value) (off j : Nat), off + xs.length ≤ c.size →
    (putRow c off xs)[j]? = if off ≤ j ∧ j < off + xs.length then xs[j - off]? else c[j]?
  | [], c, off, j, _ => by simp [putRow]; intro h1 h2; omega
  | x :: xs, c, off, j, h => by
    simp only [List.length_cons] at h
    rw [putRow, putRow_get xs _ (off + 1) j (by simp; omega)]
    by_cases hj : j = off
    · subst hj
      rw [if_neg (by omega), if_pos ⟨by omega, by simp⟩]
      have : j < c.size := by omega
      simp [this]
    · by_cases h1 : off + 1 ≤ j ∧ j < off + 1 + xs.length
      · rw [if_pos h1, if_pos ⟨by omega, by simp; omega⟩]
        obtain ⟨d, rfl⟩ : ∃ d, j = off + 1 + d := ⟨j - (off + 1), by omega⟩
        rw [show off + 1 + d - (off + 1) = d by omega, show off + 1 + d - off = d + 1 by omega]; rfl
      · rw [if_neg h1, if_neg (by simp only [List.length_cons]; omega)]
        simp [Array.getElem?_setIfInBounds]; intro e; omega

def World.putCells (w : World) (b : Nat) (c : Array Value) (t : TypeId) (fz : Nat × Nat) : World := { w with heap := w.heap.setIfInBounds b (.cells c t fz) }

theorem run_storeCells_row : ∀ (xs : List Value) (w : World) (b off i : Nat) (c : Array Value) (t : TypeId) (fz : Nat × Nat), w.heap[b]? = some (.cells c t fz) →
    off + i + xs.length ≤ c.size → (∀ j, fz.1 ≤ j → j < fz.2 → c.size ≤ j) → (∀ x ∈ xs, (∀ cs, x ≠ .agg cs) ∧ (∀ cs, x ≠ .tuple cs)) →
    (storeCells ⟨b, off, none⟩ xs i).run P w = .ok () (World.putCells w b (putRow c (off + i) xs) t fz)
  | [], w, b, off, i, c, t, fz, hb, _, _, _ => by
    simp only [storeCells, Sem.run_pure, putRow, World.putCells]
    have : w.heap.setIfInBounds b (.cells c t fz) = w.heap := by
      apply Array.ext_getElem?
      intro j
      rw [Array.getElem?_setIfInBounds]
      split
      · subst_vars; split
        · exact hb.symm
        · rename_i h; rw [Array.getElem?_eq_none (by omega)]
      · rfl
    rw [this]
  | x :: xs, w, b, off, i, c, t, fz, hb, hl, hf, hx => by
    have h1 := hx x (by simp)
    simp only [List.length_cons] at hl
    have hone : x.oneCell' = true := by
      cases x with
      | agg cs => exact absurd rfl (h1.1 cs)
      | tuple cs => exact absurd rfl (h1.2 cs)
      | _ => rfl
    have hlt : off + i < c.size := by omega
    have hcell : w.cell? ⟨b, off + i, none⟩ = some c[off + i] := by rw [cell_of_row w b _ c t fz hb]; simp [hlt]
    have hfz : w.frozen? ⟨b, off + i, none⟩ = false := by
      obtain ⟨lo, hi⟩ := fz
      simp only [World.frozen?, hb]
      by_cases hh : lo ≤ off + i ∧ off + i < hi
      · exact absurd (hf _ hh.1 hh.2) (by omega)
      · simp; omega
    have hset : w.setCell ⟨b, off + i, none⟩ x = World.putCells w b (c.setIfInBounds (off + i) x) t fz := by
      unfold World.setCell World.putCells
      congr 1
      apply Array.ext_getElem?
      intro j
      rw [Array.getElem?_modify, Array.getElem?_setIfInBounds]
      by_cases hj : b = j
      · subst hj
        have hlt := (Array.getElem?_eq_some_iff.1 hb).1
        rw [if_pos rfl, if_pos rfl, if_pos hlt, hb]; rfl
      · simp [hj]
    unfold storeCells
    rw [Sem.run_bind, add_none, run_store P w _ x _ hone, hcell]
    simp only [hfz, Bool.false_eq_true, if_false, Result.andThen_ok, hset]
    have hb' : (World.putCells w b (c.setIfInBounds (off + i) x) t fz).heap[b]? = some (.cells (c.setIfInBounds (off + i) x) t fz) := by
      have hlt := (Array.getElem?_eq_some_iff.1 hb).1
      simp [World.putCells, hlt]
    rw [run_storeCells_row xs _ b off (i + 1) _ t fz hb' (by simp; omega) (by simpa using hf) (fun y hy => hx y (by simp [hy]))]
    simp only [putRow, World.putCells, Array.setIfInBounds_setIfInBounds, Nat.add_assoc]

/-- Cells written into a row of the call's own. -/
theorem Rel.write (hr : Rel m H w) {id off : Nat} {vs : List V} {xs : List Value} (hv : VRelL m H vs xs) (hw : writeAt H id off vs = some H') :
    ∃ w', (∀ P, (storeCells ⟨(m id).b, (m id).base + off, none⟩ xs).run P w = .ok () w') ∧ Rel m H' w' ∧ Ev m H w m H' w' := by
  unfold writeAt at hw
  split at hw
  · rename_i esz cells hg
    split at hw
    · rename_i hc
      cases hw
      obtain ⟨hl, hone⟩ := hc
      obtain ⟨c, t, fz, hb, hs, hcell, hf⟩ := hr.obs id _ hg
      have hcl : (m id).base + cells.length ≤ c.size ∨ cells.length = 0 := by
        rcases Nat.eq_zero_or_pos cells.length with h0 | h0
        · exact .inr h0
        · left
          obtain ⟨x, hx, _⟩ := hcell (cells.length - 1) (cells[cells.length - 1]'(by omega)) (by simp)
          have := (Array.getElem?_eq_some_iff.1 hx).1
          omega
      have hxl := hv.length
      rcases hcl with hcl | h0
      · have hrun : ∀ P, (storeCells ⟨(m id).b, (m id).base + off, none⟩ xs).run P w = .ok () (World.putCells w (m id).b (putRow c ((m id).base + off) xs) t fz) := fun P => by
          have := run_storeCells_row (P := P) xs w (m id).b ((m id).base + off) 0 c t fz hb (by omega) (hf rfl) (fun x hx => ?_)
          · simpa using this
          · obtain ⟨j, hj⟩ := List.getElem?_of_mem hx
            have hjl : j < vs.length := by have := (List.getElem?_eq_some_iff.1 hj).1; omega
            obtain ⟨y, hy, hvy⟩ := hv.get (i := j) (v := vs[j]) (by simp)
            rw [hj] at hy; cases hy
            exact hvy.one (List.all_eq_true.1 hone _ (by simp))
        refine ⟨_, hrun, ?_⟩
        have hlt := (Array.getElem?_eq_some_iff.1 hb).1
        have hkp : Keeps m H m (H.set id (.row false esz (splice cells off vs))) := Keeps.set id _ _ hg rfl
        refine hr.upd hg rfl rfl rfl rfl rfl (by simp [World.putCells]) (fun b hne => by simp [World.putCells, Array.getElem?_setIfInBounds, Ne.symm hne]) ?_
        refine ⟨putRow c ((m id).base + off) xs, t, fz, by simp [World.putCells, hlt], by rw [putRow_size]; exact hs, fun j v hj => ?_, fun _ => by rw [putRow_size]; exact hf rfl⟩
        rw [splice_get _ _ _ hl] at hj
        rw [putRow_get _ _ _ _ (by omega)]
        split at hj
        · rename_i hin
          rw [if_pos ⟨by omega, by omega⟩, show (m id).base + j - ((m id).base + off) = j - off by omega]
          obtain ⟨y, hy, hvy⟩ := hv.get hj
          exact ⟨y, hy, hvy.mono hkp _ _⟩
        · rename_i hin
          rw [if_neg (by omega)]
          obtain ⟨y, hy, hvy⟩ := hcell j v hj
          exact ⟨y, hy, hvy.mono hkp _ _⟩
      · have hv0 : vs = [] := List.eq_nil_of_length_eq_zero (by omega)
        subst hv0
        have hx0 := hv.nil
        subst hx0
        have hsp : splice cells off [] = cells := by simp [splice, List.take_append_drop]
        rw [hsp]
        have hkp : Keeps m H m (H.set id (.row false esz cells)) := Keeps.set id _ _ hg rfl
        refine ⟨w, fun P => by simp [storeCells], hr.upd hg rfl rfl rfl rfl rfl rfl (fun _ _ => rfl) ?_⟩
        exact (hr.obs id _ hg).mono hkp rfl rfl
    · cases hw
  · cases hw

theorem good_st {t : TypeId} {x y : Operand} {n : Nat} {o : Oper} (e : o.op = .store t x y) (hn : sizeA P t = some n) {ρ : Operand → Value} {vs : List V} {r : V}
    (he : exec (.st n) vs H = some (r, H')) (hv : VRelL m H vs ([x, y].map ρ)) (hr : Rel m H w) : Good P m H w (execOp ρ o) r H' := by
  simp only [exec] at he
  split at he
  · rename_i id off v
    split at he
    · rename_i hl
      cases hwr : writeAt H id off v.cells with
      | none => rw [hwr] at he; cases he
      | some H1 =>
        rw [hwr] at he; simp at he; obtain ⟨rfl, rfl⟩ := he
        obtain ⟨u, z, hz, h1, h2⟩ := hv.two
        simp only [List.map_cons, List.map_nil, List.cons.injEq, and_true] at hz
        obtain ⟨a, rfl, ha⟩ := h1.ptr_inv
        have hne : H.get id ≠ none := by unfold writeAt at hwr; intro hh; rw [hh] at hwr; cases hwr
        have hae := ha.2 hne
        have hc := h2.cells
        obtain ⟨w', hrun, hrel, hev⟩ := hr.write hc hwr
        refine ⟨m, w', undef, .inr ⟨?_, rfl⟩, .mk_undef, hrel, hev⟩
        have hsz : z.cells.size = n := by have := hc.length; rw [hl] at this; simpa using this
        simp only [execOp, e, hz.1, hz.2, Instr.storeAt, Instr.sureAddr, storeVar, Sem.run_bind, Sem.run_pure, Result.andThen_ok, run_sizeOf hn, hsz, ne_eq, not_true_eq_false, if_false, hae, hrun]
    · cases he
  · cases he

/-- A new row. -/
theorem Rel.newRow (hr : Rel m H w) (esz : Nat) (vs : List V) (xs extra : List Value) (t : TypeId) (hv : VRelL m H vs xs) :
    Rel (mput m H.next ⟨w.heap.size, 0, xs.length + extra.length⟩) (H.new (.row false esz vs)) (w.alloc (.cells (xs ++ extra).toArray t)) ∧
    Ev m H w (mput m H.next ⟨w.heap.size, 0, xs.length + extra.length⟩) (H.new (.row false esz vs)) (w.alloc (.cells (xs ++ extra).toArray t)) := by
  have hkp := Keeps.new (m := m) (H := H) hr.bound (.row false esz vs) ⟨w.heap.size, 0, xs.length + extra.length⟩
  refine hr.new _ _ 0 (xs.length + extra.length) ⟨(xs ++ extra).toArray, t, (0, 0), ?_, by simp [mput_same], fun j v hj => ?_, fun _ j h1 h2 => by simp only at h1 h2; omega⟩
  · rw [mput_same]; exact heap_alloc_new _ _
  · obtain ⟨y, hy, hvy⟩ := hv.get hj
    refine ⟨y, ?_, hvy.mono hkp _ _⟩
    rw [mput_same]
    have hjl := (List.getElem?_eq_some_iff.1 hy).1
    simp only [Nat.zero_add, List.getElem?_toArray]
    rw [List.getElem?_append_left hjl]; exact hy

theorem PtrOk.new (hr : Rel m H w) (p : Pl) (o : Ob) (hp : p.base = 0) : PtrOk (mput m H.next p) (H.new o) H.next 0 ⟨p.b, 0, none⟩ :=
  ⟨by simp, fun _ => by rw [mput_same, hp]⟩

theorem absL_rel : ∀ (xs : List Value) (vs : List V), absL xs = some vs → VRelL m H vs xs
  | [], vs, h => by simp [absL] at h; subst h; exact .mk_nil
  | x :: xs, vs, h => by
    simp only [absL] at h
    split at h
    · rename_i v us h1 h2
      cases h
      refine .mk_cons ?_ (absL_rel xs us h2)
      unfold abs1 at h1
      split at h1 <;> first | (cases h1; simp only [VRel]) | cases h1
    · cases h

theorem zero_cells {t : TypeId} {z : List V} (h : zeroCellsA P t = some z) : ∃ i v, P.info? t = some i ∧ i.zero = some v ∧ v.cells.size = i.size ∧ VRelL m H z v.cells.toList := by
  unfold zeroCellsA at h
  split at h
  · rename_i i hi
    split at h
    · rename_i v hv
      split at h
      · rename_i hs
        exact ⟨i, v, hi, hv, hs, absL_rel _ _ h⟩
      · cases h
    · cases h
  · cases h
theorem run_zeroValue {t : TypeId} {i : TypeInfo} {v : Value} (hi : P.info? t = some i) (hv : i.zero = some v) : (zeroValue t).run P w = .ok v w := by
  unfold zeroValue typeInfo
  simp [hi, hv]

theorem good_alloc {t : TypeId} {z : List V} {o : Oper} (e : o.op = .alloc t) (hz : zeroCellsA P t = some z) {ρ : Operand → Value} {vs : List V} {r : V}
    (he : exec (.alloc z) vs H = some (r, H')) (hv : VRelL m H vs (([] : List Operand).map ρ)) (hr : Rel m H w) : Good P m H w (execOp ρ o) r H' := by
  simp only [exec] at he
  split at he
  · split at he
    · cases he
      obtain ⟨i, v, hi, hv', hs, hrel⟩ := zero_cells (m := m) (H := H) hz
      obtain ⟨h1, h2⟩ := hr.newRow z.length z v.cells.toList [] t hrel
      refine ⟨_, _, .pointer (some ⟨w.heap.size, 0, none⟩), .inl ?_, .mk_ptr (PtrOk.new hr _ _ rfl), h1, h2⟩
      simp [execOp, e, Instr.alloc, run_zeroValue hi hv', newVar, newRow]
    · cases he
  · cases he

theorem good_box {t : TypeId} {x : Operand} {o : Oper} (e : o.op = .box t x) {ρ : Operand → Value} {vs : List V} {r : V}
    (he : exec .box vs H = some (r, H')) (hv : VRelL m H vs ([x].map ρ)) (hr : Rel m H w) : Good P m H w (execOp ρ o) r H' := by
  simp only [exec] at he
  split at he
  · split at he
    · cases he
      obtain ⟨z, hz, h⟩ := hv.one
      simp at hz
      obtain ⟨h1, h2⟩ := hr.newRow _ _ z.cells.toList [] t h.cells
      refine ⟨_, _, .pointer (some ⟨w.heap.size, 0, none⟩), .inl ?_, .mk_ptr (PtrOk.new hr _ _ rfl), h1, h2⟩
      simp [execOp, e, Instr.box, hz, newVar, newRow]
    · cases he
  · cases he
end
end Go.Proofs.YtkmaikggdbielaaGreatDoor.Fw
