/- The framework, part D: the operations on abstract values do what the model's do, first half. No condition. -/
import Derived.Test.YtkmaikggdbielaaGreatDoorC
import Derived.Laws.StructEq
namespace Go.Proofs.YtkmaikggdbielaaGreatDoor.Fw
open Go
set_option linter.unusedSimpArgs false
set_option linter.unusedVariables false

/-- The operation yields what stands for r, in a world for which H' stands. -/
def Good (P : Program) (m : Nat → Pl) (H : Heap) (w : World) (s : Sem Next) (r : V) (H' : Heap) : Prop :=
  ∃ m' w' x, (s.run P w = .ok (.value x) w' ∨ (s.run P w = .ok .skip w' ∧ x = undef)) ∧ VRel m' H' r x ∧ Rel m' H' w' ∧ Ev m H w m' H' w'

section
variable {P : Program} {m : Nat → Pl} {H H' : Heap} {w : World}

theorem Good.pure {s : Sem Next} {r : V} {x : Value} (hr : Rel m H w) (h : s.run P w = .ok (.value x) w) (hv : VRel m H r x) : Good P m H w s r H :=
  ⟨m, w, x, .inl h, hv, hr, Ev.refl hr⟩

theorem VRelL.one {v : V} {ys : List Value} (h : VRelL m H [v] ys) : ∃ x, ys = [x] ∧ VRel m H v x := by
  obtain ⟨x, xs, rfl, h1, h2⟩ := h.cons
  exact ⟨x, by rw [h2.nil], h1⟩
theorem VRelL.two {v u : V} {ys : List Value} (h : VRelL m H [v, u] ys) : ∃ x y, ys = [x, y] ∧ VRel m H v x ∧ VRel m H u y := by
  obtain ⟨x, xs, rfl, h1, h2⟩ := h.cons
  obtain ⟨y, rfl, h3⟩ := h2.one
  exact ⟨x, y, rfl, h1, h3⟩
theorem VRelL.three {v u t : V} {ys : List Value} (h : VRelL m H [v, u, t] ys) : ∃ x y z, ys = [x, y, z] ∧ VRel m H v x ∧ VRel m H u y ∧ VRel m H t z := by
  obtain ⟨x, xs, rfl, h1, h2⟩ := h.cons
  obtain ⟨y, z, rfl, h3, h4⟩ := h2.two
  exact ⟨x, y, z, rfl, h1, h3, h4⟩

theorem VRel.int_inv {k : IntKind} {n : Int} {x : Value} (h : VRel m H (.int k n) x) : x = .int k n := by simpa only [VRel] using h
theorem VRel.bool_inv {b : Bool} {x : Value} (h : VRel m H (.bool b) x) : x = .bool b := by simpa only [VRel] using h
theorem VRel.str_inv {s : ByteArray} {x : Value} (h : VRel m H (.str s) x) : x = .string s := by simpa only [VRel] using h
theorem VRel.float_inv {k : FloatKind} {n : Nat} {x : Value} (h : VRel m H (.float k n) x) : x = .float k n := by simpa only [VRel] using h
theorem VRel.ptr_inv {id off : Nat} {x : Value} (h : VRel m H (.ptr id off) x) : ∃ a, x = .pointer (some a) ∧ PtrOk m H id off a := by simpa only [VRel] using h
theorem VRel.slice_inv {id off len : Nat} {cap : Option Nat} {x : Value} (h : VRel m H (.slice id off len cap) x) : ∃ a c, x = .slice (some a) len c ∧ SliceOk m H id off len cap a c := by simpa only [VRel] using h
theorem VRel.nils_inv {x : Value} (h : VRel m H .nils x) : x = .slice none 0 0 := by simpa only [VRel] using h
theorem VRel.agg_inv {cs : List V} {x : Value} (h : VRel m H (.agg cs) x) : ∃ cs', x = .agg cs' ∧ VRelL m H cs cs'.toList := by simpa only [VRel] using h
theorem VRel.tup_inv {cs : List V} {x : Value} (h : VRel m H (.tup cs) x) : ∃ cs', x = .tuple cs' ∧ VRelL m H cs cs'.toList := by simpa only [VRel] using h
theorem VRel.map_inv {id : Nat} {x : Value} (h : VRel m H (.map id) x) : ∃ r, x = .map (some r) ∧ id < H.next ∧ (H.get id ≠ none → r = (m id).b) := by simpa only [VRel] using h
theorem VRel.mk_int (k : IntKind) (n : Int) : VRel m H (.int k n) (.int k n) := by simp only [VRel]
theorem VRel.mk_bool (b : Bool) : VRel m H (.bool b) (.bool b) := by simp only [VRel]
theorem VRel.mk_str (s : ByteArray) : VRel m H (.str s) (.string s) := by simp only [VRel]
theorem VRel.mk_undef : VRel m H .undef undef := by simp only [VRel, V.undef, undef]; exact ⟨#[], rfl, .mk_nil⟩
theorem VRel.mk_agg {cs : List V} {xs : Array Value} (h : VRelL m H cs xs.toList) : VRel m H (.agg cs) (.agg xs) := by simp only [VRel]; exact ⟨xs, rfl, h⟩
theorem VRel.mk_tup {cs : List V} {xs : Array Value} (h : VRelL m H cs xs.toList) : VRel m H (.tup cs) (.tuple xs) := by simp only [VRel]; exact ⟨xs, rfl, h⟩
theorem VRel.mk_ptr {id off : Nat} {a : Addr} (h : PtrOk m H id off a) : VRel m H (.ptr id off) (.pointer (some a)) := by simp only [VRel]; exact ⟨a, rfl, h⟩

theorem run_under {t : TypeId} {d : TypeDesc} (h : P.underlying t = some d) : (underlying t).run P w = .ok d w := by
  unfold underlying; simp [Sem.run_bind, h]
theorem run_sizeOf {t : TypeId} {n : Nat} (h : sizeA P t = some n) : (sizeOf t).run P w = .ok n w := by
  unfold sizeOf typeInfo
  unfold sizeA at h
  cases hi : P.info? t with
  | none => rw [hi] at h; cases h
  | some i => rw [hi] at h; simp at h; simp [hi, h]
theorem run_isAgg {t : TypeId} {b : Bool} (h : isAggT P t = some b) : (isAgg t).run P w = .ok b w := by
  unfold isAgg
  unfold isAggT at h
  cases hd : P.underlying t with
  | none => rw [hd] at h; cases h
  | some d =>
    rw [hd] at h; simp at h
    rw [Sem.run_bind, run_under hd]
    simp only [Result.andThen_ok]
    cases d <;> simp_all

/-! ### The operations that touch no memory -/
theorem good_mov {x y : Operand} {op : Op} (ho : op = .move x ∨ op = .assign x) {o : Oper} (e : o.op = op) {ρ : Operand → Value} {vs : List V} {r : V}
    (he : exec .mov vs H = some (r, H')) (hv : VRelL m H vs ([x].map ρ)) (hr : Rel m H w) : Good P m H w (execOp ρ o) r H' := by
  simp only [exec] at he
  split at he
  · cases he
    obtain ⟨z, hz, h⟩ := hv.one
    simp at hz
    refine Good.pure hr (x := ρ x) ?_ (hz ▸ h)
    rcases ho with ho | ho <;> simp [execOp, e, ho]
  · cases he

theorem good_pick {c a b : Operand} {o : Oper} (e : o.op = .pick c a b) {ρ : Operand → Value} {vs : List V} {r : V}
    (he : exec .pick vs H = some (r, H')) (hv : VRelL m H vs ([c, a, b].map ρ)) (hr : Rel m H w) : Good P m H w (execOp ρ o) r H' := by
  simp only [exec] at he
  split at he
  · rename_i t u v
    cases he
    obtain ⟨x, y, z, hz, h1, h2, h3⟩ := hv.three
    simp only [List.map_cons, List.map_nil, List.cons.injEq, and_true] at hz
    obtain ⟨e1, e2, e3⟩ := hz
    rw [h1.bool_inv] at e1
    refine Good.pure hr (x := if t then ρ a else ρ b) ?_ ?_
    · simp [execOp, e, e1, asBool]
    · cases t
      · simpa [e3] using h3
      · simpa [e2] using h2
  · cases he

theorem good_nilck {x : Operand} {o : Oper} (e : o.op = .nilCheck x) {ρ : Operand → Value} {vs : List V} {r : V}
    (he : exec .nilck vs H = some (r, H')) (hv : VRelL m H vs ([x].map ρ)) (hr : Rel m H w) : Good P m H w (execOp ρ o) r H' := by
  simp only [exec] at he
  split at he
  · cases he
    obtain ⟨z, hz, h⟩ := hv.one
    simp at hz
    obtain ⟨a, rfl, ha⟩ := h.ptr_inv
    exact Good.pure hr (x := .pointer (some a)) (by simp [execOp, e, hz]) h
  · cases he
    obtain ⟨z, hz, h⟩ := hv.one
    simp at hz
    have h0 := h
    simp only [VRel] at h
    obtain ⟨a', b', rfl, _⟩ := h
    exact Good.pure hr (x := ρ x) (by simp [execOp, e, hz]) (hz ▸ h0)
  · cases he

theorem run_eqGuard_int (op : BinOp) (t : TypeId) (x y : Operand) (a b : Value) (h : (∀ cs, a ≠ .agg cs) ∧ a ≠ .nilIface) : (eqGuard op t x y a b).run P w = .ok () w := by
  unfold eqGuard
  cases a <;> first | (exact absurd rfl h.2) | (exact absurd rfl (h.1 _)) | (cases op <;> cases b <;> simp)

theorem run_ibin {op : BinOp} {t : TypeId} {k k' : IntKind} {a b : Int} {r : V} (h : ibin op k a k' b = some r) :
    ∃ x, (binOp op t (.int k a) (.int k' b)).run P w = .ok x w ∧ VRel m H r x := by
  unfold ibin at h
  cases op with
  | shl =>
    simp only [intSh] at h; split at h
    · cases h
    · cases h; rename_i hb; exact ⟨_, by simp [binOp, Op.shift, hb]; rfl, by simp only [VRel]⟩
  | shr =>
    simp only [intSh] at h; split at h
    · cases h
    · cases h; rename_i hb; exact ⟨_, by simp [binOp, Op.shift, hb]; rfl, by simp only [VRel]⟩
  | quo =>
    simp only at h; split at h
    · rename_i hk; subst hk; simp only [intBin] at h; split at h
      · cases h
      · cases h; rename_i hb; exact ⟨_, by simp [binOp, Op.intDiv, hb]; rfl, by simp only [VRel]⟩
    · cases h
  | rem =>
    simp only at h; split at h
    · rename_i hk; subst hk; simp only [intBin] at h; split at h
      · cases h
      · cases h; rename_i hb; exact ⟨_, by simp [binOp, Op.intDiv, hb]; rfl, by simp only [VRel]⟩
    · cases h
  | add | sub | mul =>
    simp only at h; split at h
    · rename_i hk; subst hk; cases h; exact ⟨_, by simp [binOp, Op.intArith]; rfl, by simp only [VRel]⟩
    · cases h
  | and | or | xor | andNot =>
    simp only at h; split at h
    · rename_i hk; subst hk; cases h; exact ⟨_, by simp only [binOp, Op.intBits, ne_eq, not_true_eq_false, ite_false]; rfl, by simp only [VRel]⟩
    · cases h
  | eql | neq | lss | leq | gtr | geq =>
    simp only at h; split at h
    · rename_i hk; subst hk; cases h; exact ⟨_, by simp [binOp, Op.intCmp]; rfl, by simp only [VRel]⟩
    · cases h

theorem run_sbin {op : BinOp} {t : TypeId} {a b : ByteArray} {r : V} (h : strBin op a b = some r) :
    ∃ x, (binOp op t (.string a) (.string b)).run P w = .ok x w ∧ VRel m H r x := by
  cases op with
  | add =>
    simp only [strBin] at h
    split at h
    · cases h
      rename_i hb
      refine ⟨_, ?_, .mk_str _⟩
      have : ¬ (((a.size + b.size : Nat) : Int) > IntKind.i64.max) := by
        have : IntKind.i64.max = 9223372036854775807 := by decide
        rw [this]; omega
      simp only [binOp, Op.stringOp, this, if_false]
      rfl
    · cases h
  | eql | neq | lss | leq | gtr | geq =>
    simp only [strBin, Option.some.injEq] at h; subst h; exact ⟨_, by simp only [binOp, Op.stringOp]; rfl, by simp only [VRel]⟩
  | _ => simp [strBin] at h

theorem run_fbin {op : BinOp} {t : TypeId} {k : FloatKind} {a b : Nat} {r : V} (h : fltBin op k a b = some r) :
    ∃ x, (binOp op t (.float k a) (.float k b)).run P w = .ok x w ∧ VRel m H r x := by
  cases op with
  | eql | neq | lss | leq | gtr | geq =>
    simp only [fltBin, Option.some.injEq] at h; subst h; exact ⟨_, by simp [binOp, Op.floatCmp]; rfl, by simp only [VRel]⟩
  | _ => simp [fltBin] at h

theorem good_ibin {op : BinOp} {t yt : TypeId} {x y : Operand} {o : Oper} (e : o.op = .binOp op t x y yt) {ρ : Operand → Value} {vs : List V} {r : V}
    (he : exec (.ibin op) vs H = some (r, H')) (hv : VRelL m H vs ([x, y].map ρ)) (hr : Rel m H w) : Good P m H w (execOp ρ o) r H' := by
  simp only [exec] at he
  split at he
  · rename_i k a k' b
    cases hb : ibin op k a k' b with
    | none => rw [hb] at he; cases he
    | some r0 =>
      rw [hb] at he; simp at he; obtain ⟨rfl, rfl⟩ := he
      obtain ⟨u, v, hz, h1, h2⟩ := hv.two
      simp only [List.map_cons, List.map_nil, List.cons.injEq, and_true] at hz
      rw [h1.int_inv, h2.int_inv] at hz
      obtain ⟨z, hz1, hz2⟩ := run_ibin (P := P) (w := w) (t := t) (m := m) (H := H) hb
      refine Good.pure hr (x := z) ?_ hz2
      simp only [execOp, e, hz.1, hz.2, Sem.run_bind, run_eqGuard_int op t x y (.int k a) (.int k' b) ⟨by simp, by simp⟩, Result.andThen_ok, hz1, Sem.run_pure]
  · cases he

theorem good_sbin {op : BinOp} {t yt : TypeId} {x y : Operand} {o : Oper} (e : o.op = .binOp op t x y yt) {ρ : Operand → Value} {vs : List V} {r : V}
    (he : exec (.sbin op) vs H = some (r, H')) (hv : VRelL m H vs ([x, y].map ρ)) (hr : Rel m H w) : Good P m H w (execOp ρ o) r H' := by
  simp only [exec] at he
  split at he
  · rename_i a b
    cases hb : strBin op a b with
    | none => rw [hb] at he; cases he
    | some r0 =>
      rw [hb] at he; simp at he; obtain ⟨rfl, rfl⟩ := he
      obtain ⟨u, v, hz, h1, h2⟩ := hv.two
      simp only [List.map_cons, List.map_nil, List.cons.injEq, and_true] at hz
      rw [h1.str_inv, h2.str_inv] at hz
      obtain ⟨z, hz1, hz2⟩ := run_sbin (P := P) (w := w) (t := t) (m := m) (H := H) hb
      refine Good.pure hr (x := z) ?_ hz2
      simp only [execOp, e, hz.1, hz.2, Sem.run_bind, run_eqGuard_int op t x y (.string a) (.string b) ⟨by simp, by simp⟩, Result.andThen_ok, hz1, Sem.run_pure]
  · cases he

theorem good_fbin {op : BinOp} {t yt : TypeId} {x y : Operand} {o : Oper} (e : o.op = .binOp op t x y yt) {ρ : Operand → Value} {vs : List V} {r : V}
    (he : exec (.fbin op) vs H = some (r, H')) (hv : VRelL m H vs ([x, y].map ρ)) (hr : Rel m H w) : Good P m H w (execOp ρ o) r H' := by
  simp only [exec] at he
  split at he
  · rename_i k a k' b
    split at he
    · rename_i hk; subst hk
      cases hb : fltBin op k a b with
      | none => rw [hb] at he; cases he
      | some r0 =>
        rw [hb] at he; simp at he; obtain ⟨rfl, rfl⟩ := he
        obtain ⟨u, v, hz, h1, h2⟩ := hv.two
        simp only [List.map_cons, List.map_nil, List.cons.injEq, and_true] at hz
        rw [h1.float_inv, h2.float_inv] at hz
        obtain ⟨z, hz1, hz2⟩ := run_fbin (P := P) (w := w) (t := t) (m := m) (H := H) hb
        refine Good.pure hr (x := z) ?_ hz2
        simp only [execOp, e, hz.1, hz.2, Sem.run_bind, run_eqGuard_int op t x y (.float k a) (.float k b) ⟨by simp, by simp⟩, Result.andThen_ok, hz1, Sem.run_pure]
    · cases he
  · cases he

theorem good_bbin {n : Bool} {t yt : TypeId} {x y : Operand} {o : Oper} (e : o.op = .binOp (if n then .neq else .eql) t x y yt) (ht : P.underlying t = some .bool) {ρ : Operand → Value} {vs : List V} {r : V}
    (he : exec (.bbin n) vs H = some (r, H')) (hv : VRelL m H vs ([x, y].map ρ)) (hr : Rel m H w) : Good P m H w (execOp ρ o) r H' := by
  simp only [exec] at he
  split at he
  · rename_i a b
    simp at he; obtain ⟨rfl, rfl⟩ := he
    obtain ⟨u, v, hz, h1, h2⟩ := hv.two
    simp only [List.map_cons, List.map_nil, List.cons.injEq, and_true] at hz
    rw [h1.bool_inv, h2.bool_inv] at hz
    have heq : (Op.equal t (.bool a) (.bool b)).run P w = .ok (a == b) w := by
      exact run_equalIn_bool' w 9999 t a b ht
    refine Good.pure hr (x := .bool ((a == b) != n)) ?_ (by simp only [VRel])
    cases n <;> simp [execOp, e, hz.1, hz.2, Sem.run_bind, run_eqGuard_int _ t x y (.bool a) (.bool b) ⟨by simp, by simp⟩, binOp, heq]
  · cases he
end
end Go.Proofs.YtkmaikggdbielaaGreatDoor.Fw
