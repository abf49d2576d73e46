/- The framework, part M: the operations on abstract values do what the model's do, last part: bytes, iterators, maps. No condition. -/
import Derived.Test.YtkmaikggdbielaaGreatDoorL
namespace Go.Proofs.YtkmaikggdbielaaGreatDoor.Fw
open Go
set_option linter.unusedSimpArgs false
set_option linter.unusedVariables false
section
variable {P : Program} {m : Nat → Pl} {H H' : Heap} {w : World}

theorem run_getObj {r : Nat} {o : Obj} (h : w.heap[r]? = some o) (hc : ∀ c t f, o ≠ .cells c t f) : (getObj r).run P w = .ok o w := by
  unfold getObj Sem.run
  rw [h]
  cases o with
  | cells c t f => exact absurd rfl (hc c t f)
  | _ => rfl
theorem run_setObj {r : Nat} {o o' : Obj} (h : w.heap[r]? = some o) (hc : ∀ c t f, o ≠ .cells c t f) : (setObj r o').run P w = .ok () { w with heap := w.heap.setIfInBounds r o' } := by
  unfold setObj Sem.run
  rw [h]
  cases o with
  | cells c t f => exact absurd rfl (hc c t f)
  | _ => rfl

theorem bytes_run (f : Value → ByteArray → Sem (ForInStep ByteArray)) (hf : ∀ n s, f (.int .u8 n) s = pure (ForInStep.yield (s.push (UInt8.ofNat n.toNat)))) :
    ∀ (cs : List V) (bs : List UInt8) (xs : List Value) (acc : ByteArray), bytesL cs = some bs → VRelL m H cs xs →
    ∃ r : ByteArray, r.data.toList = acc.data.toList ++ bs ∧ (forIn xs acc f).run P w = .ok r w
  | [], bs, xs, acc, h, hv => by
    simp [bytesL] at h
    subst h
    rw [hv.nil]
    exact ⟨acc, by simp, by simp⟩
  | v :: cs, bs, xs, acc, h, hv => by
    obtain ⟨x, ys, rfl, h1, h2⟩ := hv.cons
    simp only [bytesL] at h
    split at h
    · rename_i b l hb hl
      cases h
      unfold byteOf at hb
      split at hb
      · rename_i n
        cases hb
        rw [h1.int_inv]
        obtain ⟨r, hr1, hr2⟩ := bytes_run f hf cs l ys (acc.push (UInt8.ofNat n.toNat)) hl h2
        refine ⟨r, by rw [hr1]; simp, ?_⟩
        simp only [List.forIn_cons, hf, Sem.run_bind, Sem.run_pure, Result.andThen_ok]
        exact hr2
      · cases hb
    · cases h

theorem bytes_then {β : Type} {f : Value → ByteArray → Sem (ForInStep ByteArray)} {K : ByteArray → World → Result β} (hf : ∀ n s, f (.int .u8 n) s = pure (ForInStep.yield (s.push (UInt8.ofNat n.toNat))))
    {cs : List V} {bs : List UInt8} {xs : List Value} (hb : bytesL cs = some bs) (hv : VRelL m H cs xs) :
    ((forIn xs ByteArray.empty f).run P w).andThen K = K ⟨bs.toArray⟩ w := by
  obtain ⟨r, hr1, hr2⟩ := bytes_run (P := P) (w := w) f hf cs bs xs ByteArray.empty hb hv
  have hre : r = ⟨bs.toArray⟩ := by
    apply ByteArray.ext
    apply Array.ext'
    simpa using hr1
  subst hre
  rw [hr2]
  rfl

theorem good_b2s {a b e : TypeId} {x : Operand} {o : Oper} (eo : o.op = .convert a b x) (h1 : P.underlying a = some (.slice e)) (h2 : P.underlying b = some .string) (h3 : P.underlying e = some (.int .u8)) {ρ : Operand → Value} {vs : List V} {r : V}
    (he : exec .b2s vs H = some (r, H')) (hv : VRelL m H vs ([x].map ρ)) (hr : Rel m H w) : Good P m H w (execOp ρ o) r H' := by
  simp only [exec] at he
  split at he
  · rename_i v
    obtain ⟨z, hz, h⟩ := hv.one
    simp at hz
    split at he
    · rename_i n hn
      split at he
      · rename_i cs hcs
        cases hb : bytesL cs with
        | none => rw [hb] at he; cases he
        | some bs =>
          rw [hb] at he; simp at he; obtain ⟨rfl, rfl⟩ := he
          obtain ⟨xs, g1, g2, g3⟩ := readN_run hr hcs h (fun id off len cap hee a' c' hxx => by
            subst hee; subst hxx
            obtain ⟨a2, c2, e2, ha⟩ := h.slice_inv
            cases e2
            have : n = len := lenV_le hn rfl
            rcases Nat.eq_zero_or_pos c' with h | h
            · left; have := ha.2.1; omega
            · exact .inr h)
          refine Good.pure hr (x := .string ⟨bs.toArray⟩) ?_ (.mk_str _)
          have hconv : (convert a b z).run P w = .ok (.string ⟨bs.toArray⟩) w := by
            rcases g3 with ⟨ad, l, c, rfl, g3⟩ | ⟨rfl, h0⟩
            · have hl : l = n := by
                rcases lenV_inv hn h with ⟨s, hx, _⟩ | ⟨a', c', hx, _⟩
                · cases hx
                · cases hx; rfl
              subst hl
              unfold convert
              simp only [Sem.run_bind, run_under h1, run_under h2, Result.andThen_ok]
              simp only [Sem.run_bind, run_under h3, Result.andThen_ok, Conv.bytesToString, g3 P w rfl]
              rw [← Array.forIn_toList]
              rw [show (xs.toArray).toList = xs by simp]
              refine (bytes_then (m := m) (H := H) (K := _) ?_ hb g1).trans ?_
              · intro n s; rfl
              · simp
            · have hx0 : xs = [] := List.eq_nil_of_length_eq_zero (by omega)
              subst hx0
              have hc0 : cs = [] := List.eq_nil_of_length_eq_zero (by have := g1.length; simpa using this.symm)
              subst hc0
              simp [bytesL] at hb
              subst hb
              unfold convert
              simp only [Sem.run_bind, run_under h1, run_under h2, Result.andThen_ok]
              simp only [Sem.run_bind, run_under h3, Result.andThen_ok, Conv.bytesToString, Sem.run_pure]
              rfl
          simp [execOp, eo, hz, hconv]
      · cases he
    · cases he
  · cases he

theorem freeze_alloc (w : World) (cells : Array Value) (e : TypeId) (c : Nat) : (w.alloc (.cells cells e)).freeze ⟨w.heap.size, c, none⟩ 1 = w.alloc (.cells cells e (c, c + 1)) := by
  have hh : ((w.heap.push (.cells cells e)).modify w.heap.size fun
      | .cells c' elem (lo, hi) => .cells c' elem (if lo == hi then (c, c + 1) else (min lo c, max hi (c + 1)))
      | o => o) = w.heap.push (.cells cells e (c, c + 1)) := by
    apply Array.ext_getElem?
    intro j
    rw [Array.getElem?_modify]
    by_cases hj : w.heap.size = j
    · subst hj
      rw [if_pos rfl]
      simp
    · rw [if_neg hj, Array.getElem?_push, Array.getElem?_push]
      split
      · rename_i h; exact absurd h.symm hj
      · rfl
  unfold World.freeze
  rw [if_neg (by omega)]
  exact congrArg (fun h => ({ w with heap := h } : World)) hh

theorem good_s2b {a b e : TypeId} {x : Operand} {o : Oper} (eo : o.op = .convert a b x) (h1 : P.underlying a = some .string) (h2 : P.underlying b = some (.slice e)) (h3 : P.underlying e = some (.int .u8)) {ρ : Operand → Value} {vs : List V} {r : V}
    (he : exec .s2b vs H = some (r, H')) (hv : VRelL m H vs ([x].map ρ)) (hr : Rel m H w) : Good P m H w (execOp ρ o) r H' := by
  simp only [exec] at he
  split at he
  · rename_i s
    cases he
    obtain ⟨z, hz, h⟩ := hv.one
    simp at hz
    rw [h.str_inv] at hz
    let c := (Question.appendCap s.size 0 e).cut (w.tape w.drawn (.appendCap s.size 0 e))
    have hc : s.size ≤ c := by simp only [c, Question.cut]; omega
    let cells : Array Value := (s.data.map fun b => Value.int .u8 b.toNat) ++ Array.replicate (c - s.size) (.int .u8 0)
    have hcs : cells.size = c := by
      simp only [cells, Array.size_append, Array.size_map, Array.size_replicate]
      have : s.data.size = s.size := rfl
      omega
    obtain ⟨hr1, hev1⟩ := hr.same (w' := w.drew) rfl rfl rfl rfl
    have hkp := Keeps.new (m := m) (H := H) hr1.bound (.row false 1 (bytesV s)) ⟨w.drew.heap.size, 0, c⟩
    obtain ⟨g1, g2⟩ := hr1.new (.cells cells e (c, c + 1)) (.row false 1 (bytesV s)) 0 c (by
      refine ⟨cells, e, (c, c + 1), ?_, by rw [mput_same]; exact hcs.symm, fun j v hj => ?_, fun _ j h1 h2 => by simp only at h1; omega⟩
      · rw [mput_same]; exact heap_alloc_new _ _
      · obtain ⟨y, hy, hvy⟩ := (bytesV_rel (m := m) (H := H) s).get hj
        refine ⟨y, ?_, hvy.mono hkp _ _⟩
        rw [mput_same]
        have hjl := (List.getElem?_eq_some_iff.1 hy).1
        simp only [List.length_map, Array.length_toList] at hjl
        simp only [cells, Nat.zero_add]
        rw [Array.getElem?_append_left (by simpa using hjl), ← hy]
        simp)
    have hworld : (w.drew.alloc (.cells cells e)).freeze ⟨w.drew.heap.size, c, none⟩ 1 = w.drew.alloc (.cells cells e (c, c + 1)) := freeze_alloc w.drew cells e c
    refine ⟨_, _, .slice (some ⟨w.heap.size, 0, none⟩) s.size c, .inl ?_, ?_, g1, hev1.trans g2⟩
    · have hconv : (convert a b (.string s)).run P w = .ok (.slice (some ⟨w.heap.size, 0, none⟩) s.size c) (w.drew.alloc (.cells cells e (c, c + 1))) := by
        unfold convert
        simp only [Sem.run_bind, run_under h1, run_under h2, Result.andThen_ok]
        simp only [Sem.run_bind, run_under h3, Result.andThen_ok, Conv.stringToBytes, run_choose, Question.forced, Bool.false_eq_true, if_false]
        simp only [World.drew_eq, newRow, Sem.run_bind, run_newObj, Result.andThen_ok, Sem.run_pure, World.alloc_eq, markStringish, run_shape]
        have hsh : (w.drew.alloc (.cells cells e)).shape? w.drew.heap.size = some (e, c) := by
          unfold World.shape?
          rw [heap_alloc_new]
          simp [hcs]
        have hcells : (s.data.map fun b => Value.int .u8 (b.toNat : Int)) ++ Array.replicate ((Question.appendCap s.size 0 e).cut (w.tape w.drawn (.appendCap s.size 0 e)) - s.size) (.int .u8 0) = cells := rfl
        rw [hcells, hsh]
        simp only [run_freeze, Result.andThen_ok, Sem.run_pure]
        rw [hworld]
        rfl
      simp only [execOp, eo, hz, Sem.run_bind, hconv, Result.andThen_ok, Sem.run_pure]
    · simp only [VRel]
      refine ⟨_, _, rfl, by simp, hc, fun k hk => (by cases hk), fun hp ob hob => ?_⟩
      rw [mput_same]
      refine ⟨rfl, fun esz cl hee _ => ?_⟩
      rw [Heap.new_get, if_pos rfl] at hob
      cases hob
      cases hee
      simp only; omega
  · cases he

theorem good_rits {t : TypeId} {x : Operand} {o : Oper} (eo : o.op = .range t x) (ht : P.underlying t = some .string) {ρ : Operand → Value} {vs : List V} {r : V}
    (he : exec .rits vs H = some (r, H')) (hv : VRelL m H vs ([x].map ρ)) (hr : Rel m H w) : Good P m H w (execOp ρ o) r H' := by
  simp only [exec] at he
  split at he
  · rename_i s
    cases he
    obtain ⟨z, hz, h⟩ := hv.one
    simp at hz
    rw [h.str_inv] at hz
    obtain ⟨g1, g2⟩ := hr.new (.stringIter s 0) (.iter s 0) 0 0 ⟨by rw [mput_same], by rw [mput_same]; exact heap_alloc_new _ _⟩
    refine ⟨_, _, .pointer (some ⟨w.heap.size, 0, none⟩), .inl ?_, .mk_ptr (PtrOk.new hr _ _ rfl), g1, g2⟩
    simp [execOp, eo, hz, Instr.range, run_under ht]
  · cases he

theorem good_rnext {x : Operand} {o : Oper} (eo : o.op = .next x true) {ρ : Operand → Value} {vs : List V} {r : V}
    (he : exec .rnext vs H = some (r, H')) (hv : VRelL m H vs ([x].map ρ)) (hr : Rel m H w) : Good P m H w (execOp ρ o) r H' := by
  simp only [exec] at he
  split at he
  · rename_i id
    obtain ⟨z, hz, h⟩ := hv.one
    simp at hz
    obtain ⟨a, rfl, ha⟩ := h.ptr_inv
    split at he
    · rename_i s pos hg
      have hae := ha.2 (by rw [hg]; simp)
      obtain ⟨hb0, hob⟩ := hr.obs id _ hg
      rw [hb0] at hae
      have hget : (getObj (m id).b).run P w = .ok (.stringIter s pos) w := run_getObj hob (by simp)
      split at he
      · rename_i hpos
        cases he
        have hset : (setObj (m id).b (.stringIter s (pos + (Utf8.decode s pos).2))).run P w = .ok () { w with heap := w.heap.setIfInBounds (m id).b (.stringIter s (pos + (Utf8.decode s pos).2)) } := run_setObj hob (by simp)
        have hlt := (Array.getElem?_eq_some_iff.1 hob).1
        obtain ⟨g1, g2⟩ := hr.upd (o' := .iter s (pos + (Utf8.decode s pos).2)) (w' := { w with heap := w.heap.setIfInBounds (m id).b (.stringIter s (pos + (Utf8.decode s pos).2)) }) hg rfl rfl rfl rfl rfl (by simp) (fun b hne => by simp [Array.getElem?_setIfInBounds, Ne.symm hne]) ⟨hb0, by simp [hlt]⟩
        refine ⟨m, _, .tuple #[.bool true, .int .i64 pos, .int .i32 (Utf8.decode s pos).1], .inl ?_, .mk_tup (.mk_cons (.mk_bool _) (.mk_cons (.mk_int _ _) (.mk_cons (.mk_int _ _) .mk_nil))), g1, g2⟩
        simp only [execOp, eo, hz, hae, Instr.next, Sem.run_bind, hget, Result.andThen_ok, hpos, if_true, hset, Sem.run_pure, goInt, Nat.add_zero]
      · rename_i hpos
        cases he
        refine Good.pure hr (x := .tuple #[.bool false]) ?_ (.mk_tup (.mk_cons (.mk_bool _) .mk_nil))
        simp only [execOp, eo, hz, hae, Instr.next, Sem.run_bind, hget, Result.andThen_ok, hpos, if_false, Sem.run_pure, goInt, Nat.add_zero]
    · cases he
  · cases he

/-! ### Maps -/
theorem good_mkmap {t : TypeId} {o : Oper} (eo : o.op = .makeMap t none) {ρ : Operand → Value} {vs : List V} {r : V}
    (he : exec .mkmap vs H = some (r, H')) (hv : VRelL m H vs (([] : List Operand).map ρ)) (hr : Rel m H w) : Good P m H w (execOp ρ o) r H' := by
  simp only [exec] at he
  split at he
  · cases he
    obtain ⟨g1, g2⟩ := hr.new (.map #[] 0) (.mapo []) 0 0 ⟨#[], 0, by rw [mput_same]; exact heap_alloc_new _ _, .mk_nil, .mk_nil⟩
    refine ⟨_, _, .map (some w.heap.size), .inl ?_, ?_, g1, g2⟩
    · simp [execOp, eo, Instr.makeMap]
    · simp only [VRel]; exact ⟨_, rfl, by simp, fun _ => by rw [mput_same]⟩
  · cases he

theorem findE_run {c : Nat} {td : TypeDesc} (hc : keyC td = some c) {k : V} {kv : Value} (hk : VRel m H k kv) : ∀ (es : List (V × V)) (es' : List MapEntry) (r : Option Nat),
    findE c k es = some r → VRelL m H (es.map (·.1)) (es'.map (·.key)) → ∀ (j : Nat),
    match r with
    | none => Instr.findNow td kv es' j = some none
    | some i => ∃ e, es'[i]? = some e ∧ Instr.findNow td kv es' j = some (some (i + j, e.val)) ∧ Instr.sameNow td kv e.key = some true
  | [], es', r, h, hv, j => by
    simp [findE] at h
    subst h
    have : es' = [] := by have := hv.nil; simpa using this
    subst this
    rfl
  | (k1, v1) :: es, es', r, h, hv, j => by
    cases es' with
    | nil => have := hv.length; simp at this
    | cons e es' =>
      obtain ⟨x, xs, hx, h1, h2⟩ := hv.cons
      simp only [List.map_cons, List.cons.injEq] at hx
      obtain ⟨rfl, rfl⟩ := hx
      simp only [findE] at h
      have hsame : ∀ q, V.sameK c k k1 = some q → Instr.sameNow td kv e.key = some q := by
        intro q hq
        unfold keyC at hc
        split at hc
        · cases hc
          obtain ⟨kk, a, b, rfl, e2, rfl⟩ := hk.same0 hq h1
          rw [e2]; simp [Instr.sameNow]
        · cases hc
          obtain ⟨a, b, rfl, e2, rfl⟩ := hk.same2 hq h1
          rw [e2]; simp [Instr.sameNow, beq_toListBytes]
        · cases hc
      split at h
      · rename_i hq
        cases h
        exact ⟨e, by simp, by simp [Instr.findNow, hsame _ hq], hsame _ hq⟩
      · rename_i hq
        cases hf : findE c k es with
        | none => rw [hf] at h; cases h
        | some r0 =>
          rw [hf] at h; simp at h
          have := findE_run hc hk es es' r0 hf h2 (j + 1)
          cases r0 with
          | none => subst h; simp only at this ⊢; simp [Instr.findNow, hsame _ hq, this]
          | some i =>
            subst h
            obtain ⟨e', g1, g2, g3⟩ := this
            refine ⟨e', by simpa using g1, ?_, g3⟩
            simp only [Instr.findNow, hsame _ hq, g2]
            congr 3; omega
      · cases h

theorem run_checkKey {c : Nat} {t : TypeId} {td : TypeDesc} (ht : P.underlying t = some td) (hc : keyC td = some c) (b : Bool) (v : Value) (n : Nat) : (Instr.checkKey b (n + 1) t v).run P w = .ok () w := by
  unfold keyC at hc
  split at hc
  · unfold Instr.checkKey; simp [run_under ht]
  · unfold Instr.checkKey; simp [run_under ht]
  · cases hc

theorem absV_rel {z : Value} {v : V} (h : absV z = some v) : VRel m H v z := by
  unfold absV at h
  split at h
  · rename_i cs
    cases hl : absL cs.toList with
    | none => rw [hl] at h; cases h
    | some l => rw [hl] at h; cases h; exact .mk_agg (absL_rel _ _ hl)
  · rename_i vs
    split at h
    · rename_i he; cases h
      have : vs = #[] := by simpa using he
      subst this
      exact .mk_tup .mk_nil
    · cases h
  · unfold abs1 at h
    split at h <;> first | (cases h; simp only [VRel]) | cases h

theorem good_look {t kt et : TypeId} {x k : Operand} {ok : Bool} {td : TypeDesc} {c : Nat} {i : TypeInfo} {z : Value} {zv : V} {o : Oper} (eo : o.op = .lookup t x k ok) (ht : P.underlying t = some (.map kt et)) (hkt : P.underlying kt = some td) (hc : keyC td = some c)
    (hi : P.info? et = some i) (hz : i.zero = some z) (hzv : absV z = some zv) {ρ : Operand → Value} {vs : List V} {r : V}
    (he : exec (.look c zv ok) vs H = some (r, H')) (hv : VRelL m H vs ([x, k].map ρ)) (hr : Rel m H w) : Good P m H w (execOp ρ o) r H' := by
  simp only [exec] at he
  split at he
  · rename_i id kv
    obtain ⟨y1, y2, hz', g1, g2⟩ := hv.two
    simp only [List.map_cons, List.map_nil, List.cons.injEq, and_true] at hz'
    obtain ⟨rr, rfl, hid, hrr⟩ := g1.map_inv
    split at he
    · rename_i es hg
      have := hrr (by rw [hg]; simp)
      subst this
      obtain ⟨es', clock, hb, hk, hvv⟩ := hr.obs id _ hg
      have hget : (getObj (m id).b).run P w = .ok (.map es' clock) w := run_getObj hb (by simp)
      have hck := fun b v => run_checkKey (P := P) (w := w) hkt hc b v 9999
      have fin : ∀ (q : Value) (bq : Bool), (Instr.findNow td y2 es'.toList 0 = some none ∧ q = z ∧ bq = false) ∨ (∃ n, Instr.findNow td y2 es'.toList 0 = some (some (n, q)) ∧ bq = true) →
          (Instr.lookup t (.map (some (m id).b)) y2 ok).run P w = .ok (if ok then .tuple #[q, .bool bq] else q) w := by
        intro q bq h
        unfold Instr.lookup
        simp only [Sem.run_bind, run_under ht, Result.andThen_ok, hget, Sem.run_pure, hck, Instr.findKey, run_under hkt]
        rcases h with ⟨h1, rfl, rfl⟩ | ⟨n, h1, rfl⟩
        · rw [h1]; simp [run_zeroValue hi hz]
        · rw [h1]; simp
      split at he
      · rename_i hf
        split at hf
        · cases he
          have h1 := findE_run hc g2 es es'.toList none hf hk 0
          simp only at h1
          refine Good.pure hr (x := if ok then .tuple #[z, .bool false] else z) ?_ ?_
          · simp only [execOp, eo, hz'.1, hz'.2, Sem.run_bind, fin z false (.inl ⟨h1, rfl, rfl⟩), Result.andThen_ok, Sem.run_pure]
          · cases ok
            · exact absV_rel hzv
            · exact .mk_tup (.mk_cons (absV_rel hzv) (.mk_cons (.mk_bool _) .mk_nil))
        · cases hf
      · rename_i j hf
        split at hf
        · cases hes : es[j]? with
          | none => rw [hes] at he; cases he
          | some e =>
            rw [hes] at he; simp at he; obtain ⟨rfl, rfl⟩ := he
            obtain ⟨e', q1, q2, q3⟩ := findE_run hc g2 es es'.toList (some j) hf hk 0
            obtain ⟨y, hy, hvy⟩ := hvv.get (i := j) (v := e.2) (by simp [hes])
            have hye : y = e'.val := by simp [q1] at hy; exact hy.symm
            subst hye
            refine Good.pure hr (x := if ok then .tuple #[e'.val, .bool true] else e'.val) ?_ ?_
            · simp only [execOp, eo, hz'.1, hz'.2, Sem.run_bind, fin e'.val true (.inr ⟨_, q2, rfl⟩), Result.andThen_ok, Sem.run_pure]
            · cases ok
              · exact hvy
              · exact .mk_tup (.mk_cons hvy (.mk_cons (.mk_bool _) .mk_nil))
        · cases hf
      · cases he
    · cases he
  · cases he

theorem VRelL.set {vs : List V} {xs : List Value} (h : VRelL m H vs xs) {i : Nat} {v : V} {x : Value} (hv : VRel m H v x) : VRelL m H (vs.set i v) (xs.set i x) := by
  induction vs generalizing xs i with
  | nil => rw [h.nil]; simpa using VRelL.mk_nil
  | cons u vs ih =>
    obtain ⟨y, ys, rfl, k1, k2⟩ := h.cons
    cases i with
    | zero => exact .mk_cons hv k2
    | succ i => exact .mk_cons k1 (ih k2)
theorem VRelL.eraseIdx {vs : List V} {xs : List Value} (h : VRelL m H vs xs) (i : Nat) : VRelL m H (vs.eraseIdx i) (xs.eraseIdx i) := by
  induction vs generalizing xs i with
  | nil => rw [h.nil]; simpa using VRelL.mk_nil
  | cons u vs ih =>
    obtain ⟨y, ys, rfl, k1, k2⟩ := h.cons
    cases i with
    | zero => exact k2
    | succ i => exact .mk_cons k1 (ih k2 i)

theorem map_erase {α β : Type} (f : α → β) : ∀ (l : List α) (j : Nat), (l.eraseIdx j).map f = (l.map f).eraseIdx j
  | [], _ => rfl
  | _ :: _, 0 => rfl
  | x :: l, j + 1 => by simp [map_erase f l j]

theorem same_bits {td : TypeDesc} {c : Nat} (hc : keyC td = some c) {a b : Value} (h : Instr.sameNow td a b = some true) : Instr.sameBits 10000 b a = true := by
  unfold keyC at hc
  split at hc
  · unfold Instr.sameNow at h
    split at h
    · split at h
      · rename_i hk; subst hk; simp at h; subst h; simp [Instr.sameBits]
      · cases h
    · simp_all
    · simp_all
    · cases h
  · unfold Instr.sameNow at h
    split at h
    · simp_all
    · simp only [Option.some.injEq] at h
      rw [beq_toListBytes] at h
      simp only [Instr.sameBits]
      rw [beq_toListBytes]
      simp at h ⊢
      exact h.symm
    · simp_all
    · cases h
  · cases hc

theorem good_mset {t kt et : TypeId} {x k v : Operand} {td : TypeDesc} {c : Nat} {o : Oper} (eo : o.op = .mapUpdate t x k v) (ht : P.underlying t = some (.map kt et)) (hkt : P.underlying kt = some td) (hc : keyC td = some c)
    {ρ : Operand → Value} {vs : List V} {r : V}
    (he : exec (.mset c) vs H = some (r, H')) (hv : VRelL m H vs ([x, k, v].map ρ)) (hr : Rel m H w) : Good P m H w (execOp ρ o) r H' := by
  simp only [exec] at he
  split at he
  · rename_i id kv vv
    obtain ⟨y1, y2, y3, hz', g1, g2, g3⟩ := hv.three
    simp only [List.map_cons, List.map_nil, List.cons.injEq, and_true] at hz'
    obtain ⟨rr, rfl, hid, hrr⟩ := g1.map_inv
    split at he
    · rename_i es hg
      have := hrr (by rw [hg]; simp)
      subst this
      obtain ⟨es', clock, hb, hk, hvv⟩ := hr.obs id _ hg
      have hget : (getObj (m id).b).run P w = .ok (.map es' clock) w := run_getObj hb (by simp)
      have hck := fun b v => run_checkKey (P := P) (w := w) hkt hc b v 9999
      have hlt := (Array.getElem?_eq_some_iff.1 hb).1
      have hset := fun o' => run_setObj (P := P) (o' := o') hb (by simp)
      split at he
      · rename_i hf
        split at hf
        · cases he
          have h1 := findE_run hc g2 es es'.toList none hf hk 0
          simp only at h1
          have hkp : Keeps m H m (H.set id (.mapo (es ++ [(kv, vv)]))) := Keeps.set id _ _ hg rfl
          obtain ⟨q1, q2⟩ := hr.upd (o' := .mapo (es ++ [(kv, vv)])) (w' := { w with heap := w.heap.setIfInBounds (m id).b (.map (es'.push { key := y2, val := y3, born := clock }) (clock + 1)) }) hg rfl rfl rfl rfl rfl (by simp)
            (fun b hne => by simp [Array.getElem?_setIfInBounds, Ne.symm hne]) ⟨_, _, by simp only; rw [Array.getElem?_setIfInBounds, if_pos rfl, if_pos hlt], by
              simp only [List.map_append, List.map_cons, List.map_nil, Array.toList_push]
              exact ((hk.mono hkp _ _).append (.mk_cons (g2.mono hkp _ _) .mk_nil)), by
              simp only [List.map_append, List.map_cons, List.map_nil, Array.toList_push]
              exact ((hvv.mono hkp _ _).append (.mk_cons (g3.mono hkp _ _) .mk_nil))⟩
          refine ⟨m, _, undef, .inr ⟨?_, rfl⟩, .mk_undef, q1, q2⟩
          simp only [execOp, eo, hz'.1, hz'.2.1, hz'.2.2, Instr.mapUpdate, Sem.run_bind, run_under ht, Result.andThen_ok, hget, hck, Instr.findKey, run_under hkt, h1, Sem.run_pure, hset]
        · cases hf
      · rename_i j hf
        split at hf
        · cases he
          obtain ⟨e', p1, p2, p3⟩ := findE_run hc g2 es es'.toList (some j) hf hk 0
          have hjl : j < es'.size := by simpa using (List.getElem?_eq_some_iff.1 p1).1
          have hkp : Keeps m H m (H.set id (.mapo (es.set j (kv, vv)))) := Keeps.set id _ _ hg rfl
          have hmod : ∀ (f : MapEntry → Value) (y : Value), f { e' with key := y2, val := y3 } = y → ((es'.modify j fun e => { e with key := y2, val := y3 }).toList.map f) = (es'.toList.map f).set j y := by
            intro f y hy
            apply List.ext_getElem?
            intro n
            rw [List.getElem?_map, Array.getElem?_toList, Array.getElem?_modify, List.getElem?_set]
            by_cases hn : j = n
            · subst hn
              have p1' : es'[j]? = some e' := by simpa using p1
              have p2' := (Array.getElem?_eq_some_iff.1 p1').2
              simp [p1', hjl, ← hy, p2']
            · simp [hn]
          obtain ⟨q1, q2⟩ := hr.upd (o' := .mapo (es.set j (kv, vv))) (w' := { w with heap := w.heap.setIfInBounds (m id).b (.map (es'.modify j fun e => { e with key := y2, val := y3 }) clock) }) hg rfl rfl rfl rfl rfl (by simp)
            (fun b hne => by simp [Array.getElem?_setIfInBounds, Ne.symm hne]) ⟨_, _, by simp only; rw [Array.getElem?_setIfInBounds, if_pos rfl, if_pos hlt], by
              rw [hmod (·.key) y2 rfl, List.map_set]
              exact (hk.mono hkp _ _).set (g2.mono hkp _ _), by
              rw [hmod (·.val) y3 rfl, List.map_set]
              exact (hvv.mono hkp _ _).set (g3.mono hkp _ _)⟩
          refine ⟨m, _, undef, .inr ⟨?_, rfl⟩, .mk_undef, q1, q2⟩
          have hold : ((es'[j]?).map (·.key)).getD y2 = e'.key := by
            have p1' : es'[j]? = some e' := by simpa using p1
            simp [p1']
          have hstay : (Instr.keyThatStays (((es'[j]?).map (·.key)).getD y2) y2).run P w = .ok y2 w := by
            rw [hold]; unfold Instr.keyThatStays; rw [same_bits hc p3]; simp
          simp only [Nat.add_zero] at p2
          simp only [execOp, eo, hz'.1, hz'.2.1, hz'.2.2, Instr.mapUpdate, Sem.run_bind, run_under ht, Result.andThen_ok, hget, hck, Instr.findKey, run_under hkt, p2, Sem.run_pure, hstay, hset]
        · cases hf
      · cases he
    · cases he
  · cases he

theorem good_mdel {x k : Operand} {args : Array Operand} {ats : Array TypeId} {t kt et : TypeId} {td : TypeDesc} {c : Nat} {o : Oper} (eo : o.op = .call { callee := .builtin .delete, args := args, argTypes := ats }) (hx : args.toList = [x, k])
    (h0 : ats[0]? = some t) (ht : P.underlying t = some (.map kt et)) (hkt : P.underlying kt = some td) (hc : keyC td = some c) {ρ : Operand → Value} {vs : List V} {r : V}
    (he : exec (.mdel c) vs H = some (r, H')) (hv : VRelL m H vs ([x, k].map ρ)) (hr : Rel m H w) : Good P m H w (execOp ρ o) r H' := by
  obtain rfl : args = #[x, k] := by apply Array.ext'; simpa using hx
  obtain ⟨cs, hex⟩ := exec_builtin eo ρ
  rw [hex]
  simp only [exec] at he
  split at he
  · rename_i id kv
    obtain ⟨y1, y2, hz', g1, g2⟩ := hv.two
    simp only [List.map_cons, List.map_nil, List.cons.injEq, and_true] at hz'
    obtain ⟨rr, rfl, hid, hrr⟩ := g1.map_inv
    split at he
    · rename_i es hg
      have := hrr (by rw [hg]; simp)
      subst this
      obtain ⟨es', clock, hb, hk, hvv⟩ := hr.obs id _ hg
      have hget : (getObj (m id).b).run P w = .ok (.map es' clock) w := run_getObj hb (by simp)
      have hck := fun b v => run_checkKey (P := P) (w := w) hkt hc b v 9999
      have hlt := (Array.getElem?_eq_some_iff.1 hb).1
      have hset := fun o' => run_setObj (P := P) (o' := o') hb (by simp)
      split at he
      · rename_i hf
        split at hf
        · cases he
          have h1 := findE_run hc g2 es es'.toList none hf hk 0
          simp only at h1
          have hsame : ({ w with heap := w.heap.setIfInBounds (m id).b (.map es' clock) } : World) = w := by
            have : w.heap.setIfInBounds (m id).b (.map es' clock) = w.heap := by
              apply Array.ext_getElem?
              intro n
              rw [Array.getElem?_setIfInBounds]
              split
              · subst_vars; exact hb.symm
              · rfl
            rw [this]
          refine Good.pure hr (x := undef) ?_ .mk_undef
          simp only [builtin, Builtin.delete_, h0, List.map_toArray, List.map_cons, List.map_nil, List.getElem?_toArray, List.getElem?_cons_zero, List.getElem?_cons_succ, hz'.1, hz'.2, Sem.run_bind, run_under ht, Result.andThen_ok, hget, hck, Instr.findKey, run_under hkt, h1, Sem.run_pure, hset, hsame, undef]
        · cases hf
      · rename_i j hf
        split at hf
        · cases he
          obtain ⟨e', p1, p2, p3⟩ := findE_run hc g2 es es'.toList (some j) hf hk 0
          have hjl : j < es'.size := by simpa using (List.getElem?_eq_some_iff.1 p1).1
          have hkp : Keeps m H m (H.set id (.mapo (es.eraseIdx j))) := Keeps.set id _ _ hg rfl
          have herase : (es'.eraseIdxIfInBounds j).toList = es'.toList.eraseIdx j := by
            unfold Array.eraseIdxIfInBounds
            rw [dif_pos hjl]; simp
          obtain ⟨q1, q2⟩ := hr.upd (o' := .mapo (es.eraseIdx j)) (w' := { w with heap := w.heap.setIfInBounds (m id).b (.map (es'.eraseIdxIfInBounds j) clock) }) hg rfl rfl rfl rfl rfl (by simp)
            (fun b hne => by simp [Array.getElem?_setIfInBounds, Ne.symm hne]) ⟨_, _, by simp only; rw [Array.getElem?_setIfInBounds, if_pos rfl, if_pos hlt], by
              rw [herase, map_erase, map_erase]
              exact (hk.mono hkp _ _).eraseIdx j, by
              rw [herase, map_erase, map_erase]
              exact (hvv.mono hkp _ _).eraseIdx j⟩
          refine ⟨m, _, undef, .inl ?_, .mk_undef, q1, q2⟩
          simp only [Nat.add_zero] at p2
          simp only [builtin, Builtin.delete_, h0, List.map_toArray, List.map_cons, List.map_nil, List.getElem?_toArray, List.getElem?_cons_zero, List.getElem?_cons_succ, hz'.1, hz'.2, Sem.run_bind, run_under ht, Result.andThen_ok, hget, hck, Instr.findKey, run_under hkt, p2, Sem.run_pure, hset, undef]
        · cases hf
      · cases he
    · cases he
  · cases he
end
end Go.Proofs.YtkmaikggdbielaaGreatDoor.Fw
