/- The framework, part G: the operations on abstract values do what the model's do, fourth part: parts, lengths, slices, literals. No condition. -/
import Derived.Test.YtkmaikggdbielaaGreatDoorF
namespace Go.Proofs.YtkmaikggdbielaaGreatDoor.Fw
open Go
set_option linter.unusedSimpArgs false
set_option linter.unusedVariables false
section
variable {P : Program} {m : Nat → Pl} {H H' : Heap} {w : World}

theorem good_ext {x : Operand} {i : Nat} {o : Oper} (e : o.op = .extract x i) {ρ : Operand → Value} {vs : List V} {r : V}
    (he : exec (.ext i) vs H = some (r, H')) (hv : VRelL m H vs ([x].map ρ)) (hr : Rel m H w) : Good P m H w (execOp ρ o) r H' := by
  simp only [exec] at he
  split at he
  · rename_i ws
    cases hw : ws[i]? with
    | none => rw [hw] at he; cases he
    | some v =>
      rw [hw] at he; simp at he; obtain ⟨rfl, rfl⟩ := he
      obtain ⟨z, hz, h⟩ := hv.one
      simp at hz
      obtain ⟨cs, rfl, hc⟩ := h.tup_inv
      obtain ⟨y, hy, hvy⟩ := hc.get hw
      refine Good.pure hr (x := y) ?_ hvy
      have : cs[i]? = some y := by simpa using hy
      simp [execOp, e, hz, Instr.extract, this]
  · cases he

theorem good_fld {t : TypeId} {x : Operand} {f : Nat} {fs : Array Field} {fd : Field} {o : Oper} (e : o.op = .field t x f) (ht : P.underlying t = some (.struct fs)) (hf : fs[f]? = some fd)
    (ha : isAggT P fd.type = some false) {ρ : Operand → Value} {vs : List V} {r : V}
    (he : exec (.fld fd.offset) vs H = some (r, H')) (hv : VRelL m H vs ([x].map ρ)) (hr : Rel m H w) : Good P m H w (execOp ρ o) r H' := by
  simp only [exec] at he
  split at he
  · rename_i cs
    cases hw : cs[fd.offset]? with
    | none => rw [hw] at he; cases he
    | some v =>
      rw [hw] at he; simp at he; obtain ⟨rfl, rfl⟩ := he
      obtain ⟨z, hz, h⟩ := hv.one
      simp at hz
      obtain ⟨cs', rfl, hc⟩ := h.agg_inv
      obtain ⟨y, hy, hvy⟩ := hc.get hw
      refine Good.pure hr (x := y) ?_ hvy
      simp only [execOp, e, hz, Instr.field, Sem.run_bind, run_under ht, Result.andThen_ok, hf, asAgg, Sem.run_pure, run_part_one ha cs' fd.offset y (by simpa using hy)]
  · cases he

theorem good_flda {t : TypeId} {x : Operand} {f n : Nat} {fs : Array Field} {fd : Field} {o : Oper} (e : o.op = .field t x f) (ht : P.underlying t = some (.struct fs)) (hf : fs[f]? = some fd)
    (ha : isAggT P fd.type = some true) (hn : sizeA P fd.type = some n) {ρ : Operand → Value} {vs : List V} {r : V}
    (he : exec (.flda fd.offset n) vs H = some (r, H')) (hv : VRelL m H vs ([x].map ρ)) (hr : Rel m H w) : Good P m H w (execOp ρ o) r H' := by
  simp only [exec] at he
  split at he
  · rename_i cs
    split at he
    · rename_i hl
      cases he
      obtain ⟨z, hz, h⟩ := hv.one
      simp at hz
      obtain ⟨cs', rfl, hc⟩ := h.agg_inv
      refine Good.pure hr (x := .agg (cs'.extract fd.offset (fd.offset + n))) ?_ (.mk_agg ?_)
      · simp only [execOp, e, hz, Instr.field, Sem.run_bind, run_under ht, Result.andThen_ok, hf, asAgg, Sem.run_pure, run_part_agg ha cs' fd.offset n hn]
      · simpa [List.extract_eq_take_drop] using (hc.drop fd.offset).take n
    · cases he
  · cases he

theorem good_idxs {t : TypeId} {x i : Operand} {o : Oper} (e : o.op = .index t x i) (ht : P.underlying t = some .string) {ρ : Operand → Value} {vs : List V} {r : V}
    (he : exec .idxs vs H = some (r, H')) (hv : VRelL m H vs ([x, i].map ρ)) (hr : Rel m H w) : Good P m H w (execOp ρ o) r H' := by
  simp only [exec] at he
  split at he
  · rename_i s k i
    split at he
    · rename_i h0
      cases hb : s.data.toList[i.toNat]? with
      | none => rw [hb] at he; cases he
      | some b =>
        rw [hb] at he; simp at he; obtain ⟨rfl, rfl⟩ := he
        obtain ⟨u, v, hz, h1, h2⟩ := hv.two
        simp only [List.map_cons, List.map_nil, List.cons.injEq, and_true] at hz
        rw [h1.str_inv, h2.int_inv] at hz
        have hs : s[i.toNat]? = some b := by
          obtain ⟨hlt, hg⟩ := List.getElem?_eq_some_iff.1 hb
          have hlt' : i.toNat < s.size := by simpa using hlt
          rw [getElem?_pos s i.toNat hlt']
          have : s[i.toNat] = s.data[i.toNat] := rfl
          rw [this]; simpa using hg
        refine Good.pure hr (x := .int .u8 b.toNat) ?_ (.mk_int _ _)
        simp only [execOp, e, hz.1, hz.2, Instr.index, Sem.run_bind, run_asIntOf, Result.andThen_ok, run_under ht, h0, if_true, hs, Sem.run_pure]
    · cases he
  · cases he

theorem good_idxa {t el : TypeId} {x i : Operand} {len : Nat} {o : Oper} (e : o.op = .index t x i) (ht : P.underlying t = some (.array len el)) (ha : isAggT P el = some false) (hs : sizeA P el = some 1)
    {ρ : Operand → Value} {vs : List V} {r : V}
    (he : exec (.idxa len) vs H = some (r, H')) (hv : VRelL m H vs ([x, i].map ρ)) (hr : Rel m H w) : Good P m H w (execOp ρ o) r H' := by
  simp only [exec] at he
  split at he
  · rename_i cs k i
    split at he
    · rename_i h0
      cases hb : cs[i.toNat]? with
      | none => rw [hb] at he; cases he
      | some v =>
        rw [hb] at he; simp at he; obtain ⟨rfl, rfl⟩ := he
        obtain ⟨u, y, hz, h1, h2⟩ := hv.two
        simp only [List.map_cons, List.map_nil, List.cons.injEq, and_true] at hz
        obtain ⟨cs', rfl, hc⟩ := h1.agg_inv
        rw [h2.int_inv] at hz
        obtain ⟨q, hq, hvq⟩ := hc.get hb
        refine Good.pure hr (x := q) ?_ hvq
        simp only [execOp, e, hz.1, hz.2, Instr.index, Sem.run_bind, run_asIntOf, Result.andThen_ok, run_under ht, Sem.run_ite, h0, and_self, if_true, run_sizeOf hs, Nat.mul_one, run_part_one ha cs' i.toNat q (by simpa using hq), Sem.run_pure]
    · cases he
  · cases he

theorem good_mkfn {f : Fn} {first caps : Array Operand} {o : Oper} (e : o.op = .makeFunc f first caps) {ρ : Operand → Value} {vs : List V} {r : V}
    (he : exec (.mkfn f first.size) vs H = some (r, H')) (hv : VRelL m H vs ((first.toList ++ caps.toList).map ρ)) (hr : Rel m H w) : Good P m H w (execOp ρ o) r H' := by
  simp only [exec] at he
  cases he
  rw [List.map_append] at hv
  refine Good.pure hr (x := .func f (first.map ρ) (caps.map ρ)) (by simp [execOp, e, Instr.makeFunc]) ?_
  simp only [VRel]
  refine ⟨_, _, rfl, ?_, ?_⟩
  · have := hv.take first.size
    rw [List.take_left' (by simp)] at this
    simpa using this
  · have := hv.drop first.size
    rw [List.drop_left' (by simp)] at this
    simpa using this

theorem good_toInt {a b : TypeId} {x : Operand} {k : IntKind} {o : Oper} (e : o.op = .convert a b x) (h1 : ∃ j, P.underlying a = some (.int j)) (h2 : P.underlying b = some (.int k)) {ρ : Operand → Value} {vs : List V} {r : V}
    (he : exec (.toInt k) vs H = some (r, H')) (hv : VRelL m H vs ([x].map ρ)) (hr : Rel m H w) : Good P m H w (execOp ρ o) r H' := by
  simp only [exec] at he
  split at he
  · rename_i j n
    cases he
    obtain ⟨z, hz, h⟩ := hv.one
    simp at hz
    rw [h.int_inv] at hz
    obtain ⟨j', h1⟩ := h1
    refine Good.pure hr (x := .int k (k.wrap n)) ?_ (.mk_int _ _)
    simp [execOp, e, hz, convert, run_under h1, run_under h2, Conv.intToInt]
  · cases he

theorem good_id {a b : TypeId} {x : Operand} {o : Oper} (e : o.op = .convert a b x) (h1 : P.underlying a = some .string) (h2 : P.underlying b = some .string) {ρ : Operand → Value} {vs : List V} {r : V}
    (he : exec .id vs H = some (r, H')) (hv : VRelL m H vs ([x].map ρ)) (hr : Rel m H w) : Good P m H w (execOp ρ o) r H' := by
  simp only [exec] at he
  split at he
  · cases he
    obtain ⟨z, hz, h⟩ := hv.one
    simp at hz
    rw [h.str_inv] at hz
    refine Good.pure hr (x := .string _) ?_ (.mk_str _)
    simp [execOp, e, hz, convert, run_under h1, run_under h2]
  · cases he

/-! ### Calls of the language's own functions -/
theorem exec_builtin {b : Builtin} {args : Array Operand} {ats : Array TypeId} {o : Oper} (e : o.op = .call { callee := .builtin b, args := args, argTypes := ats }) (ρ : Operand → Value) :
    ∃ cs, execOp ρ o = builtin b ats o.type cs (args.map ρ) := by
  refine ⟨args.map fun | .const _ => true | _ => false, ?_⟩
  simp only [execOp, e, resolve]
  rfl

theorem lenV_inv {v : V} {n : Nat} (h : lenV v = some n) {x : Value} (hv : VRel m H v x) :
    (∃ s, x = .string s ∧ s.size = n ∧ v = .str s) ∨ (∃ a c, x = .slice a n c ∧ n ≤ c) := by
  cases v <;> simp only [lenV] at h <;> try cases h
  · exact .inl ⟨_, hv.str_inv, rfl, rfl⟩
  · exact .inr ⟨none, 0, hv.nils_inv, Nat.le_refl _⟩
  · obtain ⟨a, c, rfl, hs⟩ := hv.slice_inv
    exact .inr ⟨some a, c, rfl, hs.2.1⟩

theorem good_len {x : Operand} {args : Array Operand} {ats : Array TypeId} {t el : TypeId} {o : Oper} (e : o.op = .call { callee := .builtin .len, args := args, argTypes := ats }) (hx : args.toList = [x]) (hat : ats[0]? = some t)
    (ht : P.underlying t = some (.slice el)) {ρ : Operand → Value} {vs : List V} {r : V}
    (he : exec .len vs H = some (r, H')) (hv : VRelL m H vs ([x].map ρ)) (hr : Rel m H w) : Good P m H w (execOp ρ o) r H' := by
  obtain rfl : args = #[x] := by apply Array.ext'; simpa using hx
  obtain ⟨cs, hex⟩ := exec_builtin e ρ
  rw [hex]
  simp only [exec] at he
  split at he
  · cases he
    obtain ⟨z, hz, h⟩ := hv.one
    simp at hz
    rw [h.nils_inv] at hz
    refine Good.pure hr (x := .int .i64 (0 : Nat)) ?_ (.mk_int _ _)
    simp [builtin, Builtin.len_, hat, hz, run_under ht, goInt]
  · cases he
    obtain ⟨z, hz, h⟩ := hv.one
    simp at hz
    obtain ⟨a, c, rfl, _⟩ := h.slice_inv
    refine Good.pure hr (x := .int .i64 _) ?_ (.mk_int _ _)
    simp [builtin, Builtin.len_, hat, hz, run_under ht, goInt]
  · cases he

theorem good_slen {x : Operand} {args : Array Operand} {ats : Array TypeId} {t : TypeId} {o : Oper} (e : o.op = .call { callee := .builtin .len, args := args, argTypes := ats }) (hx : args.toList = [x]) (hat : ats[0]? = some t)
    (ht : P.underlying t = some .string) {ρ : Operand → Value} {vs : List V} {r : V}
    (he : exec .slen vs H = some (r, H')) (hv : VRelL m H vs ([x].map ρ)) (hr : Rel m H w) : Good P m H w (execOp ρ o) r H' := by
  obtain rfl : args = #[x] := by apply Array.ext'; simpa using hx
  obtain ⟨cs, hex⟩ := exec_builtin e ρ
  rw [hex]
  simp only [exec] at he
  split at he
  · cases he
    obtain ⟨z, hz, h⟩ := hv.one
    simp at hz
    rw [h.str_inv] at hz
    refine Good.pure hr (x := .int .i64 _) ?_ (.mk_int _ _)
    simp [builtin, Builtin.len_, hat, hz, run_under ht, goInt]
  · cases he

theorem good_konst {x : Operand} {args : Array Operand} {ats : Array TypeId} {t el : TypeId} {n : Nat} {o : Oper} (e : o.op = .call { callee := .builtin .len, args := args, argTypes := ats }) (hx : args.toList = [x]) (hat : ats[0]? = some t)
    (ht : P.underlying t = some (.array n el)) {ρ : Operand → Value} {vs : List V} {r : V}
    (he : exec (.konst (.int .i64 n)) vs H = some (r, H')) (hv : VRelL m H vs ([x].map ρ)) (hr : Rel m H w) : Good P m H w (execOp ρ o) r H' := by
  obtain rfl : args = #[x] := by apply Array.ext'; simpa using hx
  obtain ⟨cs, hex⟩ := exec_builtin e ρ
  rw [hex]
  simp only [exec] at he
  split at he
  · cases he
    refine Good.pure hr (x := .int .i64 _) ?_ (.mk_int _ _)
    simp [builtin, Builtin.len_, hat, run_under ht, goInt]
  · cases he

theorem good_cap {x : Operand} {args : Array Operand} {ats : Array TypeId} {t el : TypeId} {o : Oper} (e : o.op = .call { callee := .builtin .cap, args := args, argTypes := ats }) (hx : args.toList = [x]) (hat : ats[0]? = some t)
    (ht : P.underlying t = some (.slice el)) {ρ : Operand → Value} {vs : List V} {r : V}
    (he : exec .cap vs H = some (r, H')) (hv : VRelL m H vs ([x].map ρ)) (hr : Rel m H w) : Good P m H w (execOp ρ o) r H' := by
  obtain rfl : args = #[x] := by apply Array.ext'; simpa using hx
  obtain ⟨cs, hex⟩ := exec_builtin e ρ
  rw [hex]
  simp only [exec] at he
  split at he
  · cases he
    obtain ⟨z, hz, h⟩ := hv.one
    simp at hz
    rw [h.nils_inv] at hz
    refine Good.pure hr (x := .int .i64 (0 : Nat)) ?_ (.mk_int _ _)
    simp [builtin, Builtin.cap_, hat, hz, run_under ht, goInt]
  · rename_i k
    cases he
    obtain ⟨z, hz, h⟩ := hv.one
    simp at hz
    obtain ⟨a, c, rfl, hs⟩ := h.slice_inv
    have := hs.2.2.1 k rfl
    subst this
    refine Good.pure hr (x := .int .i64 _) ?_ (.mk_int _ _)
    simp [builtin, Builtin.cap_, hat, hz, run_under ht, goInt]
  · cases he

theorem run_mins {k : IntKind} : ∀ (l : List V) (a : Int) (r : V) (ys : List Value), mnI k a l = some r → VRelL m H l ys →
    ∃ x, (ys.foldlM Builtin.min2 (.int k a)).run P w = .ok x w ∧ VRel m H r x
  | [], a, r, ys, h, hv => by
    simp only [mnI, Option.some.injEq] at h
    subst h; rw [hv.nil]
    exact ⟨.int k a, by simp, .mk_int _ _⟩
  | v :: l, a, r, ys, h, hv => by
    obtain ⟨y, ys, rfl, h1, h2⟩ := hv.cons
    cases v with
    | int j b =>
      simp only [mnI] at h
      rw [h1.int_inv]
      obtain ⟨x, hx1, hx2⟩ := run_mins l _ r ys h h2
      exact ⟨x, by simp [Builtin.min2, hx1], hx2⟩
    | _ => simp [mnI] at h
theorem run_maxs {k : IntKind} : ∀ (l : List V) (a : Int) (r : V) (ys : List Value), mxI k a l = some r → VRelL m H l ys →
    ∃ x, (ys.foldlM Builtin.max2 (.int k a)).run P w = .ok x w ∧ VRel m H r x
  | [], a, r, ys, h, hv => by
    simp only [mxI, Option.some.injEq] at h
    subst h; rw [hv.nil]
    exact ⟨.int k a, by simp, .mk_int _ _⟩
  | v :: l, a, r, ys, h, hv => by
    obtain ⟨y, ys, rfl, h1, h2⟩ := hv.cons
    cases v with
    | int j b =>
      simp only [mxI] at h
      rw [h1.int_inv]
      obtain ⟨x, hx1, hx2⟩ := run_maxs l _ r ys h h2
      exact ⟨x, by simp [Builtin.max2] at *; exact hx1, hx2⟩
    | _ => simp [mxI] at h

theorem good_mn {xs : List Operand} {args : Array Operand} {ats : Array TypeId} {o : Oper} (e : o.op = .call { callee := .builtin .min, args := args, argTypes := ats }) (hx : args.toList = xs)
    {ρ : Operand → Value} {vs : List V} {r : V}
    (he : exec .mn vs H = some (r, H')) (hv : VRelL m H vs (xs.map ρ)) (hr : Rel m H w) : Good P m H w (execOp ρ o) r H' := by
  obtain ⟨cs, hex⟩ := exec_builtin e ρ
  rw [hex]
  simp only [exec] at he
  split at he
  · rename_i k a l
    cases hl : mnI k a l with
    | none => rw [hl] at he; cases he
    | some q =>
      rw [hl] at he; simp at he; obtain ⟨rfl, rfl⟩ := he
      obtain ⟨y, ys, hy, h1, h2⟩ := hv.cons
      rw [h1.int_inv] at hy
      obtain ⟨x, hx1, hx2⟩ := run_mins (P := P) (w := w) l a _ ys hl h2
      refine Good.pure hr (x := x) ?_ hx2
      simp only [builtin, Builtin.min_, Array.toList_map, hx, hy, Sem.run_bind, hx1, Result.andThen_ok, Sem.run_pure]
  · cases he
theorem good_mx {xs : List Operand} {args : Array Operand} {ats : Array TypeId} {o : Oper} (e : o.op = .call { callee := .builtin .max, args := args, argTypes := ats }) (hx : args.toList = xs)
    {ρ : Operand → Value} {vs : List V} {r : V}
    (he : exec .mx vs H = some (r, H')) (hv : VRelL m H vs (xs.map ρ)) (hr : Rel m H w) : Good P m H w (execOp ρ o) r H' := by
  obtain ⟨cs, hex⟩ := exec_builtin e ρ
  rw [hex]
  simp only [exec] at he
  split at he
  · rename_i k a l
    cases hl : mxI k a l with
    | none => rw [hl] at he; cases he
    | some q =>
      rw [hl] at he; simp at he; obtain ⟨rfl, rfl⟩ := he
      obtain ⟨y, ys, hy, h1, h2⟩ := hv.cons
      rw [h1.int_inv] at hy
      obtain ⟨x, hx1, hx2⟩ := run_maxs (P := P) (w := w) l a _ ys hl h2
      refine Good.pure hr (x := x) ?_ hx2
      simp only [builtin, Builtin.max_, Array.toList_map, hx, hy, Sem.run_bind, hx1, Result.andThen_ok, Sem.run_pure]
  · cases he

/-! ### Slices of slices, strings, arrays -/
theorem run_sliceBound {v : V} {n y : Nat} {x : Value} {code : BoundsCode} (h : natV v = some n) (hv : VRel m H v x) (hle : n ≤ y) : (Instr.sliceBound x y code).run P w = .ok n w := by
  cases v <;> simp only [natV] at h <;> try cases h
  split at h
  · cases h
    rename_i k i hi
    rw [hv.int_inv]
    simp only [Instr.sliceBound, Sem.run_bind, run_asIntOf, Result.andThen_ok]
    rw [if_pos ⟨hi, by omega⟩]
    simp
  · cases h

theorem run_bounds {isSlice : Bool} {len cap dm l h mm : Nat} {lo hi mx : Option Operand} {bs : List V} {ρ : Operand → Value}
    (hb : bounds3 lo.isSome hi.isSome mx.isSome len dm bs = some (l, h, mm)) (hv : VRelL m H bs ((lo.toList ++ hi.toList ++ mx.toList).map ρ))
    (h1 : l ≤ h) (h2 : h ≤ mm) (h3 : mm ≤ dm) (hd : dm ≤ cap) (hlen : len ≤ cap) (hmx : mx.isSome = false → hi.isSome = true → h ≤ dm) :
    (Instr.sliceBounds isSlice len cap (lo.map ρ) (hi.map ρ) (mx.map ρ)).run P w = .ok (l, h, if mx.isSome then mm else cap) w := by
  cases lo with
  | none =>
    cases hi with
    | none =>
      cases mx with
      | none =>
        cases bs with
        | nil => simp [bounds3] at hb; obtain ⟨rfl, rfl, rfl⟩ := hb; simp [Instr.sliceBounds]
        | cons _ _ => simp [bounds3] at hb
      | some c => simp [bounds3] at hb
    | some b =>
      cases mx with
      | none =>
        match bs, hb, hv with
        | [u], hb, hv =>
          simp [bounds3] at hb
          obtain ⟨n, hn, rfl, rfl, rfl⟩ := hb
          obtain ⟨x, hx, hvx⟩ := hv.one
          simp at hx
          simp [Instr.sliceBounds, hx, run_sliceBound hn hvx (show n ≤ cap by omega)]
        | [], hb, _ => simp [bounds3] at hb
        | _ :: _ :: _, hb, _ => simp [bounds3] at hb
      | some c =>
        match bs, hb, hv with
        | [u, t], hb, hv =>
          simp only [bounds3, Option.isSome_none, Option.isSome_some] at hb
          split at hb
          · rename_i n k hn hk
            cases hb
            obtain ⟨x, y, hx, hvx, hvy⟩ := hv.two
            simp at hx
            simp [Instr.sliceBounds, hx.1, hx.2, run_sliceBound hn hvx (show h ≤ mm by omega), run_sliceBound hk hvy (show mm ≤ cap by omega)]
          · cases hb
        | [], hb, _ => simp [bounds3] at hb
        | [_], hb, _ => simp [bounds3] at hb
        | _ :: _ :: _ :: _, hb, _ => simp [bounds3] at hb
  | some a =>
    cases hi with
    | none =>
      cases mx with
      | none =>
        match bs, hb, hv with
        | [u], hb, hv =>
          simp [bounds3] at hb
          obtain ⟨n, hn, rfl, rfl, rfl⟩ := hb
          obtain ⟨x, hx, hvx⟩ := hv.one
          simp at hx
          simp [Instr.sliceBounds, hx, run_sliceBound hn hvx h1]
        | [], hb, _ => simp [bounds3] at hb
        | _ :: _ :: _, hb, _ => simp [bounds3] at hb
      | some c => simp [bounds3] at hb
    | some b =>
      cases mx with
      | none =>
        match bs, hb, hv with
        | [u, t], hb, hv =>
          simp only [bounds3, Option.isSome_none, Option.isSome_some] at hb
          split at hb
          · rename_i n k hn hk
            cases hb
            obtain ⟨x, y, hx, hvx, hvy⟩ := hv.two
            simp at hx
            simp [Instr.sliceBounds, hx.1, hx.2, run_sliceBound hn hvx h1, run_sliceBound hk hvy (show h ≤ cap by omega)]
          · cases hb
        | [], hb, _ => simp [bounds3] at hb
        | [_], hb, _ => simp [bounds3] at hb
        | _ :: _ :: _ :: _, hb, _ => simp [bounds3] at hb
      | some c =>
        match bs, hb, hv with
        | [u, t, s], hb, hv =>
          simp only [bounds3, Option.isSome_some] at hb
          split at hb
          · rename_i n k j hn hk hj
            cases hb
            obtain ⟨x, y, z, hx, hvx, hvy, hvz⟩ := hv.three
            simp at hx
            simp [Instr.sliceBounds, hx.1, hx.2.1, hx.2.2, run_sliceBound hn hvx h1, run_sliceBound hk hvy h2, run_sliceBound hj hvz (show mm ≤ cap by omega)]
          · cases hb
        | [], hb, _ => simp [bounds3] at hb
        | [_], hb, _ => simp [bounds3] at hb
        | [_, _], hb, _ => simp [bounds3] at hb
        | _ :: _ :: _ :: _ :: _, hb, _ => simp [bounds3] at hb
end
end Go.Proofs.YtkmaikggdbielaaGreatDoor.Fw
