/- The framework, part O: regions, statements and functions over abstract values and heaps, and what they say of the model. No condition. -/
import Derived.Test.YtkmaikggdbielaaGreatDoorN
import Derived.Scope
import Derived.Orders
namespace Go.Proofs.YtkmaikggdbielaaGreatDoor.Fw
open Go
set_option linter.unusedSimpArgs false
set_option linter.unusedVariables false

inductive AOp where
  | ex (k : AK) (xs : List X)
  | fbits (f : FuncId) (x : X)
  | ffrom (f : FuncId) (x : X)
  | callf (f : FuncId) (xs : List X)
  | callv (x : X) (xs : List X)
  | bad
  deriving Inhabited
structure AOper where
  dst : Option Nat
  g : Option (Nat × Bool)
  a : AOp
  deriving Inhabited
def opdL : List Operand → Option (List X)
  | [] => some []
  | o :: os => match opd o, opdL os with
    | some x, some xs => some (x :: xs)
    | _, _ => none

def compExt (P : Program) (f : FuncId) (args : List Operand) : AOp :=
  match P.funcs[f]?, args with
  | some fn, [x] => match opd x with
    | some x =>
      if fn.name = "math.Float64bits" ∧ (Extern.findNext fn).isNone = true ∧ fn.body.isNone = true then .fbits f x
      else if fn.name = "math.Float64frombits" ∧ (Extern.findNext fn).isNone = true ∧ fn.body.isNone = true then .ffrom f x
      else .bad
    | none => .bad
  | _, _ => .bad
def hasBody (P : Program) (f : FuncId) : Bool := match P.funcs[f]? with
  | some fn => fn.body.isSome && fn.name != "runtime.NumGoroutine"
  | none => false
def compA (P : Program) (op : Op) : AOp :=
  match op with
  | .call { callee := .value (.func f), args, .. } =>
    if hasBody P f then match opdL args.toList with
      | some xs => .callf f xs
      | none => .bad
    else compExt P f args.toList
  | .call { callee := .value x, args, .. } => match opd x, opdL args.toList with
    | some x, some xs => .callv x xs
    | _, _ => .bad
  | op => match compOp P op with
    | some (k, os) => match opdL os with
      | some xs => .ex k xs
      | none => .bad
    | none => .bad
def compOper (P : Program) (N : Nat) (ops : Array Oper) (o : Oper) : Option AOper :=
  let d : Option (Option Nat) := match o.dst with
    | none => some none
    | some d => if d < N then some (some d) else none
  let g : Option (Option (Nat × Bool)) := match o.guard with
    | none => some none
    | some (j, b) => match (ops[j]?).bind (·.dst) with
      | some t => some (some (t, b))
      | none => none
  match d, g with
  | some d, some g => some ⟨d, g, compA P o.op⟩
  | _, _ => none
def compOpers (P : Program) (N : Nat) (ops : Array Oper) : List Oper → Option (List AOper)
  | [] => some []
  | o :: os => match compOper P N ops o, compOpers P N ops os with
    | some a, some l => some (a :: l)
    | _, _ => none
def Fr.put (fr : Fr) (d : Option Nat) (v : V) : Fr := match d with
  | some d => (d, v) :: fr
  | none => fr
def guardA (fr : Fr) : Option (Nat × Bool) → Option Bool
  | none => some true
  | some (t, b) => match fr.get t with
    | some (.bool c) => some (c == b)
    | some (.tup []) => some false
    | _ => none

section
variable (SC : FuncId → List V → Heap → (V → Heap → Prop) → Prop)

def stepA (o : AOper) (fr : Fr) (H : Heap) (K : Fr → Heap → Prop) : Prop :=
  match guardA fr o.g with
  | none => False
  | some false => K (fr.put o.dst .undef) H
  | some true =>
    match o.a with
    | .ex k xs => match evL fr H xs with
      | some vs => match exec k vs H with
        | some (r, H') => K (fr.put o.dst r) H'
        | none => False
      | none => False
    | .fbits _ x => match x.ev fr H with
      | some (.float .f64 b) => K (fr.put o.dst (.int .u64 b)) H
      | _ => False
    | .ffrom _ x => match x.ev fr H with
      | some (.int .u64 n) => K (fr.put o.dst (.float .f64 n.toNat)) H
      | _ => False
    | .callf f xs => match evL fr H xs with
      | some vs => SC f vs H fun r H' => K (fr.put o.dst r) H'
      | none => False
    | .callv x xs => match x.ev fr H, evL fr H xs with
      | some (.fn (.func f) first caps), some vs => SC f (first ++ vs ++ caps) H fun r H' => K (fr.put o.dst r) H'
      | _, _ => False
    | .bad => False
def wpA : List AOper → Fr → Heap → (Fr → Heap → Prop) → Prop
  | [], fr, H, K => K fr H
  | o :: l, fr, H, K => stepA SC o fr H fun fr H => wpA l fr H K
end

def FrSub (fr' fr : Fr) : Prop := ∀ t v, fr'.get t = some v → fr.get t = some v

/-! ### What these say of the model -/
structure FRel (N : Nat) (m : Nat → Pl) (H : Heap) (fr : Fr) (a : Act) : Prop where
  defers : a.defers = []
  size : a.tmps.size = N
  slot : ∀ t v, fr.get t = some v → ∃ x, a.tmps[t]? = some x ∧ VRel m H v x

def FnOk (P : Program) (f : FuncId) : Prop := ∃ fn, P.funcs[f]? = some fn ∧ fn.body.isNone = false ∧ fn.name ≠ "runtime.NumGoroutine"

/-- A call over abstract values: whatever world the heap stands for, the model's call returns, and what stands behind it is as R says. -/
def SCalls (P : Program) (f : FuncId) (vs : List V) (H : Heap) (R : V → Heap → Prop) : Prop :=
  FnOk P f ∧ ∀ (m : Nat → Pl) (w : World) (xs : List Value), Rel m H w → VRelL m H vs xs →
    Calls P f xs.toArray w fun e w' => ∃ r H' m' x, e = .returned x ∧ R r H' ∧ VRel m' H' r x ∧ Rel m' H' w' ∧ Ev m H w m' H' w'

section
variable {P : Program} {N : Nat} {m m' : Nat → Pl} {H H' : Heap} {w w' : World} {fr : Fr} {a : Act}

theorem FRel.mono (h : Keeps m H m' H') (k : FRel N m H fr a) : FRel N m' H' fr a :=
  ⟨k.defers, k.size, fun t v ht => let ⟨x, hx, hr⟩ := k.slot t v ht; ⟨x, hx, hr.mono h _ _⟩⟩
theorem FRel.sub {fr' : Fr} (h : FrSub fr' fr) (k : FRel N m H fr a) : FRel N m H fr' a := ⟨k.defers, k.size, fun t v ht => k.slot t v (h t v ht)⟩
theorem FRel.put (k : FRel N m H fr a) {d : Option Nat} (hd : ∀ t, d = some t → t < N) {v : V} {x : Value} (h : VRel m H v x) : FRel N m H (fr.put d v) (a.put d x) := by
  cases d with
  | none => exact k
  | some d =>
    have hdn := hd d rfl
    refine ⟨k.defers, by simp [Act.put, k.size], fun t u ht => ?_⟩
    simp only [Fr.put, Fr.get] at ht
    simp only [Act.put]
    rw [Array.getElem?_setIfInBounds]
    split at ht
    · rename_i e; subst e; cases ht
      rw [if_pos rfl, if_pos (by rw [k.size]; exact hdn)]
      exact ⟨x, rfl, h⟩
    · rename_i e
      rw [if_neg e]
      exact k.slot t u ht

theorem ev_opd {o : Operand} {x : X} (h : opd o = some x) {v : V} (hv : x.ev fr H = some v) (k : FRel N m H fr a) (hr : Rel m H w) : VRel m H v (a.eval o) := by
  cases o with
  | tmp t =>
    simp only [opd, Option.some.injEq] at h
    subst h
    obtain ⟨y, hy, hvy⟩ := k.slot t v hv
    have : a.eval (.tmp t) = y := by simp [Act.eval, Array.getD_eq_getD_getElem?, hy]
    rw [this]; exact hvy
  | const c =>
    simp only [opd] at h
    obtain ⟨u, h1, h2⟩ := map_some_eq h
    subst h2
    simp only [X.ev, Option.some.injEq] at hv
    subst hv
    exact absV_rel h1
  | global g =>
    simp only [opd, Option.some.injEq] at h
    subst h
    simp only [X.ev] at hv
    split at hv
    · rename_i hg
      cases hv
      obtain ⟨h1, h2⟩ := hr.glob g hg
      refine .mk_ptr ⟨h1, fun hn => ?_⟩
      obtain ⟨e1, e2⟩ := h2 hn
      rw [e1, e2]
    · cases hv
  | func f =>
    simp only [opd, Option.some.injEq] at h
    subst h
    simp only [X.ev, Option.some.injEq] at hv
    subst hv
    simp only [VRel, Act.eval]
    exact ⟨#[], #[], rfl, .mk_nil, .mk_nil⟩

theorem ev_opdL : ∀ {os : List Operand} {xs : List X} (_ : opdL os = some xs) {vs : List V} (_ : evL fr H xs = some vs), FRel N m H fr a → Rel m H w → VRelL m H vs (os.map a.eval)
  | [], xs, h, vs, hv, k, hr => by
    simp [opdL] at h
    subst h
    simp [evL] at hv
    subst hv
    exact .mk_nil
  | o :: os, xs, h, vs, hv, k, hr => by
    simp only [opdL] at h
    split at h
    · rename_i x xs' h1 h2
      cases h
      simp only [evL] at hv
      split at hv
      · rename_i v vs' g1 g2
        cases hv
        exact .mk_cons (ev_opd h1 g1 k hr) (ev_opdL h2 g2 k hr)
      · cases hv
    · cases h

theorem guard_ok {ops : Array Oper} {o : Oper} {g : Option (Nat × Bool)} (hg : (match o.guard with
    | none => some none
    | some (j, b) => match (ops[j]?).bind (·.dst) with
      | some t => some (some (t, b))
      | none => none) = some g) {b : Bool} (h : guardA fr g = some b) (k : FRel N m H fr a) : Region.wanted o (yielded ops a.tmps) = b := by
  unfold Region.wanted
  cases hgd : o.guard with
  | none =>
    rw [hgd] at hg
    simp at hg
    subst hg
    simpa [guardA] using h
  | some p =>
    obtain ⟨j, want⟩ := p
    rw [hgd] at hg
    simp only at hg
    cases ht : (ops[j]?).bind (·.dst) with
    | none => rw [ht] at hg; cases hg
    | some t =>
      rw [ht] at hg
      cases hg
      simp only [guardA] at h
      split at h
      · rename_i c hc
        cases h
        obtain ⟨x, hx, hv⟩ := k.slot t _ hc
        rw [hv.bool_inv] at hx
        simp only [yielded, ht, Option.bind_some, hx]
        cases c <;> cases want <;> rfl
      · rename_i hc
        cases h
        obtain ⟨x, hx, hv⟩ := k.slot t _ hc
        obtain ⟨cs, rfl, hcs⟩ := hv.tup_inv
        simp only [yielded, ht, Option.bind_some, hx]
        rfl
      · cases h

/-- The end of a region or a statement, as the model sees it. -/
def Post (N : Nat) (Q : Exit → Fr → Heap → Prop) (m : Nat → Pl) (H : Heap) (w : World) : Exit → Act → World → Prop :=
  fun e a' w' => ∃ fr' H' m', Q e fr' H' ∧ Rel m' H' w' ∧ FRel N m' H' fr' a' ∧ Ev m H w m' H' w'

theorem Post.later {Q : Exit → Fr → Heap → Prop} (h : Ev m H w m' H' w') {e : Exit} {a' : Act} {w'' : World} (k : Post N Q m' H' w' e a' w'') : Post N Q m H w e a' w'' := by
  obtain ⟨fr2, H2, m2, q, r, f, v⟩ := k
  exact ⟨fr2, H2, m2, q, r, f, h.trans v⟩

theorem find_bits {fn : Func} (h : fn.name = "math.Float64bits") : Extern.find fn = some Extern.MathFloatBits.float64bits := by
  unfold Extern.find
  simp only [h]
  rw [show Extern.allGenericRows.lookup "math.Float64bits" = none by kernel_rfl, show Extern.allTypedRows.lookup "math.Float64bits" = none by kernel_rfl,
    show Extern.allRows.lookup "math.Float64bits" = some Extern.MathFloatBits.float64bits by kernel_rfl]
  rfl
theorem find_frombits {fn : Func} (h : fn.name = "math.Float64frombits") : Extern.find fn = some Extern.MathFloatBits.float64frombits := by
  unfold Extern.find
  simp only [h]
  rw [show Extern.allGenericRows.lookup "math.Float64frombits" = none by kernel_rfl, show Extern.allTypedRows.lookup "math.Float64frombits" = none by kernel_rfl,
    show Extern.allRows.lookup "math.Float64frombits" = some Extern.MathFloatBits.float64frombits by kernel_rfl]
  rfl

theorem run_callFunc_body {f : FuncId} (h : FnOk P f) (args : Array Value) : (callFunc f args).run P w = .ok (.enter f args) w := by
  obtain ⟨fn, h1, h2, h3⟩ := h
  unfold callFunc
  simp only [Sem.run_bind, run_program, Result.andThen_ok, h1]
  have : (fn.name == "runtime.NumGoroutine") = false := by simpa using h3
  simp only [this, Bool.false_eq_true, if_false, h2, Sem.run_pure]

theorem run_callFunc_ext {f : FuncId} {fn : Func} (h1 : P.funcs[f]? = some fn) (h2 : (Extern.findNext fn).isNone = true) (h3 : fn.body.isNone = true) (hn : fn.name ≠ "runtime.NumGoroutine") {e : Array Value → Sem Value} (he : Extern.find fn = some e)
    {args : Array Value} {x : Value} (hx : (e args).run P w = .ok x w) : (callFunc f args).run P w = .ok (.value x) w := by
  unfold callFunc
  have h2' : Extern.findNext fn = none := by simpa using h2
  have : (fn.name == "runtime.NumGoroutine") = false := by simpa using hn
  simp only [Sem.run_bind, run_program, Result.andThen_ok, h1, this, Bool.false_eq_true, if_false, h3, if_true, run_mark, h2', he]
  simp [hx]

theorem stepA_sound {SC : FuncId → List V → Heap → (V → Heap → Prop) → Prop} (hSC : ∀ f vs H R, SC f vs H R → SCalls P f vs H R) (ops : Array Oper) {k : Nat} {o : Oper} (hko : ops[k]? = some o) {ao : AOper}
    (hc1 : compOper P N ops o = some ao) {K : Fr → Heap → Prop} (h : stepA SC ao fr H K) (hr : Rel m H w) (hf : FRel N m H fr a) {Q : Exit → Act → World → Prop} {K' : Act → World → Prop}
    (IH : ∀ fr' H' m' w' a', K fr' H' → Rel m' H' w' → FRel N m' H' fr' a' → Ev m H w m' H' w' → K' a' w') : wpOp P ops Q k K' a w := by
  -- what compOper says
  unfold compOper at hc1
  simp only at hc1
  split at hc1
  · rename_i d g hd hg
    cases hc1
    have hdN : ∀ t, d = some t → t < N := by
      intro t ht
      cases hod : o.dst with
      | none => rw [hod] at hd; cases hd; cases ht
      | some d0 =>
        rw [hod] at hd
        simp only at hd
        split at hd
        · cases hd; cases ht; assumption
        · cases hd
    have hdd : o.dst = d := by
      cases hod : o.dst with
      | none => rw [hod] at hd; cases hd; rfl
      | some d0 =>
        rw [hod] at hd
        simp only at hd
        split at hd
        · cases hd; rfl
        · cases hd
    unfold wpOp
    rw [hko]
    unfold stepA at h
    simp only at h ⊢
    cases hgd : guardA fr g with
    | none => rw [hgd] at h; exact h.elim
    | some b =>
      have hwant := guard_ok hg hgd hf
      rw [hgd] at h
      rw [hwant]
      cases b with
      | false =>
        simp only [Bool.false_eq_true, if_false]
        rw [hdd]
        simp only at h
        exact IH _ _ m w _ h hr (hf.put hdN .mk_undef) (Ev.refl hr)
      | true =>
        simp only [if_true]
        simp only at h
        left
        -- the operation is carried out
        have done : ∀ (r : V) (H1 : Heap), Good P m H w (execOp a.eval o) r H1 → K (fr.put d r) H1 → o.wp P a w K' Q := by
          intro r H1 hgood hw1
          obtain ⟨m1, w1, x, hrun, hvx, hr1, hev⟩ := hgood
          have hput := (hf.mono hev.keeps).put hdN hvx
          have fin := IH _ _ m1 w1 _ hw1 hr1 hput hev
          unfold Oper.wp
          rcases hrun with hrun | ⟨hrun, rfl⟩
          · rw [hrun]; simp only [Oper.upon]; rw [hdd]; exact fin
          · rw [hrun]; simp only [Oper.upon]; rw [hdd]; exact fin
        have call : ∀ (f : FuncId) (vs : List V) (ys : List Value), VRelL m H vs ys → (execOp a.eval o).run P w = .ok (.enter f ys.toArray) w →
            (SC f vs H fun r H' => K (fr.put d r) H') → o.wp P a w K' Q := by
          intro f vs ys hv hrun hs
          unfold Oper.wp
          rw [hrun]
          simp only [Oper.upon]
          refine ((hSC _ _ _ _ hs).2 m w ys hr hv).mono fun e w1 he => ?_
          obtain ⟨r, H1, m1, x, rfl, hR, hvx, hr1, hev⟩ := he
          have hput := (hf.mono hev.keeps).put hdN hvx
          simp only
          rw [hdd]
          exact IH _ _ m1 w1 _ hR hr1 hput hev
        have plain : ∀ (kk : AK) (xs : List X) (os' : List Operand), compOp P o.op = some (kk, os') → opdL os' = some xs →
            (match evL fr H xs with
              | some vs => match exec kk vs H with
                | some (r, H') => K (fr.put d r) H'
                | none => False
              | none => False) → o.wp P a w K' Q := by
          intro kk xs os' h1 h2 h
          cases hev : evL fr H xs with
          | none => rw [hev] at h; exact h.elim
          | some vs =>
            rw [hev] at h
            simp only at h
            cases hex : exec kk vs H with
            | none => rw [hex] at h; exact h.elim
            | some p =>
              obtain ⟨r, H1⟩ := p
              rw [hex] at h
              exact done r H1 (exec_sound h1 hex (ev_opdL h2 hev hf hr) hr) h
        have other : (match compOp P o.op with
            | some (k, os) => match opdL os with
              | some xs => AOp.ex k xs
              | none => .bad
            | none => .bad) = compA P o.op → o.wp P a w K' Q := by
          intro he
          rw [← he] at h
          cases hcp : compOp P o.op with
          | none => rw [hcp] at h; exact h.elim
          | some p =>
            obtain ⟨kk, os'⟩ := p
            rw [hcp] at h
            simp only at h
            cases hxs : opdL os' with
            | none => rw [hxs] at h; exact h.elim
            | some xs =>
              rw [hxs] at h
              exact plain kk xs os' hcp hxs h
        generalize hop : o.op = op at h other
        cases op with
        | call c =>
          obtain ⟨callee, args, ats⟩ := c
          cases callee with
          | builtin b => exact other rfl
          | invoke rv mm => exact other rfl
          | value fx =>
            have hres : ∀ fv first caps, a.eval fx = .func (.func fv) first caps → execOp a.eval o = callFunc fv (first ++ args.map a.eval ++ caps) := by
              intro fv first caps hfx
              simp only [execOp, hop, resolve, hfx, Deferred.ofValue]
              rfl
            cases fx with
            | func f =>
              have hcf : execOp a.eval o = callFunc f (args.map a.eval) := by
                have := hres f #[] #[] rfl
                simpa using this
              by_cases hb : hasBody P f = true
              · simp only [compA, hb, if_true] at h
                cases hxs : opdL args.toList with
                | none => rw [hxs] at h; exact h.elim
                | some xs =>
                  rw [hxs] at h
                  simp only at h
                  cases hev : evL fr H xs with
                  | none => rw [hev] at h; exact h.elim
                  | some vs =>
                    rw [hev] at h
                    simp only at h
                    refine call f vs (args.toList.map a.eval) (ev_opdL hxs hev hf hr) ?_ h
                    rw [hcf, run_callFunc_body (hSC _ _ _ _ h).1]
                    congr 2
                    apply Array.ext'
                    simp
              · simp only [compA, hb, if_false, Bool.false_eq_true] at h
                generalize hce : compExt P f args.toList = ce at h
                unfold compExt at hce
                split at hce
                · rename_i fn x hfn hargs
                  obtain rfl : args = #[x] := by apply Array.ext'; simpa using hargs
                  split at hce
                  · rename_i xx hxx
                    split at hce
                    · rename_i hc
                      subst hce
                      simp only at h
                      split at h
                      · rename_i b hb'
                        refine done _ _ (Good.pure hr (x := .int .u64 b) ?_ (.mk_int _ _)) h
                        have hv := ev_opd hxx hb' hf hr
                        rw [hcf]
                        refine run_callFunc_ext hfn hc.2.1 hc.2.2 (by rw [hc.1]; decide) (find_bits hc.1) ?_
                        rw [show Array.map a.eval #[x] = #[Value.float .f64 b] by simp [hv.float_inv]]
                        rfl
                      · exact h.elim
                    · split at hce
                      · rename_i hc
                        subst hce
                        simp only at h
                        split at h
                        · rename_i n hb'
                          refine done _ _ (Good.pure hr (x := .float .f64 n.toNat) ?_ (by simp only [VRel])) h
                          have hv := ev_opd hxx hb' hf hr
                          rw [hcf]
                          refine run_callFunc_ext hfn hc.2.1 hc.2.2 (by rw [hc.1]; decide) (find_frombits hc.1) ?_
                          rw [show Array.map a.eval #[x] = #[Value.int .u64 n] by simp [hv.int_inv]]
                          rfl
                        · exact h.elim
                      · subst hce; exact h.elim
                  · subst hce; exact h.elim
                · subst hce; exact h.elim
            | tmp t =>
              simp only [compA] at h
              generalize hce : (match opd (.tmp t), opdL args.toList with
                | some x, some xs => AOp.callv x xs
                | _, _ => .bad) = ce at h
              split at hce
              · rename_i x xs hx hxs
                subst hce
                simp only at h
                split at h
                · rename_i f first caps vs hxv hev
                  have hv := ev_opd hx hxv hf hr
                  have hv' := hv
                  simp only [VRel] at hv
                  obtain ⟨first', caps', hfe, hf1, hf2⟩ := hv
                  have hcf := hres f first' caps' hfe
                  refine call f _ (first'.toList ++ args.toList.map a.eval ++ caps'.toList) ((hf1.append (ev_opdL hxs hev hf hr)).append hf2) ?_ h
                  rw [hcf, run_callFunc_body (hSC _ _ _ _ h).1]
                  congr 2
                  apply Array.ext'
                  simp
                · exact h.elim
              · subst hce; exact h.elim
            | const c =>
              simp only [compA] at h
              generalize hce : (match opd (.const c), opdL args.toList with
                | some x, some xs => AOp.callv x xs
                | _, _ => .bad) = ce at h
              split at hce
              · rename_i x xs hx hxs
                subst hce
                simp only at h
                split at h
                · rename_i f first caps vs hxv hev
                  have hv := ev_opd hx hxv hf hr
                  simp only [VRel] at hv
                  obtain ⟨first', caps', hfe, hf1, hf2⟩ := hv
                  have hcf := hres f first' caps' hfe
                  refine call f _ (first'.toList ++ args.toList.map a.eval ++ caps'.toList) ((hf1.append (ev_opdL hxs hev hf hr)).append hf2) ?_ h
                  rw [hcf, run_callFunc_body (hSC _ _ _ _ h).1]
                  congr 2
                  apply Array.ext'
                  simp
                · exact h.elim
              · subst hce; exact h.elim
            | global g =>
              simp only [compA] at h
              generalize hce : (match opd (.global g), opdL args.toList with
                | some x, some xs => AOp.callv x xs
                | _, _ => .bad) = ce at h
              split at hce
              · rename_i x xs hx hxs
                subst hce
                simp only at h
                split at h
                · rename_i f first caps vs hxv hev
                  have hv := ev_opd hx hxv hf hr
                  simp only [VRel] at hv
                  obtain ⟨first', caps', hfe, hf1, hf2⟩ := hv
                  have hcf := hres f first' caps' hfe
                  refine call f _ (first'.toList ++ args.toList.map a.eval ++ caps'.toList) ((hf1.append (ev_opdL hxs hev hf hr)).append hf2) ?_ h
                  rw [hcf, run_callFunc_body (hSC _ _ _ _ h).1]
                  congr 2
                  apply Array.ext'
                  simp
                · exact h.elim
              · subst hce; exact h.elim
        | _ => exact other rfl
  · cases hc1

theorem wpA_sound {SC : FuncId → List V → Heap → (V → Heap → Prop) → Prop} (hSC : ∀ f vs H R, SC f vs H R → SCalls P f vs H R) (ops : Array Oper) :
    ∀ (os : List Oper) (l : List AOper) (k : Nat), os = ops.toList.drop k → compOpers P N ops os = some l →
    ∀ (fr : Fr) (H : Heap) (K : Fr → Heap → Prop) (m : Nat → Pl) (w : World) (a : Act), wpA SC l fr H K → Rel m H w → FRel N m H fr a →
    ∀ (Q : Exit → Act → World → Prop), (∀ a' w', Post N (fun _ => K) m H w .normal a' w' → Q .normal a' w') → wpOps P ops Q (List.range' k os.length) a w
  | [], l, k, hos, hc, fr, H, K, m, w, a, h, hr, hf, Q, hQ => by
    simp [compOpers] at hc
    subst hc
    simp only [wpA] at h
    exact hQ _ _ ⟨fr, H, m, h, hr, hf, Ev.refl hr⟩
  | o :: os, l, k, hos, hc, fr, H, K, m, w, a, h, hr, hf, Q, hQ => by
    have hko : ops[k]? = some o := by
      have : ops.toList[k]? = some o := by rw [← List.head?_drop, ← hos]; rfl
      simpa using this
    have hos' : os = ops.toList.drop (k + 1) := by
      rw [← List.tail_drop, ← hos]; rfl
    simp only [compOpers] at hc
    split at hc
    · rename_i ao al hc1 hc2
      cases hc
      simp only [wpA] at h
      simp only [List.length_cons, List.range'_succ]
      rw [wpOps_cons]
      refine stepA_sound hSC ops hko hc1 h hr hf fun fr' H' m' w' a' hK hr' hf' hev => ?_
      exact wpA_sound hSC ops os al (k + 1) hos' hc2 fr' H' K m' w' a' hK hr' hf' Q fun a2 w2 hp => hQ a2 w2 (hp.later hev)
    · cases hc
end
end Go.Proofs.YtkmaikggdbielaaGreatDoor.Fw
