/- The framework, part P: a statement's predicate over abstract values is sound for the model, and a function's call. No condition. -/
import Derived.Test.YtkmaikggdbielaaGreatDoorQ
import Derived.Laws.Sem
namespace Go.Proofs.YtkmaikggdbielaaGreatDoor.Fw
open Go
set_option linter.unusedSimpArgs false
set_option linter.unusedVariables false

inductive ACode where
  | skip
  | region (ops : List AOper)
  | draw (t : DT)
  | seq (a b : ACode)
  | cond (x : X) (a b : ACode)
  | block (id : Nat) (a : ACode)
  | loop (a : ACode)
  | exit (id : Nat)
  | scope (a : ACode)
  | ret
  | bad
  deriving Inhabited

def compCode (P : Program) (N : Nat) : Code → Option ACode
  | .skip => some .skip
  | .label _ => some .skip
  | .region _ ops false => (compOpers P N ops ops.toList).map .region
  | .region _ ops true => if P.follows .mixedOrders = true then match compOpers P N ops ops.toList with
      | some al => (plan ops al ops.size (Array.replicate ops.size false)).map .draw
      | none => none
    else none
  | .seq a b => match compCode P N a, compCode P N b with
    | some a, some b => some (.seq a b)
    | _, _ => none
  | .cond c a b => match opd c, compCode P N a, compCode P N b with
    | some x, some a, some b => some (.cond x a b)
    | _, _, _ => none
  | .block id a => (compCode P N a).map (.block id)
  | .loop a => (compCode P N a).map .loop
  | .exit id => some (.exit id)
  | .scope a => (compCode P N a).map .scope
  | .ret => some .ret
  | .refuse _ => some .bad
  | _ => none

section
variable (SC : FuncId → List V → Heap → (V → Heap → Prop) → Prop)
/-- A loop: an invariant that counts down. -/
def wpLoop (body : Fr → Heap → (Exit → Fr → Heap → Prop) → Prop) (fr : Fr) (H : Heap) (Q : Exit → Fr → Heap → Prop) : Prop :=
  ∃ (I : Nat → Fr → Heap → Prop) (k : Nat), I k fr H ∧ ∀ k fr H, I k fr H → ∃ fr', FrSub fr' fr ∧ body fr' H fun e fr2 H2 => match e with
    | .normal => ∃ k', k' < k ∧ I k' fr2 H2
    | e => Q e fr2 H2

def wpC : ACode → Fr → Heap → (Exit → Fr → Heap → Prop) → Prop
  | .skip, fr, H, Q => Q .normal fr H
  | .region ops, fr, H, Q => wpA SC ops fr H (Q .normal)
  | .draw t, fr, H, Q => wpT SC t fr H (Q .normal)
  | .seq a b, fr, H, Q => wpC a fr H fun e fr H => match e with
    | .normal => wpC b fr H Q
    | e => Q e fr H
  | .cond x a b, fr, H, Q => match x.ev fr H with
    | some (.bool true) => wpC a fr H Q
    | some (.bool false) => wpC b fr H Q
    | _ => False
  | .block id a, fr, H, Q => wpC a fr H fun e fr H => match e with
    | .exit i => if i = id then Q .normal fr H else Q (.exit i) fr H
    | e => Q e fr H
  | .loop a, fr, H, Q => wpLoop (wpC a) fr H Q
  | .exit id, fr, H, Q => Q (.exit id) fr H
  | .scope a, fr, H, Q => wpC a fr H fun e fr H => match e with
    | .goto _ => False
    | e => Q e fr H
  | .ret, fr, H, Q => Q .ret fr H
  | .bad, _, _, _ => False
end

inductive ARes where
  | t (i : Nat)
  | c (i : Nat)
  | ca (i n : Nat)
  deriving Inhabited
def resOne (fr : Fr) (H : Heap) : ARes → Option V
  | .t i => fr.get i
  | .c i => match fr.get i with
    | some (.ptr id off) => match H.get id with
      | some (.row _ _ cells) => cells[off]?
      | _ => none
    | _ => none
  | .ca i n => match fr.get i with
    | some (.ptr id off) => match H.get id with
      | some (.row _ _ cells) => if off + n ≤ cells.length then some (.agg ((cells.drop off).take n)) else none
      | _ => none
    | _ => none
def resAll (fr : Fr) (H : Heap) : List ARes → Option (List V)
  | [] => some []
  | r :: rs => match resOne fr H r, resAll fr H rs with
    | some v, some vs => some (v :: vs)
    | _, _ => none
def resV : List V → V
  | [v] => v
  | vs => .tup vs
def compRes (P : Program) : List ResultVar → Option (List ARes)
  | [] => some []
  | .tmp t :: rs => (compRes P rs).map (.t t :: ·)
  | .cell a t :: rs => match isAggT P t, sizeA P t, compRes P rs with
    | some false, _, some l => some (.c a :: l)
    | some true, some n, some l => some (.ca a n :: l)
    | _, _, _ => none

/-- A function's abstract code. -/
structure AFn where
  n : Nat
  body : ACode
  res : List ARes
  deriving Inhabited
def compFn (P : Program) (f : FuncId) : Option AFn := match P.funcs[f]? with
  | some fn => match fn.body with
    | some c => match compCode P fn.ntmps c, compRes P fn.results.toList with
      | some b, some r => if fn.name = "runtime.NumGoroutine" then none else some ⟨fn.ntmps, b, r⟩
      | _, _ => none
    | none => none
  | none => none
def enterFr (vs : List V) : Fr := (List.range vs.length).zip vs

section
variable {P : Program} {N : Nat} {m m' : Nat → Pl} {H H' : Heap} {w w' : World} {fr : Fr} {a : Act}

theorem wpLoop_key {Q : Exit → Fr → Heap → Prop} {c : Code} {body : Fr → Heap → (Exit → Fr → Heap → Prop) → Prop} {I : Nat → Fr → Heap → Prop}
    (hb : ∀ fr H Q m w a, body fr H Q → Rel m H w → FRel N m H fr a → c.wp P (Post N Q m H w) a w)
    (hI : ∀ k fr H, I k fr H → ∃ fr', FrSub fr' fr ∧ body fr' H fun e fr2 H2 => match e with
      | .normal => ∃ k', k' < k ∧ I k' fr2 H2
      | e => Q e fr2 H2) :
    ∀ (n : Nat) (fr : Fr) (H : Heap) (m : Nat → Pl) (w : World) (a : Act), I n fr H → Rel m H w → FRel N m H fr a →
      ∀ (b : Frame) (k : List Item) (cs : List Frame), ∃ e a' w', Post N Q m H w e a' w' ∧ Arrives P (lone (b.at a (.code c :: .inLoop c :: k)) cs w) b k cs e a' w' := by
  intro n
  induction n using Nat.strongRecOn with
  | _ n ih =>
    intro fr H m w a h hr hf b k cs
    obtain ⟨fr', hs, h⟩ := hI n fr H h
    obtain ⟨e, a1, w1, ⟨fr1, H1, m1, hq, hr1, hf1, hev⟩, harr⟩ := hb _ _ _ _ _ _ h hr (hf.sub hs) b (.inLoop c :: k) cs
    have out : e ≠ .normal → Q e fr1 H1 → ∃ e a' w', Post N Q m H w e a' w' ∧ Arrives P (lone (b.at a (.code c :: .inLoop c :: k)) cs w) b k cs e a' w' := fun hne hq =>
      ⟨e, a1, w1, ⟨fr1, H1, m1, hq, hr1, hf1, hev⟩, .pass (x := .inLoop c) rfl (fun _ _ => .inl hne) harr⟩
    cases e with
    | normal =>
      obtain ⟨k', hk', hq⟩ := hq
      obtain ⟨e2, a2, w2, hp, harr2⟩ := ih k' hk' fr1 H1 m1 w1 a1 hq hr1 hf1 b k cs
      exact ⟨e2, a2, w2, hp.later hev, .of_steps (Steps.trans harr (.one step_inLoop)) harr2⟩
    | exit id => exact out (by simp) hq
    | goto id => exact out (by simp) hq
    | ret => exact out (by simp) hq
    | panic ch => exact out (by simp) hq
    | outgrown => exact out (by simp) hq

variable {SC : FuncId → List V → Heap → (V → Heap → Prop) → Prop}

theorem wpC_sound (hSC : ∀ f vs H R, SC f vs H R → SCalls P f vs H R) (hWf : SCWf SC) (hMono : SCMono SC) : ∀ (c : Code) (ac : ACode), compCode P N c = some ac →
    ∀ (fr : Fr) (H : Heap) (Q : Exit → Fr → Heap → Prop) (m : Nat → Pl) (w : World) (a : Act), wpC SC ac fr H Q → Rel m H w → FRel N m H fr a → c.wp P (Post N Q m H w) a w
  | .skip, ac, hc, fr, H, Q, m, w, a, h, hr, hf => by
    simp only [compCode, Option.some.injEq] at hc; subst hc
    simp only [wpC] at h
    exact wp_skip ⟨fr, H, m, h, hr, hf, Ev.refl hr⟩
  | .label l, ac, hc, fr, H, Q, m, w, a, h, hr, hf => by
    simp only [compCode, Option.some.injEq] at hc; subst hc
    simp only [wpC] at h
    exact wp_label ⟨fr, H, m, h, hr, hf, Ev.refl hr⟩
  | .region id ops false, ac, hc, fr, H, Q, m, w, a, h, hr, hf => by
    simp only [compCode] at hc
    cases hl : compOpers P N ops ops.toList with
    | none => rw [hl] at hc; cases hc
    | some l =>
      rw [hl] at hc; simp at hc; subst hc
      simp only [wpC] at h
      refine wp_region ?_
      have := wpA_sound hSC ops ops.toList l 0 rfl hl fr H (Q .normal) m w a h hr hf (Post N Q m H w) fun a' w' hp => hp
      rwa [← List.range_eq_range', Array.length_toList] at this
  | .region id ops true, ac, hc, fr, H, Q, m, w, a, h, hr, hf => by
    simp only [compCode] at hc
    split at hc
    · rename_i hm
      cases hl : compOpers P N ops ops.toList with
      | none => rw [hl] at hc; cases hc
      | some al =>
        rw [hl] at hc
        simp only at hc
        cases ht : plan ops al ops.size (Array.replicate ops.size false) with
        | none => rw [ht] at hc; cases hc
        | some t =>
          rw [ht] at hc; simp at hc; subst hc
          simp only [wpC] at h
          exact draw_sound hSC hWf hMono hm hl ht h hr hf
    · cases hc
  | .seq x y, ac, hc, fr, H, Q, m, w, a, h, hr, hf => by
    simp only [compCode] at hc
    cases hx : compCode P N x with
    | none => rw [hx] at hc; cases hc
    | some ax =>
      cases hy : compCode P N y with
      | none => rw [hx, hy] at hc; cases hc
      | some ay =>
        rw [hx, hy] at hc; cases hc
        simp only [wpC] at h
        refine wp_seq (wp_mono (wpC_sound hSC hWf hMono x ax hx _ _ _ _ _ _ h hr hf) fun e a' w' hp => ?_)
        obtain ⟨fr1, H1, m1, hq, hr1, hf1, hev⟩ := hp
        cases e with
        | normal => exact wp_mono (wpC_sound hSC hWf hMono y ay hy _ _ _ _ _ _ hq hr1 hf1) fun e a2 w2 hp => hp.later hev
        | exit id => exact ⟨fr1, H1, m1, hq, hr1, hf1, hev⟩
        | goto id => exact ⟨fr1, H1, m1, hq, hr1, hf1, hev⟩
        | ret => exact ⟨fr1, H1, m1, hq, hr1, hf1, hev⟩
        | panic ch => exact ⟨fr1, H1, m1, hq, hr1, hf1, hev⟩
        | outgrown => exact ⟨fr1, H1, m1, hq, hr1, hf1, hev⟩
  | .cond c x y, ac, hc, fr, H, Q, m, w, a, h, hr, hf => by
    simp only [compCode] at hc
    cases ho : opd c with
    | none => rw [ho] at hc; cases hc
    | some xc =>
      cases hx : compCode P N x with
      | none => rw [ho, hx] at hc; cases hc
      | some ax =>
        cases hy : compCode P N y with
        | none => rw [ho, hx, hy] at hc; cases hc
        | some ay =>
          rw [ho, hx, hy] at hc; cases hc
          simp only [wpC] at h
          split at h
          · rename_i hv
            exact wp_cond_true (ev_opd ho hv hf hr).bool_inv (wpC_sound hSC hWf hMono x ax hx _ _ _ _ _ _ h hr hf)
          · rename_i hv
            exact wp_cond_false (ev_opd ho hv hf hr).bool_inv (wpC_sound hSC hWf hMono y ay hy _ _ _ _ _ _ h hr hf)
          · exact h.elim
  | .block id x, ac, hc, fr, H, Q, m, w, a, h, hr, hf => by
    simp only [compCode] at hc
    cases hx : compCode P N x with
    | none => rw [hx] at hc; cases hc
    | some ax =>
      rw [hx] at hc; cases hc
      simp only [wpC] at h
      refine wp_block (wp_mono (wpC_sound hSC hWf hMono x ax hx _ _ _ _ _ _ h hr hf) fun e a' w' hp => ?_)
      obtain ⟨fr1, H1, m1, hq, hr1, hf1, hev⟩ := hp
      cases e with
      | exit i =>
        simp only [Exit.inBlock]
        simp only at hq
        split at hq
        · rename_i hi; rw [if_pos hi]; exact ⟨fr1, H1, m1, hq, hr1, hf1, hev⟩
        · rename_i hi; rw [if_neg hi]; exact ⟨fr1, H1, m1, hq, hr1, hf1, hev⟩
      | normal => exact ⟨fr1, H1, m1, hq, hr1, hf1, hev⟩
      | goto id => exact ⟨fr1, H1, m1, hq, hr1, hf1, hev⟩
      | ret => exact ⟨fr1, H1, m1, hq, hr1, hf1, hev⟩
      | panic ch => exact ⟨fr1, H1, m1, hq, hr1, hf1, hev⟩
      | outgrown => exact ⟨fr1, H1, m1, hq, hr1, hf1, hev⟩
  | .loop x, ac, hc, fr, H, Q, m, w, a, h, hr, hf => by
    simp only [compCode] at hc
    cases hx : compCode P N x with
    | none => rw [hx] at hc; cases hc
    | some ax =>
      rw [hx] at hc; cases hc
      simp only [wpC] at h
      obtain ⟨I, n, h0, hI⟩ := h
      intro b k cs
      obtain ⟨e, a', w', hq, harr⟩ := wpLoop_key (P := P) (N := N) (Q := Q) (c := x) (fun fr H Q m w a h hr hf => wpC_sound hSC hWf hMono x ax hx fr H Q m w a h hr hf) hI n fr H m w a h0 hr hf b k cs
      exact ⟨e, a', w', hq, .of_steps (.one step_loop) harr⟩
  | .exit id, ac, hc, fr, H, Q, m, w, a, h, hr, hf => by
    simp only [compCode, Option.some.injEq] at hc; subst hc
    simp only [wpC] at h
    exact wp_exit ⟨fr, H, m, h, hr, hf, Ev.refl hr⟩
  | .scope x, ac, hc, fr, H, Q, m, w, a, h, hr, hf => by
    simp only [compCode] at hc
    cases hx : compCode P N x with
    | none => rw [hx] at hc; cases hc
    | some ax =>
      rw [hx] at hc; cases hc
      simp only [wpC] at h
      refine wp_scope_straight (wp_mono (wpC_sound hSC hWf hMono x ax hx _ _ _ _ _ _ h hr hf) fun e a' w' hp => ?_)
      obtain ⟨fr1, H1, m1, hq, hr1, hf1, hev⟩ := hp
      cases e with
      | goto id => exact hq.elim
      | normal => exact ⟨fr1, H1, m1, hq, hr1, hf1, hev⟩
      | exit id => exact ⟨fr1, H1, m1, hq, hr1, hf1, hev⟩
      | ret => exact ⟨fr1, H1, m1, hq, hr1, hf1, hev⟩
      | panic ch => exact ⟨fr1, H1, m1, hq, hr1, hf1, hev⟩
      | outgrown => exact ⟨fr1, H1, m1, hq, hr1, hf1, hev⟩
  | .ret, ac, hc, fr, H, Q, m, w, a, h, hr, hf => by
    simp only [compCode, Option.some.injEq] at hc; subst hc
    simp only [wpC] at h
    exact wp_ret ⟨fr, H, m, h, hr, hf, Ev.refl hr⟩
  | .refuse _, ac, hc, fr, H, Q, m, w, a, h, hr, hf => by
    simp only [compCode, Option.some.injEq] at hc; subst hc
    simp only [wpC] at h
  | .goto l, ac, hc, fr, H, Q, m, w, a, h, hr, hf => by simp [compCode] at hc
  | .rangeFunc .., ac, hc, fr, H, Q, m, w, a, h, hr, hf => by simp [compCode] at hc

/-! ### Results -/
def resSem (tmps : Array Value) (rv : ResultVar) : Sem Value := match rv with
  | .tmp t => pure (tmps.getD t undef)
  | .cell a t => do loadVar t (← asAddr (tmps.getD a undef))
theorem asAddr_ptr {ad : Addr} : (asAddr (.pointer (some ad))).run P w = .ok ad w := rfl

theorem resOne_run {rv : ResultVar} {ar : ARes} (hc : compRes P [rv] = some [ar]) {v : V} (h : resOne fr H ar = some v) (hr : Rel m H w) (hf : FRel N m H fr a) :
    ∃ x, VRel m H v x ∧ (resSem a.tmps rv).run P w = .ok x w := by
  unfold resSem
  cases rv with
  | tmp t =>
    simp [compRes] at hc; subst hc
    simp only [resOne] at h
    obtain ⟨x, hx, hv⟩ := hf.slot t v h
    refine ⟨x, hv, ?_⟩
    simp [Array.getD_eq_getD_getElem?, hx, Sem.run_pure]
  | cell ad t =>
    simp only [compRes] at hc
    split at hc
    · rename_i l ha hl
      cases hc
      simp only [resOne] at h
      split at h
      · rename_i id off hg
        split at h
        · rename_i ro esz cells hid
          obtain ⟨x, hx, hv⟩ := hf.slot _ _ hg
          obtain ⟨a1, rfl, hp⟩ := hv.ptr_inv
          obtain ⟨y, hy1, hy2⟩ := hr.read hid h
          have hae := hp.2 (by rw [hid]; simp)
          refine ⟨y, hy2, ?_⟩
          have : a.tmps.getD ad undef = .pointer (some a1) := by simp [Array.getD_eq_getD_getElem?, hx]
          simp only [this, Sem.run_bind, asAddr_ptr, Result.andThen_ok, loadVar, run_isAgg ha, Bool.false_eq_true, if_false, run_load, hae, hy1]
        · cases h
      · cases h
    · rename_i n l ha hn hl
      cases hc
      simp only [resOne] at h
      split at h
      · rename_i id off hg
        split at h
        · rename_i ro esz cells hid
          split at h
          · rename_i hle
            cases h
            obtain ⟨x, hx, hv⟩ := hf.slot _ _ hg
            obtain ⟨a1, rfl, hp⟩ := hv.ptr_inv
            obtain ⟨xs, hxl, hxr, hrun⟩ := hr.readL hid off n hle
            have hae := hp.2 (by rw [hid]; simp)
            refine ⟨.agg xs.toArray, .mk_agg (by simpa using hxr), ?_⟩
            have : a.tmps.getD ad undef = .pointer (some a1) := by simp [Array.getD_eq_getD_getElem?, hx]
            simp only [this, Sem.run_bind, asAddr_ptr, Result.andThen_ok, loadVar, run_isAgg ha, if_true, run_sizeOf hn, hae, hrun P w rfl, Sem.run_pure]
          · cases h
        · cases h
      · cases h
    · cases hc

theorem compRes_cons {rv : ResultVar} {rs : List ResultVar} {l : List ARes} (h : compRes P (rv :: rs) = some l) : ∃ ar l', l = ar :: l' ∧ compRes P [rv] = some [ar] ∧ compRes P rs = some l' := by
  cases rv with
  | tmp t =>
    simp only [compRes] at h
    cases hr : compRes P rs with
    | none => rw [hr] at h; cases h
    | some l' => rw [hr] at h; cases h; exact ⟨_, _, rfl, rfl, rfl⟩
  | cell ad t =>
    simp only [compRes] at h
    split at h
    · rename_i l' ha hl
      cases h
      exact ⟨_, _, rfl, by simp [compRes, ha], hl⟩
    · rename_i n l' ha hn hl
      cases h
      exact ⟨_, _, rfl, by simp [compRes, ha, hn], hl⟩
    · cases h

theorem resAll_run : ∀ (rs : List ResultVar) (l : List ARes), compRes P rs = some l → ∀ (vs : List V), resAll fr H l = some vs → Rel m H w → FRel N m H fr a →
    ∃ xs, VRelL m H vs xs ∧ (rs.mapM (resSem a.tmps)).run P w = .ok xs w
  | [], l, hc, vs, h, hr, hf => by
    simp [compRes] at hc; subst hc
    simp [resAll] at h; subst h
    exact ⟨[], .mk_nil, rfl⟩
  | rv :: rs, l, hc, vs, h, hr, hf => by
    obtain ⟨ar, l', rfl, h1, h2⟩ := compRes_cons hc
    simp only [resAll] at h
    cases g1 : resOne fr H ar with
    | none => rw [g1] at h; cases h
    | some v =>
      cases g2 : resAll fr H l' with
      | none => rw [g1, g2] at h; cases h
      | some vs' =>
        rw [g1, g2] at h; cases h
        obtain ⟨x, hx, hxr⟩ := resOne_run h1 g1 hr hf
        obtain ⟨xs, hxs, hxsr⟩ := resAll_run rs l' h2 vs' g2 hr hf
        refine ⟨x :: xs, .mk_cons hx hxs, ?_⟩
        rw [List.mapM_cons, Sem.run_bind, hxr, Result.andThen_ok, Sem.run_bind, hxsr, Result.andThen_ok, Sem.run_pure]

theorem results_run {fn : Func} {l : List ARes} (hc : compRes P fn.results.toList = some l) {vs : List V} (h : resAll fr H l = some vs) (hr : Rel m H w) (hf : FRel N m H fr a) :
    ∃ x, VRel m H (resV vs) x ∧ (results fn a.tmps).run P w = .ok x w := by
  obtain ⟨xs, hxs, hrun⟩ := resAll_run _ _ hc vs h hr hf
  have e : results fn a.tmps = (do
    let vs ← fn.results.mapM (resSem a.tmps)
    pure (if h : vs.size = 1 then vs[0] else .tuple vs)) := rfl
  rw [e, Array.mapM_eq_mapM_toList]
  simp only [Sem.run_bind, map_eq_pure_bind, hrun, Result.andThen_ok, Sem.run_pure]
  refine ⟨_, ?_, rfl⟩
  have hlen := hxs.length
  match vs, xs, hxs, hlen with
  | [], [], hxs, _ => exact .mk_tup hxs
  | [v], [x], hxs, _ =>
    obtain ⟨y, ys, e, hv, _⟩ := hxs.cons
    cases e
    simpa [resV] using hv
  | v :: u :: vs, x :: y :: xs, hxs, _ =>
    simp only [resV]
    simpa using VRel.mk_tup hxs

theorem enterFr_get (vs : List V) (t : Nat) (v : V) (h : (enterFr vs).get t = some v) : vs[t]? = some v := by
  have key : ∀ (vs : List V) (k : Nat), Fr.get ((List.range' k vs.length).zip vs) t = some v → k ≤ t ∧ vs[t - k]? = some v := by
    intro vs
    induction vs with
    | nil => intro k h; simp [Fr.get] at h
    | cons u vs ih =>
      intro k h'
      simp only [List.length_cons, List.range'_succ, List.zip_cons_cons, Fr.get] at h'
      split at h'
      · rename_i e
        refine ⟨by omega, ?_⟩
        rw [← h', show t - k = 0 by omega]; rfl
      · rename_i e
        obtain ⟨h1, h2⟩ := ih (k + 1) h'
        refine ⟨by omega, ?_⟩
        rw [show t - k = (t - (k + 1)) + 1 by omega]
        simpa using h2
  have := key vs 0 (by rw [← List.range_eq_range']; exact h)
  simpa using this.2

/-- A function whose abstract code is known. -/
theorem SCalls.intro (hSC : ∀ f vs H R, SC f vs H R → SCalls P f vs H R) (hWf : SCWf SC) (hMono : SCMono SC) {f : FuncId} {af : AFn} (hf : compFn P f = some af) {vs : List V} {H : Heap} {R : V → Heap → Prop} (hl : vs.length ≤ af.n)
    (h : wpC SC af.body (enterFr vs) H fun e fr H' => (e = .normal ∨ e = .ret) ∧ ∃ rs, resAll fr H' af.res = some rs ∧ R (resV rs) H') : SCalls P f vs H R := by
  unfold compFn at hf
  split at hf
  · rename_i fn hfn
    split at hf
    · rename_i c hb
      split at hf
      · rename_i b r h1 h2
        split at hf
        · cases hf
        · rename_i hn
          cases hf
          refine ⟨⟨fn, hfn, by simp [hb], hn⟩, fun m w xs hr hv => ?_⟩
          have hxl := hv.length
          refine calls_of_wp hfn hb (wp_mono (wpC_sound hSC hWf hMono c b h1 (enterFr vs) H _ m w _ h hr ⟨rfl, ?_, fun t v ht => ?_⟩) ?_)
          · simp only [Array.size_append, List.size_toArray, Array.size_replicate, hxl]; simp only at hl; omega
          · obtain ⟨x, hx, hvx⟩ := hv.get (enterFr_get vs t v ht)
            refine ⟨x, ?_, hvx⟩
            have hlt : t < xs.length := (List.getElem?_eq_some_iff.1 hx).1
            rw [Array.getElem?_append_left (by simpa using hlt)]
            simpa using hx
          · intro e a' w' hp
            obtain ⟨fr1, H1, m1, ⟨he, rs, hrs, hR⟩, hr1, hf1, hev⟩ := hp
            obtain ⟨x, hx, hrun⟩ := results_run h2 hrs hr1 hf1
            rcases he with rfl | rfl
            · exact ⟨hf1.defers, x, hrun, _, H1, m1, x, rfl, hR, hx, hr1, hev⟩
            · exact ⟨hf1.defers, x, hrun, _, H1, m1, x, rfl, hR, hx, hr1, hev⟩
      · cases hf
    · cases hf
  · cases hf

theorem SCalls.scMono : SCMono (SCalls P) := fun f vs H R R' h k =>
  ⟨h.1, fun m w xs hr hv => (h.2 m w xs hr hv).mono fun e w' he => by
    obtain ⟨r, H', m', x, h1, h2, h3⟩ := he
    exact ⟨r, H', m', x, h1, k _ _ h2, h3⟩⟩
theorem SCalls.scWf : SCWf (SCalls P) := fun f vs H R h =>
  ⟨h.1, fun m w xs hr hv => (h.2 m w xs hr hv).mono fun e w' he => by
    obtain ⟨r, H', m', x, h1, h2, h3, h4, h5⟩ := he
    exact ⟨r, H', m', x, h1, ⟨h2, h4.bound⟩, h3, h4, h5⟩⟩
theorem SCalls.mono {f : FuncId} {vs : List V} {H : Heap} {R R' : V → Heap → Prop} (h : SCalls P f vs H R) (k : ∀ r H', R r H' → R' r H') : SCalls P f vs H R' :=
  ⟨h.1, fun m w xs hr hv => (h.2 m w xs hr hv).mono fun e w' he => by
    obtain ⟨r, H', m', x, h1, h2, h3⟩ := he
    exact ⟨r, H', m', x, h1, k _ _ h2, h3⟩⟩
end
end Go.Proofs.YtkmaikggdbielaaGreatDoor.Fw
