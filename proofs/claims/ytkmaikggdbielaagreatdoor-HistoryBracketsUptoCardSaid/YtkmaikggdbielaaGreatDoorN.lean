/- The framework, part N: every compiled operation does what the model's does. No condition. -/
import Derived.Test.YtkmaikggdbielaaGreatDoorM
namespace Go.Proofs.YtkmaikggdbielaaGreatDoor.Fw
open Go
set_option linter.unusedSimpArgs false
set_option linter.unusedVariables false
section
variable {P : Program} {m : Nat → Pl} {H H' : Heap} {w : World}

theorem compBin_sound {op : BinOp} {t yt : TypeId} {x y : Operand} {k : AK} (hc : compBin P op t = some k) {o : Oper} (e : o.op = .binOp op t x y yt) {ρ : Operand → Value} {vs : List V} {r : V}
    (he : exec k vs H = some (r, H')) (hv : VRelL m H vs ([x, y].map ρ)) (hr : Rel m H w) : Good P m H w (execOp ρ o) r H' := by
  unfold compBin at hc
  split at hc
  · cases hc; exact good_ibin e he hv hr
  · cases hc; exact good_sbin e he hv hr
  · cases hc; exact good_fbin e he hv hr
  · rename_i ht
    split at hc
    · cases hc; exact good_bbin (n := false) (by simpa using e) ht he hv hr
    · cases hc; exact good_bbin (n := true) (by simpa using e) ht he hv hr
    · cases hc
  · rename_i ht
    split at hc
    · cases hc; exact good_eqnil (n := false) (by simpa using e) ht (.inl ⟨rfl, _, rfl⟩) he hv hr
    · cases hc; exact good_eqnil (n := true) (by simpa using e) ht (.inl ⟨rfl, _, rfl⟩) he hv hr
    · cases hc
  · rename_i ht
    split at hc
    · cases hc; exact good_eqnil (n := false) (by simpa using e) ht (.inr (.inl ⟨rfl, _, rfl⟩)) he hv hr
    · cases hc; exact good_eqnil (n := true) (by simpa using e) ht (.inr (.inl ⟨rfl, _, rfl⟩)) he hv hr
    · cases hc
  · rename_i ht
    split at hc
    · cases hc; exact good_eqnil (n := false) (by simpa using e) ht (.inr (.inr (.inl ⟨rfl, _, _, rfl⟩))) he hv hr
    · cases hc; exact good_eqnil (n := true) (by simpa using e) ht (.inr (.inr (.inl ⟨rfl, _, _, rfl⟩))) he hv hr
    · cases hc
  · rename_i ht
    split at hc
    · cases hc; exact good_eqnil (n := false) (by simpa using e) ht (.inr (.inr (.inr ⟨rfl, _, _, _, rfl⟩))) he hv hr
    · cases hc; exact good_eqnil (n := true) (by simpa using e) ht (.inr (.inr (.inr ⟨rfl, _, _, _, rfl⟩))) he hv hr
    · cases hc
  · rename_i fs ht
    split at hc
    · rename_i ks hk
      split at hc
      · rename_i hg
        split at hc
        · cases hc; exact good_eqagg (n := false) (by simpa using e) ht hk hg he hv hr
        · cases hc; exact good_eqagg (n := true) (by simpa using e) ht hk hg he hv hr
        · cases hc
      · cases hc
    · cases hc
  · rename_i ht
    split at hc
    · rename_i ks hk
      unfold kindsT at hk
      rw [ht] at hk
      cases hk
    · cases hc
  · cases hc

theorem map_some_eq {α β : Type} {f : α → β} {x : Option α} {b : β} (h : x.map f = some b) : ∃ a, x = some a ∧ f a = b := by
  cases x with
  | none => cases h
  | some a => exact ⟨a, rfl, by simpa using h⟩

theorem keyC_map {kt : TypeId} {c : Nat} (h : (P.underlying kt).bind keyC = some c) : ∃ td, P.underlying kt = some td ∧ keyC td = some c := by
  cases hu : P.underlying kt with
  | none => rw [hu] at h; cases h
  | some td => rw [hu] at h; exact ⟨td, rfl, by simpa using h⟩

theorem call_sound {b : Builtin} {args : Array Operand} {ats : Array TypeId} {k : AK} {os : List Operand} (hc : compOp P (.call { callee := .builtin b, args := args, argTypes := ats }) = some (k, os)) {o : Oper}
    (e : o.op = .call { callee := .builtin b, args := args, argTypes := ats }) {ρ : Operand → Value} {vs : List V} {r : V}
    (he : exec k vs H = some (r, H')) (hv : VRelL m H vs (os.map ρ)) (hr : Rel m H w) : Good P m H w (execOp ρ o) r H' := by
  simp only [compOp] at hc
  cases b with
  | len =>
    simp only at hc
    split at hc
    · rename_i t x h0 hx
      split at hc
      · rename_i ht; cases hc; exact good_slen e hx h0 ht he hv hr
      · rename_i ht; cases hc; exact good_len e hx h0 ht he hv hr
      · rename_i ht; cases hc; exact good_konst e hx h0 ht he hv hr
      · cases hc
    · cases hc
  | cap =>
    simp only at hc
    split at hc
    · rename_i t x h0 hx
      split at hc
      · rename_i ht; cases hc; exact good_cap e hx h0 ht he hv hr
      · cases hc
    · cases hc
  | append =>
    simp only at hc
    split at hc
    · rename_i t u s x h0 h1 hx
      split at hc
      · rename_i e1 q ht hu
        split at hc
        · rename_i i hi
          split at hc
          · rename_i z hz
            split at hc
            · rename_i hzs
              cases hc
              refine good_app e hx h0 h1 hzs.2 ht hi hz hzs.1 (.inr ⟨_, hu⟩) he hv hr
            · cases hc
          · cases hc
        · cases hc
      · rename_i e1 ht hu
        split at hc
        · rename_i i hi
          split at hc
          · rename_i z hz
            split at hc
            · rename_i hzs
              cases hc
              refine good_app e hx h0 h1 hzs.2 ht hi hz hzs.1 (.inl hu) he hv hr
            · cases hc
          · cases hc
        · cases hc
      · rename_i e1 ht hu
        split at hc
        · rename_i i hi
          split at hc
          · rename_i z hz
            split at hc
            · rename_i hzs
              obtain ⟨zs, hza, h2⟩ := map_some_eq hc
              cases h2
              refine good_appz e hx h0 h1 hzs.2 ht hi hz hzs.1 hu hza he hv hr
            · cases hc
          · cases hc
        · cases hc
      · cases hc
    · cases hc
  | copy =>
    simp only at hc
    split at hc
    · rename_i t d x h0 hx
      split at hc
      · rename_i el ht
        obtain ⟨n, hn, e2⟩ := map_some_eq hc
        cases e2
        exact good_copy e hx h0 ht hn he hv hr
      · cases hc
    · cases hc
  | clear =>
    simp only at hc
    split at hc
    · rename_i t x h0 hx
      split at hc
      · rename_i el ht
        obtain ⟨n, hn, e2⟩ := map_some_eq hc
        cases e2
        exact good_clear e hx h0 ht hn he hv hr
      · cases hc
    · cases hc
  | min =>
    simp only at hc
    split at hc
    · rename_i x l hx; cases hc; exact good_mn e hx he hv hr
    · cases hc
  | max =>
    simp only at hc
    split at hc
    · rename_i x l hx; cases hc; exact good_mx e hx he hv hr
    · cases hc
  | delete =>
    simp only at hc
    split at hc
    · rename_i t x k h0 hx
      split at hc
      · rename_i kt et ht
        obtain ⟨c, hcc, e2⟩ := map_some_eq hc
        cases e2
        obtain ⟨td, h1, h2⟩ := keyC_map hcc
        exact good_mdel e hx h0 ht h1 h2 he hv hr
      · cases hc
    · cases hc
  | _ => simp at hc

theorem exec_sound {o : Oper} {k : AK} {os : List Operand} (hc : compOp P o.op = some (k, os)) {ρ : Operand → Value} {vs : List V} {r : V}
    (he : exec k vs H = some (r, H')) (hv : VRelL m H vs (os.map ρ)) (hr : Rel m H w) : Good P m H w (execOp ρ o) r H' := by
  generalize e : o.op = op at hc
  cases op with
  | move x => simp only [compOp, Option.some.injEq, Prod.mk.injEq] at hc; obtain ⟨rfl, rfl⟩ := hc; exact good_mov (y := x) (.inl rfl) e he hv hr
  | assign x => simp only [compOp, Option.some.injEq, Prod.mk.injEq] at hc; obtain ⟨rfl, rfl⟩ := hc; exact good_mov (y := x) (.inr rfl) e he hv hr
  | pick c a b => simp only [compOp, Option.some.injEq, Prod.mk.injEq] at hc; obtain ⟨rfl, rfl⟩ := hc; exact good_pick e he hv hr
  | nilCheck x => simp only [compOp, Option.some.injEq, Prod.mk.injEq] at hc; obtain ⟨rfl, rfl⟩ := hc; exact good_nilck e he hv hr
  | binOp op t x y yt =>
    simp only [compOp] at hc
    obtain ⟨k', h1, h2⟩ := map_some_eq hc
    cases h2
    exact compBin_sound h1 e he hv hr
  | unOp op t x =>
    cases op with
    | neg => simp only [compOp, Option.some.injEq, Prod.mk.injEq] at hc; obtain ⟨rfl, rfl⟩ := hc; exact good_neg e he hv hr
    | not => simp only [compOp, Option.some.injEq, Prod.mk.injEq] at hc; obtain ⟨rfl, rfl⟩ := hc; exact good_bnot e he hv hr
    | _ => simp [compOp] at hc
  | fieldAddr t x f =>
    simp only [compOp] at hc
    obtain ⟨k', h1, h2⟩ := map_some_eq hc
    cases h2
    exact good_fa e h1 he hv hr
  | indexAddr t x i =>
    simp only [compOp] at hc
    split at hc
    · rename_i el ht
      obtain ⟨n, h1, h2⟩ := map_some_eq hc
      cases h2
      exact good_ia e ht h1 he hv hr
    · rename_i len el ht
      obtain ⟨n, h1, h2⟩ := map_some_eq hc
      cases h2
      exact good_iar e ht h1 he hv hr
    · cases hc
  | load t a =>
    simp only [compOp] at hc
    split at hc
    · rename_i n h1 h2; cases hc; exact good_lda e h1 h2 he hv hr
    · rename_i n h1 h2; cases hc; exact good_ld e h1 he hv hr
    · cases hc
  | store t a v =>
    simp only [compOp] at hc
    obtain ⟨n, h1, h2⟩ := map_some_eq hc
    cases h2
    exact good_st e h1 he hv hr
  | alloc t =>
    simp only [compOp] at hc
    obtain ⟨n, h1, h2⟩ := map_some_eq hc
    cases h2
    exact good_alloc e h1 he hv hr
  | box t v => simp only [compOp, Option.some.injEq, Prod.mk.injEq] at hc; obtain ⟨rfl, rfl⟩ := hc; exact good_box e he hv hr
  | build t ps =>
    simp only [compOp] at hc
    split at hc
    · rename_i z l hz hl
      split at hc
      · rename_i fs ht
        split at hc
        · rename_i hf; cases hc; exact good_build_struct e ht hz hl hf he hv hr
        · cases hc
      · rename_i len el ht
        split at hc
        · rename_i n hn
          cases hc
          exact good_build_array e ht hz hl hn he hv hr
        · cases hc
      · cases hc
    · cases hc
  | buildSlice t len ps =>
    simp only [compOp] at hc
    split at hc
    · rename_i el ht
      split at hc
      · rename_i z n hz hn
        split at hc
        · rename_i hle; cases hc; exact good_bsl e ht hz hn hle he hv hr
        · cases hc
      · cases hc
    · cases hc
  | extract t i => simp only [compOp, Option.some.injEq, Prod.mk.injEq] at hc; obtain ⟨rfl, rfl⟩ := hc; exact good_ext e he hv hr
  | makeFunc f first caps => simp only [compOp, Option.some.injEq, Prod.mk.injEq] at hc; obtain ⟨rfl, rfl⟩ := hc; exact good_mkfn e he hv hr
  | slice t x lo hi mx =>
    simp only [compOp] at hc
    split at hc
    · rename_i ht
      split at hc
      · rename_i hm
        cases hc
        have : mx = none := by simpa using hm
        subst this
        exact good_slcs e ht he (by simpa using hv) hr
      · cases hc
    · rename_i el ht
      obtain ⟨n, h1, h2⟩ := map_some_eq hc
      cases h2
      exact good_slc e ht h1 he hv hr
    · rename_i len el ht
      obtain ⟨n, h1, h2⟩ := map_some_eq hc
      cases h2
      exact good_slca e ht h1 he hv hr
    · cases hc
  | field t x f =>
    simp only [compOp] at hc
    split at hc
    · rename_i fs ht
      split at hc
      · rename_i fd hfd
        split at hc
        · rename_i n h1 h2; cases hc; exact good_flda e ht hfd h1 h2 he hv hr
        · rename_i n h1 h2; cases hc; exact good_fld e ht hfd h1 he hv hr
        · cases hc
      · cases hc
    · cases hc
  | index t x i =>
    simp only [compOp] at hc
    split at hc
    · rename_i ht; cases hc; exact good_idxs e ht he hv hr
    · rename_i len el ht
      split at hc
      · rename_i h1 h2; cases hc; exact good_idxa e ht h1 h2 he hv hr
      · cases hc
    · cases hc
  | convert src dst x =>
    simp only [compOp] at hc
    split at hc
    · rename_i j k h1 h2; cases hc; exact good_toInt e ⟨_, h1⟩ h2 he hv hr
    · rename_i el h1 h2
      split at hc
      · rename_i h3; cases hc; exact good_b2s e h1 h2 h3 he hv hr
      · cases hc
    · rename_i el h1 h2
      split at hc
      · rename_i h3; cases hc; exact good_s2b e h1 h2 h3 he hv hr
      · cases hc
    · rename_i h1 h2; cases hc; exact good_id e h1 h2 he hv hr
    · cases hc
  | range t x =>
    simp only [compOp] at hc
    split at hc
    · rename_i ht; cases hc; exact good_rits e ht he hv hr
    · cases hc
  | next it s =>
    cases s with
    | true => simp only [compOp, Option.some.injEq, Prod.mk.injEq] at hc; obtain ⟨rfl, rfl⟩ := hc; exact good_rnext e he hv hr
    | false => simp [compOp] at hc
  | makeMap t r =>
    cases r with
    | none => simp only [compOp, Option.some.injEq, Prod.mk.injEq] at hc; obtain ⟨rfl, rfl⟩ := hc; exact good_mkmap e he hv hr
    | some _ => simp [compOp] at hc
  | mapUpdate t mm k v =>
    simp only [compOp] at hc
    split at hc
    · rename_i kt et ht
      obtain ⟨c, hcc, e2⟩ := map_some_eq hc
      cases e2
      obtain ⟨td, h1, h2⟩ := keyC_map hcc
      exact good_mset e ht h1 h2 he hv hr
    · cases hc
  | lookup t mm k ok =>
    simp only [compOp] at hc
    split at hc
    · rename_i kt et ht
      split at hc
      · rename_i c i hcc hi
        split at hc
        · rename_i z hz
          obtain ⟨zv, hzv, e2⟩ := map_some_eq hc
          cases e2
          obtain ⟨td, h1, h2⟩ := keyC_map hcc
          exact good_look e ht h1 h2 hi hz hzv he hv hr
        · cases hc
      · cases hc
    · cases hc
  | call c =>
    obtain ⟨callee, args, ats⟩ := c
    cases callee with
    | builtin b => exact call_sound hc e he hv hr
    | value f => simp [compOp] at hc
    | invoke r m => simp [compOp] at hc
  | _ => simp [compOp] at hc
end
end Go.Proofs.YtkmaikggdbielaaGreatDoor.Fw
