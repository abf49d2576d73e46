/- The framework, part V: the loops over a slice. No condition. -/
import Derived.Test.YtkmaikggdbielaaGreatDoorT
namespace Go.Proofs.YtkmaikggdbielaaGreatDoor.Fw
open Go
set_option linter.unusedSimpArgs false
set_option linter.unusedVariables false

theorem FrSub.of_cons {t : Nat} {v : V} {l fr : Fr} (h : FrSub ((t, v) :: l) fr) : fr.get t = some v := h t v (by simp [Fr.get])
theorem FrSub.head {t : Nat} {v u : V} {l fr : Fr} (h : FrSub l fr) (e : fr.get t = some v) : FrSub ((t, v) :: l) fr := .cons e h
theorem FrSub.skip {t : Nat} {v : V} {l fr : Fr} (h : FrSub l fr) (e : l.get t = none) : FrSub l ((t, v) :: fr) := fun s u hs => by
  rw [s_get]
  split
  · rename_i he; subst he; rw [e] at hs; cases hs
  · exact h s u hs
theorem FrSub.same (l : Fr) {t : Nat} {v : V} {fr : Fr} (h : FrSub l fr) : FrSub ((t, v) :: l) ((t, v) :: fr) := fun s u hs => by
  rw [s_get] at hs ⊢
  split
  · rename_i he; rw [if_pos he] at hs; exact hs
  · rename_i he; rw [if_neg he] at hs; exact h s u hs

section
variable {SC : FuncId → List V → Heap → (V → Heap → Prop) → Prop} {Q : Exit → Fr → Heap → Prop}
/-- The end of a round's body. -/
def kround (b : Nat) (R : Fr → Heap → Prop) (Q : Exit → Fr → Heap → Prop) : Exit → Fr → Heap → Prop := fun e fr H => match e with
  | .normal => R fr H
  | .exit j => if j = b then R fr H else Q (.exit j) fr H
  | e => Q e fr H
theorem s_kround_n (b : Nat) (R : Fr → Heap → Prop) (fr : Fr) (H : Heap) : kround b R Q .normal fr H = R fr H := rfl
theorem s_kround_r (b : Nat) (R : Fr → Heap → Prop) (fr : Fr) (H : Heap) : kround b R Q .ret fr H = Q .ret fr H := rfl
theorem s_kround_e (b j : Nat) (R : Fr → Heap → Prop) (fr : Fr) (H : Heap) : kround b R Q (.exit j) fr H = if j = b then R fr H else Q (.exit j) fr H := rfl

theorem wpC_mono (hM : SCMono SC) : ∀ (c : ACode) (fr : Fr) (H : Heap) (Q Q' : Exit → Fr → Heap → Prop), wpC SC c fr H Q → (∀ e fr H, Q e fr H → Q' e fr H) → wpC SC c fr H Q'
  | .skip, fr, H, Q, Q', h, k => k _ _ _ h
  | .region ops, fr, H, Q, Q', h, k => by
    have : ∀ (l : List AOper) (fr : Fr) (H : Heap), wpA SC l fr H (Q .normal) → wpA SC l fr H (Q' .normal) := by
      intro l
      induction l with
      | nil => intro fr H h; exact k _ _ _ h
      | cons o l ih =>
        intro fr H h
        simp only [wpA] at h ⊢
        have : ∀ f : Fr, ∀ f', f = f' → f = f' := fun _ _ h => h
        exact stepA_mono hM h fun f H' hq => ih f H' hq
    exact this ops fr H h
  | .draw t, fr, H, Q, Q', h, k => by
    have : ∀ (t : DT) (fr : Fr) (H : Heap), wpT SC t fr H (Q .normal) → wpT SC t fr H (Q' .normal) := by
      intro t
      induction t with
      | done => intro fr H h; exact k _ _ _ h
      | op o t ih => intro fr H h; exact stepA_mono hM h fun f H' hq => ih f H' hq
      | fork a b ia ib => intro fr H h; exact ⟨ia _ _ h.1, ib _ _ h.2⟩
    exact this t fr H h
  | .seq a b, fr, H, Q, Q', h, k => by
    simp only [wpC] at h ⊢
    refine wpC_mono hM a _ _ _ _ h fun e fr H hq => ?_
    cases e with
    | normal => exact wpC_mono hM b _ _ _ _ hq k
    | _ => exact k _ _ _ hq
  | .cond x a b, fr, H, Q, Q', h, k => by
    simp only [wpC] at h ⊢
    split at h
    · exact wpC_mono hM a _ _ _ _ h k
    · exact wpC_mono hM b _ _ _ _ h k
    · exact h.elim
  | .block id a, fr, H, Q, Q', h, k => by
    simp only [wpC] at h ⊢
    refine wpC_mono hM a _ _ _ _ h fun e fr H hq => ?_
    cases e with
    | exit i =>
      simp only at hq ⊢
      split
      · rename_i hi; rw [if_pos hi] at hq; exact k _ _ _ hq
      · rename_i hi; rw [if_neg hi] at hq; exact k _ _ _ hq
    | _ => exact k _ _ _ hq
  | .loop a, fr, H, Q, Q', h, k => by
    simp only [wpC] at h ⊢
    obtain ⟨I, n, h0, hI⟩ := h
    refine ⟨I, n, h0, fun j fr H hj => ?_⟩
    obtain ⟨fr', hs, hb⟩ := hI j fr H hj
    refine ⟨fr', hs, wpC_mono hM a _ _ _ _ hb fun e fr H hq => ?_⟩
    cases e with
    | normal => exact hq
    | _ => exact k _ _ _ hq
  | .exit id, fr, H, Q, Q', h, k => k _ _ _ h
  | .scope a, fr, H, Q, Q', h, k => by
    simp only [wpC] at h ⊢
    refine wpC_mono hM a _ _ _ _ h fun e fr H hq => ?_
    cases e with
    | goto l => exact hq
    | _ => exact k _ _ _ hq
  | .ret, fr, H, Q, Q', h, k => k _ _ _ h
  | .bad, fr, H, Q, Q', h, k => h.elim
  where
  stepA_mono (hM : SCMono SC) {o : AOper} {fr : Fr} {H : Heap} {K K' : Fr → Heap → Prop} (h : stepA SC o fr H K) (hK : ∀ f H, K f H → K' f H) : stepA SC o fr H K' := by
    unfold stepA at h ⊢
    split at h
    · exact h.elim
    · rename_i hg; exact hK _ _ h
    · rename_i hg
      split at h
      · split at h
        · split at h
          · exact hK _ _ h
          · exact h.elim
        · exact h.elim
      · split at h
        · exact hK _ _ h
        · exact h.elim
      · split at h
        · exact hK _ _ h
        · exact h.elim
      · split at h
        · exact hM _ _ _ _ _ h fun r H' hr => hK _ _ hr
        · exact h.elim
      · split at h
        · exact hM _ _ _ _ _ h fun r H' hr => hK _ _ hr
        · exact h.elim
      · exact h.elim

/-- 'for i := range n': the loop as the loader makes it. -/
theorem wp_range (hM : SCMono SC) {σ : Type} {i n c t b x : Nat} {body : ACode} {len : Nat} (hlen : len ≤ 4611686018427387904) (F : σ → Fr) (J : Nat → σ → Heap → Prop) {fr : Fr} {H : Heap} (s0 : σ) (h0 : J 0 s0 H)
    (hf0 : FrSub ((i, .int .i64 0) :: (n, .int .i64 len) :: F s0) fr) (hne : (decide (i ≠ n) && decide (c ≠ i) && decide (c ≠ n) && decide (t ≠ i) && decide (t ≠ n)) = true) (hF : ∀ s, (F s).get i = none ∧ (F s).get n = none ∧ (F s).get t = none)
    (step : ∀ k s H', k < len → J k s H' → wpC SC body ((c, .bool true) :: (i, .int .i64 k) :: (n, .int .i64 len) :: F s) H'
      (kround b (fun fr2 H2 => ∃ s', J (k + 1) s' H2 ∧ FrSub ((i, .int .i64 k) :: (n, .int .i64 len) :: F s') fr2) Q))
    (fin : ∀ s H', J len s H' → Q (.exit x) ((c, .bool false) :: (i, .int .i64 len) :: (n, .int .i64 len) :: F s) H') :
    wpC SC (.loop (.seq (.region [⟨some c, none, .ex (.ibin .lss) [.s i, .s n]⟩]) (.seq (.cond (.s c) .skip (.exit x)) (.seq (.block b body)
      (.region [⟨some t, none, .ex (.ibin .add) [.s i, .k (.int .i64 1)]⟩, ⟨some i, none, .ex .mov [.s t]⟩]))))) fr H Q := by
  simp only [Bool.and_eq_true, decide_eq_true_eq] at hne
  obtain ⟨⟨⟨⟨h1, h2⟩, h3⟩, h4⟩, h5⟩ := hne
  refine wp_loopI (fun m fr H' => ∃ k s, k ≤ len ∧ m = len - k ∧ J k s H' ∧ FrSub ((i, .int .i64 k) :: (n, .int .i64 len) :: F s) fr) len ⟨0, s0, Nat.zero_le _, rfl, h0, hf0⟩ ?_
  rintro m fr H' ⟨k, s, hk, rfl, hJ, hsub⟩
  refine ⟨_, hsub, ?_⟩
  simp only [s_seq, s_region, s_cons, s_ex, s_evcons, s_evs, s_evnil, s_get, if_true, h1, if_false, s_evC, s_kexec, x_lss, s_kres, s_put, s_kops, s_nil, s_kseq_n, s_cond]
  by_cases hlt : k < len
  · have hlt' : (k : Int) < (len : Int) := by omega
    simp only [hlt', decide_true, s_kcond_t, s_skip, s_kseq_n, s_seq]
    show wpC SC (.block b body) _ _ _
    simp only [wpC]
    refine wpC_mono hM body _ _ _ _ (step k s H' hlt hJ) fun e fr2 H2 hq => ?_
    have fin2 : (∃ s', J (k + 1) s' H2 ∧ FrSub ((i, .int .i64 k) :: (n, .int .i64 len) :: F s') fr2) → kseq SC (.region [⟨some t, none, .ex (.ibin .add) [.s i, .k (.int .i64 1)]⟩, ⟨some i, none, .ex .mov [.s t]⟩])
        (kloop (fun m fr H' => ∃ k s, k ≤ len ∧ m = len - k ∧ J k s H' ∧ FrSub ((i, .int .i64 k) :: (n, .int .i64 len) :: F s) fr) (len - k) Q) .normal fr2 H2 := by
      rintro ⟨s', hJ', hs'⟩
      have hgi : fr2.get i = some (.int .i64 k) := hs'.of_cons
      simp only [s_kseq_n, s_region, s_cons, s_ex, s_evcons, s_evs, s_evk, s_evnil, hgi, s_evC, s_kexec, x_add, s_kres, s_put, s_kops, s_get, if_true, x_mov, s_nil, s_kloop_n]
      rw [wrap_i64 (by omega) (by omega)]
      refine ⟨len - (k + 1), by omega, k + 1, s', by omega, rfl, hJ', ?_⟩
      refine FrSub.same _ (FrSub.skip ?_ ?_)
      · intro u v hu
        refine hs' u v ?_
        rw [s_get] at hu ⊢
        rw [s_get]
        by_cases hi : i = u
        · subst hi
          have h1' : ¬ n = i := fun e => h1 e.symm
          rw [if_neg h1', (hF s').1] at hu; cases hu
        · rw [if_neg hi]; exact hu
      · have h5' : ¬ n = t := fun e => h5 e.symm
        rw [s_get, if_neg h5']; exact (hF s').2.2
    cases e with
    | normal => exact fin2 hq
    | exit j =>
      simp only
      rw [s_kround_e] at hq
      split at hq
      · rename_i hj; rw [if_pos hj]; exact fin2 hq
      · rename_i hj; rw [if_neg hj]; exact hq
    | _ => exact hq
  · have hlt' : ¬ (k : Int) < (len : Int) := by omega
    obtain rfl : k = len := by omega
    simp only [hlt', decide_false, s_kcond_f, s_exit, s_kseq_e, s_kloop_e]
    exact fin s H' hJ

/-- The element of a round, copied. -/
theorem wp_elem {G H : Heap} {x : V} {sz : Nat} {es : List (List V)} {k : Nat} {e z : List V} {sl i p a d : Nat} {fr : Fr} {l : List AOper} {K : Fr → Heap → Prop} (hsl : SL G x sz es) (hext : Ext G H) (hwf : WF H) (he : es[k]? = some e)
    (hz : z.length = sz) (hzo : z.all V.one = true) (h1 : fr.get sl = some x) (h2 : fr.get i = some (.int .i64 k)) (hne : (decide (d ≠ a)) = true)
    (hK : ∀ q id o H2, Ext G H2 → WF H2 → At H2 q 0 e → G.next ≤ q → wpA SC l ((d, .ptr q 0) :: (a, .agg e) :: (p, .ptr id o) :: fr) H2 K) :
    wpA SC (⟨some p, none, .ex (.ia sz) [.s sl, .s i]⟩ :: ⟨some a, none, .ex (.lda sz) [.s p]⟩ :: ⟨some d, none, .ex (.alloc z) []⟩ :: ⟨none, none, .ex (.st sz) [.s d, .s a]⟩ :: l) fr H K := by
  simp only [decide_eq_true_eq] at hne
  have hm := hsl.1 e (List.mem_of_getElem? he)
  obtain ⟨id, o, hia, hat⟩ := (hsl.ext hext).ia (H' := H) he .i64
  obtain ⟨H2, hx2, hw2, ha2, hal, hst⟩ := x_copy hext hwf hz hzo hm.1 hm.2
  simp only [s_cons, s_ex, s_evcons, s_evs, s_evnil, h1, h2, s_evC, s_kexec, hia, s_kres, s_put, s_kops, s_get, if_true, hat.lda hm.1.symm, hal, hne, if_false, hst, s_putn]
  exact hK _ _ _ _ hx2 hw2 ha2 hext.next
end
end Go.Proofs.YtkmaikggdbielaaGreatDoor.Fw
