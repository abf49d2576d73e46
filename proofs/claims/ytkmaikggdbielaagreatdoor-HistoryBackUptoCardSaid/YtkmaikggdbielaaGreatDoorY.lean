/- The framework, part Y: the evaluator, where a region has several orders: they come to one. No condition. -/
import Derived.Test.YtkmaikggdbielaaGreatDoorW
namespace Go.Proofs.YtkmaikggdbielaaGreatDoor.Fw
open Go
set_option linter.unusedSimpArgs false
set_option linter.unusedVariables false

mutual
def V.beq : V → V → Bool
  | .bool a, .bool b => a == b
  | .int k a, .int j b => decide (k = j) && decide (a = b)
  | .float k a, .float j b => decide (k = j) && decide (a = b)
  | .str a, .str b => decide (a = b)
  | .nilp, .nilp => true
  | .ptr a b, .ptr c d => decide (a = c) && decide (b = d)
  | .nils, .nils => true
  | .slice a b c d, .slice e f g h => decide (a = e) && (decide (b = f) && (decide (c = g) && decide (d = h)))
  | .nilm, .nilm => true
  | .map a, .map b => decide (a = b)
  | .nilf, .nilf => true
  | .fn (.func f) a b, .fn (.func g) c d => decide (f = g) && (V.beqL a c && V.beqL b d)
  | .agg a, .agg b => V.beqL a b
  | .tup a, .tup b => V.beqL a b
  | _, _ => false
def V.beqL : List V → List V → Bool
  | [], [] => true
  | a :: l, b :: k => V.beq a b && V.beqL l k
  | _, _ => false
end
mutual
theorem V.beq_eq : ∀ (a b : V), V.beq a b = true → a = b
  | .bool a, b, h => by cases b <;> simp [V.beq] at h; rw [h]
  | .int k a, b, h => by cases b <;> simp [V.beq] at h; rw [h.1, h.2]
  | .float k a, b, h => by cases b <;> simp [V.beq] at h; rw [h.1, h.2]
  | .str a, b, h => by cases b <;> simp [V.beq] at h; rw [h]
  | .nilp, b, h => by cases b <;> simp [V.beq] at h; rfl
  | .ptr _ _, b, h => by cases b <;> simp [V.beq] at h; rw [h.1, h.2]
  | .nils, b, h => by cases b <;> simp [V.beq] at h; rfl
  | .slice _ _ _ _, b, h => by cases b <;> simp [V.beq] at h; rw [h.1, h.2.1, h.2.2.1, h.2.2.2]
  | .nilm, b, h => by cases b <;> simp [V.beq] at h; rfl
  | .map _, b, h => by cases b <;> simp [V.beq] at h; rw [h]
  | .nilf, b, h => by cases b <;> simp [V.beq] at h; rfl
  | .fn f a c, b, h => by
    cases b with
    | fn g a' c' =>
      cases f <;> cases g <;> simp [V.beq] at h
      rw [h.1, V.beqL_eq _ _ h.2.1, V.beqL_eq _ _ h.2.2]
    | _ => cases f <;> simp [V.beq] at h
  | .agg a, b, h => by cases b <;> simp [V.beq] at h; rw [V.beqL_eq _ _ h]
  | .tup a, b, h => by cases b <;> simp [V.beq] at h; rw [V.beqL_eq _ _ h]
theorem V.beqL_eq : ∀ (a b : List V), V.beqL a b = true → a = b
  | [], [], h => rfl
  | [], b :: l, h => by simp [V.beqL] at h
  | a :: l, [], h => by simp [V.beqL] at h
  | a :: l, b :: k, h => by
    simp only [V.beqL, Bool.and_eq_true] at h
    rw [V.beq_eq a b h.1, V.beqL_eq l k h.2]
end
def obEq : Option Ob → Option Ob → Bool
  | none, none => true
  | some (.row a b c), some (.row d e f) => decide (a = d) && (decide (b = e) && V.beqL c f)
  | some (.mapo a), some (.mapo b) => V.beqL (a.map (·.1)) (b.map (·.1)) && V.beqL (a.map (·.2)) (b.map (·.2))
  | some (.iter a b), some (.iter c d) => decide (a = c) && decide (b = d)
  | _, _ => false
theorem zipEq : ∀ {a b : List (V × V)}, a.map (·.1) = b.map (·.1) → a.map (·.2) = b.map (·.2) → a = b
  | [], [], _, _ => rfl
  | [], b :: l, h, _ => by simp at h
  | a :: l, [], h, _ => by simp at h
  | (a1, a2) :: l, (b1, b2) :: k, h, h' => by
    simp only [List.map_cons, List.cons.injEq] at h h'
    rw [h.1, h'.1, zipEq h.2 h'.2]
theorem obEq_eq {a b : Option Ob} (h : obEq a b = true) : a = b := by
  unfold obEq at h
  split at h
  · rfl
  · simp only [Bool.and_eq_true, decide_eq_true_eq] at h
    rw [h.1, h.2.1, V.beqL_eq _ _ h.2.2]
  · simp only [Bool.and_eq_true] at h
    rw [zipEq (V.beqL_eq _ _ h.1) (V.beqL_eq _ _ h.2)]
  · simp only [Bool.and_eq_true, decide_eq_true_eq] at h
    rw [h.1, h.2]
  · cases h
def heapEq (H G : Heap) : Bool := decide (H.gn = G.gn) && (decide (H.next = G.next) && (List.range H.next).all fun j => obEq (H.get j) (G.get j))
theorem heapEq_eq {H G : Heap} (hw : WF H) (gw : WF G) (h : heapEq H G = true) : H = G := by
  simp only [heapEq, Bool.and_eq_true, decide_eq_true_eq, List.all_eq_true, List.mem_range] at h
  obtain ⟨h1, h2, h3⟩ := h
  cases H with
  | mk a b c =>
    cases G with
    | mk d e f =>
      simp only at h1 h2 h3
      subst h1 h2
      congr 1
      funext j
      by_cases hj : j < b
      · exact obEq_eq (h3 j hj)
      · have e1 : c j = none := by
          cases hc : c j with
          | none => rfl
          | some o => exact absurd (hw j o hc) hj
        have e2 : f j = none := by
          cases hc : f j with
          | none => rfl
          | some o => exact absurd (gw j o hc) hj
        rw [e1, e2]
def frEq (f g : Fr) : Bool := f.all fun p => match f.get p.1, g.get p.1 with
  | some v, some u => V.beq v u
  | _, _ => false
theorem frEq_sub {f g : Fr} (h : frEq f g = true) : FrSub f g := by
  intro t v hv
  have hm : ∀ (l : Fr), l.get t = some v → ∃ u, (t, u) ∈ l := by
    intro l
    induction l with
    | nil => intro h; simp [Fr.get] at h
    | cons p l ih =>
      intro h
      rw [show p = (p.1, p.2) from rfl, s_get] at h
      split at h
      · rename_i e; exact ⟨p.2, by rw [← e]; simp⟩
      · obtain ⟨u, hu⟩ := ih h; exact ⟨u, List.mem_cons_of_mem _ hu⟩
  obtain ⟨u, hu⟩ := hm f hv
  have := List.all_eq_true.1 h _ hu
  simp only [hv] at this
  split at this
  · rename_i v' u' e1 e2
    cases e1
    rw [e2, V.beq_eq _ _ this]
  · cases this

section
variable (rf : FuncId → List V → Heap → Option (V × Heap))
def runT2 : DT → Fr → Heap → Option (Fr × Heap)
  | .done, fr, H => some (fr, H)
  | .op o t, fr, H => match runO rf o fr H with
    | some (fr, H) => runT2 t fr H
    | none => none
  | .fork a b, fr, H => match runT2 a fr H, runT2 b fr H with
    | some (f1, H1), some (f2, H2) => if heapEq H1 H2 && frEq f1 f2 then some (f1, H1) else none
    | _, _ => none
def runC2 (n : Nat) : ACode → Fr → Heap → Option (Exit × Fr × Heap)
  | .skip, fr, H => some (.normal, fr, H)
  | .region ops, fr, H => (runA rf ops fr H).map fun (fr, H) => (.normal, fr, H)
  | .draw t, fr, H => (runT2 rf t fr H).map fun (fr, H) => (.normal, fr, H)
  | .seq a b, fr, H => match runC2 n a fr H with
    | some (.normal, fr, H) => runC2 n b fr H
    | r => r
  | .cond x a b, fr, H => match x.ev fr H with
    | some (.bool true) => runC2 n a fr H
    | some (.bool false) => runC2 n b fr H
    | _ => none
  | .block id a, fr, H => match runC2 n a fr H with
    | some (.exit i, fr, H) => if i = id then some (.normal, fr, H) else some (.exit i, fr, H)
    | r => r
  | .loop a, fr, H => runLoop (runC2 n a) n fr H
  | .exit id, fr, H => some (.exit id, fr, H)
  | .scope a, fr, H => match runC2 n a fr H with
    | some (.goto _, _, _) => none
    | r => r
  | .ret, fr, H => some (.ret, fr, H)
  | .bad, _, _ => none
end
def runFn2 (tbl : FuncId → Option AFn) (k : Nat) : Nat → FuncId → List V → Heap → Option (V × Heap)
  | 0, _, _, _ => none
  | n + 1, f, vs, H => match tbl f with
    | some af => if vs.length ≤ af.n then match runC2 (runFn2 tbl k n) k af.body (enterFr vs) H with
        | some (e, fr, H') => if isEnd e then match resAll fr H' af.res with
            | some rs => some (resV rs, H')
            | none => none
          else none
        | none => none
      else none
    | none => none

section
variable {SC : FuncId → List V → Heap → (V → Heap → Prop) → Prop} {rf : FuncId → List V → Heap → Option (V × Heap)}

/-- More slots known do no harm. -/
theorem wpC_sub (hM : SCMono SC) : ∀ (c : ACode) {f f' : Fr} {H : Heap} {Q : Exit → Fr → Heap → Prop}, FrSub f f' → (∀ e, KMono (Q e)) → wpC SC c f H Q → wpC SC c f' H Q
  | .skip, f, f', H, Q, hs, hQ, h => hQ _ _ _ _ hs h
  | .region ops, f, f', H, Q, hs, hQ, h => by
    have : ∀ (l : List AOper) (f f' : Fr) (H : Heap), FrSub f f' → wpA SC l f H (Q .normal) → wpA SC l f' H (Q .normal) := by
      intro l
      induction l with
      | nil => intro f f' H hs h; exact hQ _ _ _ _ hs h
      | cons o l ih => intro f f' H hs h; exact stepA_sub hM hs h fun g g' H' hg hq => ih g g' H' hg hq
    exact this ops f f' H hs h
  | .draw t, f, f', H, Q, hs, hQ, h => sub_lift hM (hQ .normal) t f f' H hs h
  | .seq a b, f, f', H, Q, hs, hQ, h => by
    simp only [wpC] at h ⊢
    refine wpC_sub hM a hs (fun e => ?_) h
    cases e with
    | normal => exact fun g g' G hg hq => wpC_sub hM b hg hQ hq
    | _ => exact hQ _
  | .cond x a b, f, f', H, Q, hs, hQ, h => by
    simp only [wpC] at h ⊢
    split at h
    · rename_i hx; rw [evX_sub hs hx]; exact wpC_sub hM a hs hQ h
    · rename_i hx; rw [evX_sub hs hx]; exact wpC_sub hM b hs hQ h
    · exact h.elim
  | .block id a, f, f', H, Q, hs, hQ, h => by
    simp only [wpC] at h ⊢
    refine wpC_sub hM a hs (fun e => ?_) h
    cases e with
    | exit i =>
      intro g g' G hg hq
      simp only at hq ⊢
      split
      · rename_i hi; rw [if_pos hi] at hq; exact hQ _ _ _ _ hg hq
      · rename_i hi; rw [if_neg hi] at hq; exact hQ _ _ _ _ hg hq
    | _ => exact hQ _
  | .loop a, f, f', H, Q, hs, hQ, h => by
    simp only [wpC] at h ⊢
    obtain ⟨I, k, h0, hI⟩ := h
    refine ⟨fun k g G => ∃ g0, FrSub g0 g ∧ I k g0 G, k, ⟨f, hs, h0⟩, fun k g G ⟨g0, hg, hi⟩ => ?_⟩
    obtain ⟨g1, hg1, hb⟩ := hI k g0 G hi
    refine ⟨g1, hg1.trans hg, wpC_mono hM a _ _ _ _ hb fun e g2 G2 hq => ?_⟩
    cases e with
    | normal =>
      obtain ⟨k', hk, hi'⟩ := hq
      exact ⟨k', hk, g2, FrSub.refl g2, hi'⟩
    | _ => exact hq
  | .exit id, f, f', H, Q, hs, hQ, h => hQ _ _ _ _ hs h
  | .scope a, f, f', H, Q, hs, hQ, h => by
    simp only [wpC] at h ⊢
    refine wpC_sub hM a hs (fun e => ?_) h
    cases e with
    | goto i => exact fun g g' G hg hq => hq.elim
    | _ => exact hQ _
  | .ret, f, f', H, Q, hs, hQ, h => hQ _ _ _ _ hs h
  | .bad, f, f', H, Q, hs, hQ, h => h.elim

theorem runO_wf (hrf : ∀ f vs H r H', rf f vs H = some (r, H') → WF H → WF H' ∧ ∀ R : V → Heap → Prop, R r H' → SC f vs H R) {o : AOper} {fr fr' : Fr} {H H' : Heap} (h : runO rf o fr H = some (fr', H')) (hw : WF H) : WF H' := by
  unfold runO at h
  split at h
  · cases h
  · cases h; exact hw
  · split at h
    · split at h
      · split at h
        · rename_i hx; cases h; exact exec_wf hw hx
        · cases h
      · cases h
    · split at h
      · cases h; exact hw
      · cases h
    · split at h
      · cases h; exact hw
      · cases h
    · split at h
      · split at h
        · rename_i hx; cases h; exact (hrf _ _ _ _ _ hx hw).1
        · cases h
      · cases h
    · split at h
      · split at h
        · rename_i hx; cases h; exact (hrf _ _ _ _ _ hx hw).1
        · cases h
      · cases h
    · cases h
theorem runO2_wp (hrf : ∀ f vs H r H', rf f vs H = some (r, H') → WF H → WF H' ∧ ∀ R : V → Heap → Prop, R r H' → SC f vs H R) {o : AOper} {fr fr' : Fr} {H H' : Heap} (hw : WF H) (h : runO rf o fr H = some (fr', H')) {K : Fr → Heap → Prop} (hK : K fr' H') : stepA SC o fr H K := by
  unfold runO at h
  unfold stepA
  cases hg : guardA fr o.g with
  | none => rw [hg] at h; cases h
  | some b =>
    rw [hg] at h
    cases b with
    | false => cases h; exact hK
    | true =>
      simp only at h ⊢
      cases ha : o.a with
      | ex k xs =>
        rw [ha] at h
        simp only at h ⊢
        split at h
        · rename_i vs he
          split at h
          · rename_i r H1 hx; cases h; rw [he]; simp only; rw [hx]; exact hK
          · cases h
        · cases h
      | fbits f x =>
        rw [ha] at h
        simp only at h ⊢
        split at h
        · rename_i b he; cases h; rw [he]; exact hK
        · cases h
      | ffrom f x =>
        rw [ha] at h
        simp only at h ⊢
        split at h
        · rename_i b he; cases h; rw [he]; exact hK
        · cases h
      | callf f xs =>
        rw [ha] at h
        simp only at h ⊢
        split at h
        · rename_i vs he
          split at h
          · rename_i r H1 hx; cases h; rw [he]; exact (hrf _ _ _ _ _ hx hw).2 _ hK
          · cases h
        · cases h
      | callv x xs =>
        rw [ha] at h
        simp only at h ⊢
        split at h
        · rename_i f first caps vs he he2
          split at h
          · rename_i r H1 hx; cases h; rw [he, he2]; exact (hrf _ _ _ _ _ hx hw).2 _ hK
          · cases h
        · cases h
      | bad => rw [ha] at h; cases h
theorem runA2_ok (hrf : ∀ f vs H r H', rf f vs H = some (r, H') → WF H → WF H' ∧ ∀ R : V → Heap → Prop, R r H' → SC f vs H R) : ∀ {l : List AOper} {fr fr' : Fr} {H H' : Heap}, runA rf l fr H = some (fr', H') → WF H → WF H' ∧ ∀ K : Fr → Heap → Prop, K fr' H' → wpA SC l fr H K
  | [], fr, fr', H, H', h, hw => by simp only [runA] at h; cases h; exact ⟨hw, fun K hK => hK⟩
  | o :: l, fr, fr', H, H', h, hw => by
    simp only [runA] at h
    split at h
    · rename_i f1 H1 ho
      obtain ⟨h1, h2⟩ := runA2_ok hrf h (runO_wf hrf ho hw)
      exact ⟨h1, fun K hK => runO2_wp hrf hw ho (K := fun fr H => wpA SC l fr H K) (h2 K hK)⟩
    · cases h
theorem runT2_ok (hM : SCMono SC) (hrf : ∀ f vs H r H', rf f vs H = some (r, H') → WF H → WF H' ∧ ∀ R : V → Heap → Prop, R r H' → SC f vs H R) : ∀ {t : DT} {fr fr' : Fr} {H H' : Heap}, runT2 rf t fr H = some (fr', H') → WF H → WF H' ∧ ∀ K : Fr → Heap → Prop, KMono K → K fr' H' → wpT SC t fr H K
  | .done, fr, fr', H, H', h, hw => by simp only [runT2] at h; cases h; exact ⟨hw, fun K _ hK => hK⟩
  | .op o t, fr, fr', H, H', h, hw => by
    simp only [runT2] at h
    split at h
    · rename_i f1 H1 ho
      obtain ⟨h1, h2⟩ := runT2_ok hM hrf h (runO_wf hrf ho hw)
      exact ⟨h1, fun K hm hK => runO2_wp hrf hw ho (K := fun fr H => wpT SC t fr H K) (h2 K hm hK)⟩
    · cases h
  | .fork a b, fr, fr', H, H', h, hw => by
    simp only [runT2] at h
    split at h
    · rename_i f1 H1 f2 H2 ha hb
      split at h
      · rename_i he
        cases h
        simp only [Bool.and_eq_true] at he
        obtain ⟨h1, h2⟩ := runT2_ok hM hrf ha hw
        obtain ⟨h3, h4⟩ := runT2_ok hM hrf hb hw
        refine ⟨h1, fun K hm hK => ⟨h2 K hm hK, h4 K hm ?_⟩⟩
        rw [← heapEq_eq h1 h3 he.1]
        exact hm _ _ _ (frEq_sub he.2) hK
      · cases h
    · cases h
theorem runLoop2_ok {body : Fr → Heap → Option (Exit × Fr × Heap)} {wb : Fr → Heap → (Exit → Fr → Heap → Prop) → Prop} (hb : ∀ fr H e fr' H', body fr H = some (e, fr', H') → WF H → WF H' ∧ ∀ Q : Exit → Fr → Heap → Prop, (∀ e, KMono (Q e)) → Q e fr' H' → wb fr H Q) :
    ∀ {n : Nat} {fr : Fr} {H : Heap} {e : Exit} {fr' : Fr} {H' : Heap}, runLoop body n fr H = some (e, fr', H') → WF H → WF H' ∧ ∀ Q : Exit → Fr → Heap → Prop, (∀ e, KMono (Q e)) → Q e fr' H' → wpLoop wb fr H Q := by
  intro n fr H e fr' H' h hw
  have hne := runLoop_ne h
  refine ⟨?_, fun Q hm hQ => ⟨fun k f G => ∃ f0, FrSub f0 f ∧ WF G ∧ runLoop body k f0 G = some (e, fr', H'), n, ⟨fr, FrSub.refl fr, hw, h⟩, ?_⟩⟩
  · clear hne
    induction n generalizing fr H with
    | zero => simp [runLoop] at h
    | succ n ih =>
      simp only [runLoop] at h
      split at h
      · rename_i f1 H1 hbd
        exact ih h (hb _ _ _ _ _ hbd hw).1
      · exact (hb _ _ _ _ _ h hw).1
  · rintro k f G ⟨f0, hs, hwG, hk⟩
    cases k with
    | zero => simp [runLoop] at hk
    | succ k =>
      simp only [runLoop] at hk
      refine ⟨f0, hs, ?_⟩
      have hmono : ∀ e' : Exit, KMono (fun fr2 H2 => match e' with
          | .normal => ∃ k', k' < k + 1 ∧ ∃ f0, FrSub f0 fr2 ∧ WF H2 ∧ runLoop body k' f0 H2 = some (e, fr', H')
          | e => Q e fr2 H2) := fun e' => by
        cases e' with
        | normal =>
          rintro g g' G' hg ⟨k', h1, f1, h2, h3⟩
          exact ⟨k', h1, f1, h2.trans hg, h3⟩
        | _ => exact hm _
      split at hk
      · rename_i f1 H1 hbd
        obtain ⟨q1, q2⟩ := hb _ _ _ _ _ hbd hwG
        exact q2 _ hmono ⟨k, Nat.lt_succ_self k, f1, FrSub.refl f1, q1, hk⟩
      · rename_i r hn
        obtain ⟨q1, q2⟩ := hb _ _ _ _ _ hk hwG
        refine q2 _ hmono ?_
        cases e with
        | normal => exact absurd rfl hne
        | _ => exact hQ
theorem runC2_ok (hM : SCMono SC) (hrf : ∀ f vs H r H', rf f vs H = some (r, H') → WF H → WF H' ∧ ∀ R : V → Heap → Prop, R r H' → SC f vs H R) {n : Nat} : ∀ (c : ACode) {fr fr' : Fr} {H H' : Heap} {e : Exit}, runC2 rf n c fr H = some (e, fr', H') → WF H → WF H' ∧ ∀ Q : Exit → Fr → Heap → Prop, (∀ e, KMono (Q e)) → Q e fr' H' → wpC SC c fr H Q
  | .skip, fr, fr', H, H', e, h, hw => by simp only [runC2] at h; cases h; exact ⟨hw, fun Q _ hQ => hQ⟩
  | .region ops, fr, fr', H, H', e, h, hw => by
    simp only [runC2] at h
    obtain ⟨p, h1, h2⟩ := map_some_eq h
    obtain ⟨f1, H1⟩ := p
    cases h2
    obtain ⟨q1, q2⟩ := runA2_ok hrf h1 hw
    exact ⟨q1, fun Q _ hQ => q2 (Q .normal) hQ⟩
  | .draw t, fr, fr', H, H', e, h, hw => by
    simp only [runC2] at h
    obtain ⟨p, h1, h2⟩ := map_some_eq h
    obtain ⟨f1, H1⟩ := p
    cases h2
    obtain ⟨q1, q2⟩ := runT2_ok hM hrf h1 hw
    exact ⟨q1, fun Q hm hQ => q2 (Q .normal) (hm .normal) hQ⟩
  | .seq a b, fr, fr', H, H', e, h, hw => by
    simp only [runC2] at h
    simp only [wpC]
    have hmono : ∀ Q : Exit → Fr → Heap → Prop, (∀ e, KMono (Q e)) → ∀ e' : Exit, KMono (fun fr H => match e' with
        | .normal => wpC SC b fr H Q
        | e => Q e fr H) := fun Q hm e' => by
      cases e' with
      | normal => exact fun g g' G hg hq => wpC_sub hM b hg hm hq
      | _ => exact hm _
    split at h
    · rename_i f1 H1 ha
      obtain ⟨q1, q2⟩ := runC2_ok hM hrf a ha hw
      obtain ⟨q3, q4⟩ := runC2_ok hM hrf b h q1
      exact ⟨q3, fun Q hm hQ => q2 _ (hmono Q hm) (q4 Q hm hQ)⟩
    · rename_i r hn
      obtain ⟨q1, q2⟩ := runC2_ok hM hrf a h hw
      refine ⟨q1, fun Q hm hQ => q2 _ (hmono Q hm) ?_⟩
      cases e with
      | normal => exact absurd h (hn _ _)
      | _ => exact hQ
  | .cond x a b, fr, fr', H, H', e, h, hw => by
    simp only [runC2] at h
    simp only [wpC]
    split at h
    · rename_i hx; rw [hx]; exact runC2_ok hM hrf a h hw
    · rename_i hx; rw [hx]; exact runC2_ok hM hrf b h hw
    · cases h
  | .block id a, fr, fr', H, H', e, h, hw => by
    simp only [runC2] at h
    simp only [wpC]
    have hmono : ∀ Q : Exit → Fr → Heap → Prop, (∀ e, KMono (Q e)) → ∀ e' : Exit, KMono (fun fr H => match e' with
        | .exit i => if i = id then Q .normal fr H else Q (.exit i) fr H
        | e => Q e fr H) := fun Q hm e' => by
      cases e' with
      | exit i =>
        intro g g' G hg hq
        simp only at hq ⊢
        split
        · rename_i hi; rw [if_pos hi] at hq; exact hm _ _ _ _ hg hq
        · rename_i hi; rw [if_neg hi] at hq; exact hm _ _ _ _ hg hq
      | _ => exact hm _
    split at h
    · rename_i i f1 H1 ha
      obtain ⟨q1, q2⟩ := runC2_ok hM hrf a ha hw
      split at h
      · rename_i hi; cases h; exact ⟨q1, fun Q hm hQ => q2 _ (hmono Q hm) (by simp only; rw [if_pos hi]; exact hQ)⟩
      · rename_i hi; cases h; exact ⟨q1, fun Q hm hQ => q2 _ (hmono Q hm) (by simp only; rw [if_neg hi]; exact hQ)⟩
    · rename_i r hn
      obtain ⟨q1, q2⟩ := runC2_ok hM hrf a h hw
      refine ⟨q1, fun Q hm hQ => q2 _ (hmono Q hm) ?_⟩
      cases e with
      | exit i => exact absurd h (hn _ _ _)
      | _ => exact hQ
  | .loop a, fr, fr', H, H', e, h, hw => by
    simp only [runC2] at h
    simp only [wpC]
    exact runLoop2_ok (fun fr H e fr' H' hb hw => runC2_ok hM hrf a hb hw) h hw
  | .exit id, fr, fr', H, H', e, h, hw => by simp only [runC2] at h; cases h; exact ⟨hw, fun Q _ hQ => hQ⟩
  | .scope a, fr, fr', H, H', e, h, hw => by
    simp only [runC2] at h
    simp only [wpC]
    split at h
    · cases h
    · rename_i r hn
      obtain ⟨q1, q2⟩ := runC2_ok hM hrf a h hw
      refine ⟨q1, fun Q hm hQ => q2 _ (fun e' => ?_) ?_⟩
      · cases e' with
        | goto i => exact fun g g' G hg hq => hq.elim
        | _ => exact hm _
      · cases e with
        | goto i => exact absurd h (hn _ _ _)
        | _ => exact hQ
  | .ret, fr, fr', H, H', e, h, hw => by simp only [runC2] at h; cases h; exact ⟨hw, fun Q _ hQ => hQ⟩
  | .bad, fr, fr', H, H', e, h, hw => by simp only [runC2] at h; cases h
end

theorem resOne_mono {fr fr' : Fr} (hs : FrSub fr fr') {H : Heap} {r : ARes} {v : V} (h : resOne fr H r = some v) : resOne fr' H r = some v := by
  cases r with
  | t i => exact hs _ _ h
  | c i =>
    simp only [resOne] at h ⊢
    split at h
    · rename_i id off hg; rw [hs _ _ hg]; exact h
    · cases h
  | ca i n =>
    simp only [resOne] at h ⊢
    split at h
    · rename_i id off hg; rw [hs _ _ hg]; exact h
    · cases h
theorem resAll_mono {fr fr' : Fr} (hs : FrSub fr fr') {H : Heap} : ∀ {rs : List ARes} {vs : List V}, resAll fr H rs = some vs → resAll fr' H rs = some vs
  | [], vs, h => h
  | r :: rs, vs, h => by
    simp only [resAll] at h ⊢
    split at h
    · rename_i v us h1 h2
      rw [resOne_mono hs h1, resAll_mono hs h2]
      exact h
    · cases h
theorem runFn2_sound {P : Program} {tbl : FuncId → Option AFn} (ht : ∀ f af, tbl f = some af → compFn P f = some af) (k : Nat) : ∀ (n : Nat) (f : FuncId) (vs : List V) (H : Heap) (r : V) (H' : Heap), runFn2 tbl k n f vs H = some (r, H') → WF H →
    WF H' ∧ ∀ R : V → Heap → Prop, R r H' → SCalls P f vs H R
  | 0, f, vs, H, r, H', h, hw => by simp [runFn2] at h
  | n + 1, f, vs, H, r, H', h, hw => by
    simp only [runFn2] at h
    split at h
    · rename_i af haf
      split at h
      · rename_i hl
        split at h
        · rename_i e fr H1 hc
          split at h
          · rename_i he
            split at h
            · rename_i rs hrs
              cases h
              obtain ⟨q1, q2⟩ := runC2_ok (SC := SCalls P) SCalls.scMono (fun f vs H r H' hx hw => runFn2_sound ht k n f vs H r H' hx hw) af.body hc hw
              refine ⟨q1, fun R hR => SCalls.intro (SC := SCalls P) (fun _ _ _ _ h => h) SCalls.scWf SCalls.scMono (ht f af haf) hl (q2 _ (fun e' => ?_) ?_)⟩
              · rintro g g' G hg ⟨h1, rs', h2, h3⟩
                exact ⟨h1, rs', resAll_mono hg h2, h3⟩
              · refine ⟨?_, rs, hrs, hR⟩
                cases e <;> simp [isEnd] at he <;> simp
            · cases h
          · cases h
        · cases h
      · cases h
    · cases h
theorem SCalls.worked2 {P : Program} {tbl : FuncId → Option AFn} (ht : ∀ f af, tbl f = some af → compFn P f = some af) {k n : Nat} {f : FuncId} {vs : List V} (hvs : flatL vs = true) {c : V} (hc : c.flat = true) (h : (runFn2 tbl k n f vs H0).map (·.1) = some c) (H : Heap) :
    SCalls P f vs H fun r H' => H' = H ∧ r = c := by
  refine SCalls.closed hvs hc ?_ H
  cases hr : runFn2 tbl k n f vs H0 with
  | none => rw [hr] at h; cases h
  | some p =>
    obtain ⟨r, H'⟩ := p
    rw [hr] at h
    simp at h
    exact (runFn2_sound ht k n f vs H0 r H' hr (fun id o e => by simp [H0] at e)).2 _ h
end Go.Proofs.YtkmaikggdbielaaGreatDoor.Fw
