/- The framework, part R: a call that leaves what was there as it was; and calls that are worked out by the evaluator. No condition. -/
import Derived.Test.YtkmaikggdbielaaGreatDoorP
namespace Go.Proofs.YtkmaikggdbielaaGreatDoor.Fw
open Go
set_option linter.unusedSimpArgs false
set_option linter.unusedVariables false

/-- H' has all that H has, as it was, and perhaps more. -/
structure Ext (H H' : Heap) : Prop where
  gn : H'.gn = H.gn
  next : H.next ≤ H'.next
  get : ∀ id, id < H.next → H'.get id = H.get id
theorem Ext.refl (H : Heap) : Ext H H := ⟨rfl, Nat.le_refl _, fun _ _ => rfl⟩
theorem Ext.trans {a b c : Heap} (h : Ext a b) (k : Ext b c) : Ext a c :=
  ⟨k.gn.trans h.gn, Nat.le_trans h.next k.next, fun id hi => (k.get id (Nat.lt_of_lt_of_le hi h.next)).trans (h.get id hi)⟩
theorem Ext.new {a b : Heap} (h : Ext a b) (o : Ob) : Ext a (b.new o) :=
  ⟨h.gn, Nat.le_trans h.next (Nat.le_succ _), fun id hi => by
    rw [Heap.new_get, if_neg (by have := h.next; omega)]; exact h.get id hi⟩
theorem Ext.set {a b : Heap} (h : Ext a b) {i : Nat} (hi : a.next ≤ i) (o : Ob) : Ext a (b.set i o) :=
  ⟨h.gn, h.next, fun id hid => by rw [Heap.set_get, if_neg (by omega)]; exact h.get id hid⟩
theorem Ext.kill {a b : Heap} (h : Ext a b) {i : Nat} (hi : a.next ≤ i) : Ext a (b.kill i) :=
  ⟨h.gn, h.next, fun id hid => by rw [Heap.kill_get, if_neg (by omega)]; exact h.get id hid⟩

mutual
def V.flat : V → Bool
  | .bool _ | .int _ _ | .float _ _ | .str _ | .nilp | .nils | .nilm | .nilf => true
  | .agg cs => flatL cs
  | .tup cs => flatL cs
  | .fn _ a b => flatL a && flatL b
  | _ => false
def flatL : List V → Bool
  | [] => true
  | v :: vs => v.flat && flatL vs
end

mutual
theorem VRel.flat {m m' : Nat → Pl} {H H' : Heap} : ∀ (v : V) (x : Value), v.flat = true → VRel m H v x → VRel m' H' v x
  | .bool b, x, hf, h => by simpa only [VRel] using h
  | .int k n, x, hf, h => by simpa only [VRel] using h
  | .float k n, x, hf, h => by simpa only [VRel] using h
  | .str s, x, hf, h => by simpa only [VRel] using h
  | .nilp, x, hf, h => by simpa only [VRel] using h
  | .nils, x, hf, h => by simpa only [VRel] using h
  | .nilm, x, hf, h => by simpa only [VRel] using h
  | .nilf, x, hf, h => by simpa only [VRel] using h
  | .ptr _ _, x, hf, h => by simp [V.flat] at hf
  | .slice _ _ _ _, x, hf, h => by simp [V.flat] at hf
  | .map _, x, hf, h => by simp [V.flat] at hf
  | .fn f a b, x, hf, h => by
    simp only [V.flat, Bool.and_eq_true] at hf
    simp only [VRel] at h ⊢
    obtain ⟨a', b', e, h1, h2⟩ := h
    exact ⟨a', b', e, VRelL.flat a _ hf.1 h1, VRelL.flat b _ hf.2 h2⟩
  | .agg cs, x, hf, h => by
    simp only [V.flat] at hf
    simp only [VRel] at h ⊢
    obtain ⟨a', e, h1⟩ := h
    exact ⟨a', e, VRelL.flat cs _ hf h1⟩
  | .tup cs, x, hf, h => by
    simp only [V.flat] at hf
    simp only [VRel] at h ⊢
    obtain ⟨a', e, h1⟩ := h
    exact ⟨a', e, VRelL.flat cs _ hf h1⟩
theorem VRelL.flat {m m' : Nat → Pl} {H H' : Heap} : ∀ (vs : List V) (xs : List Value), flatL vs = true → VRelL m H vs xs → VRelL m' H' vs xs
  | [], xs, hf, h => by simpa only [VRelL] using h
  | v :: vs, xs, hf, h => by
    simp only [flatL, Bool.and_eq_true] at hf
    simp only [VRelL] at h ⊢
    obtain ⟨x, ys, e, h1, h2⟩ := h
    exact ⟨x, ys, e, VRel.flat v x hf.1 h1, VRelL.flat vs ys hf.2 h2⟩
end

section
variable {m m1 : Nat → Pl} {H H1 : Heap}
theorem Ext.pl (he : Ext H H1) (hk : Keeps m H m1 H1) {id : Nat} (hi : id < H.next) {o : Ob} (ho : H.get id = some o) : m1 id = m id :=
  (hk.keep id o o ho (by rw [he.get id hi]; exact ho)).1

mutual
theorem VRel.back (he : Ext H H1) (hk : Keeps m H m1 H1) : ∀ (v : V) (x0 x : Value), VRel m H v x0 → VRel m1 H1 v x → VRel m H v x
  | .bool b, x0, x, h0, h => by simpa only [VRel] using h
  | .int k n, x0, x, h0, h => by simpa only [VRel] using h
  | .float k n, x0, x, h0, h => by simpa only [VRel] using h
  | .str s, x0, x, h0, h => by simpa only [VRel] using h
  | .nilp, x0, x, h0, h => by simpa only [VRel] using h
  | .nils, x0, x, h0, h => by simpa only [VRel] using h
  | .nilm, x0, x, h0, h => by simpa only [VRel] using h
  | .nilf, x0, x, h0, h => by simpa only [VRel] using h
  | .ptr id off, x0, x, h0, h => by
    simp only [VRel] at h0 h ⊢
    obtain ⟨a0, _, hi, _⟩ := h0
    obtain ⟨a, e, _, h2⟩ := h
    refine ⟨a, e, hi, fun hn => ?_⟩
    obtain ⟨o, ho⟩ := Option.ne_none_iff_exists'.1 hn
    rw [← he.pl hk hi ho]
    exact h2 (by rw [he.get id hi]; exact hn)
  | .slice id off len cap, x0, x, h0, h => by
    simp only [VRel] at h0 h ⊢
    obtain ⟨a0, c0, _, hi, _⟩ := h0
    obtain ⟨a, c, e, _, h2, h3, h4⟩ := h
    refine ⟨a, c, e, hi, h2, h3, fun hc o ho => ?_⟩
    have := h4 hc o (by rw [he.get id hi]; exact ho)
    rwa [he.pl hk hi ho] at this
  | .map id, x0, x, h0, h => by
    simp only [VRel] at h0 h ⊢
    obtain ⟨a0, _, hi, _⟩ := h0
    obtain ⟨a, e, _, h2⟩ := h
    refine ⟨a, e, hi, fun hn => ?_⟩
    obtain ⟨o, ho⟩ := Option.ne_none_iff_exists'.1 hn
    rw [← he.pl hk hi ho]
    exact h2 (by rw [he.get id hi]; exact hn)
  | .fn f a b, x0, x, h0, h => by
    simp only [VRel] at h0 h ⊢
    obtain ⟨a0, b0, _, g1, g2⟩ := h0
    obtain ⟨a', b', e, h1, h2⟩ := h
    exact ⟨a', b', e, VRelL.back he hk a _ _ g1 h1, VRelL.back he hk b _ _ g2 h2⟩
  | .agg cs, x0, x, h0, h => by
    simp only [VRel] at h0 h ⊢
    obtain ⟨a0, _, g1⟩ := h0
    obtain ⟨a', e, h1⟩ := h
    exact ⟨a', e, VRelL.back he hk cs _ _ g1 h1⟩
  | .tup cs, x0, x, h0, h => by
    simp only [VRel] at h0 h ⊢
    obtain ⟨a0, _, g1⟩ := h0
    obtain ⟨a', e, h1⟩ := h
    exact ⟨a', e, VRelL.back he hk cs _ _ g1 h1⟩
theorem VRelL.back (he : Ext H H1) (hk : Keeps m H m1 H1) : ∀ (vs : List V) (xs0 xs : List Value), VRelL m H vs xs0 → VRelL m1 H1 vs xs → VRelL m H vs xs
  | [], xs0, xs, h0, h => by simpa only [VRelL] using h
  | v :: vs, xs0, xs, h0, h => by
    simp only [VRelL] at h0 h ⊢
    obtain ⟨x0, ys0, _, g1, g2⟩ := h0
    obtain ⟨x, ys, e, h1, h2⟩ := h
    exact ⟨x, ys, e, VRel.back he hk v x0 x g1 h1, VRelL.back he hk vs ys0 ys g2 h2⟩
end

theorem Rel.back {w w1 : World} (hr : Rel m H w) (he : Ext H H1) (hr1 : Rel m1 H1 w1) (hev : Ev m H w m1 H1 w1) : Rel m H w1 ∧ Ev m H w m H w1 := by
  have hk := hev.keeps
  refine ⟨⟨hr.glob, hr.bound, fun id o ho => ?_, hr.apart⟩, ⟨hr.bound, Nat.le_refl _, fun _ _ h => h, Keeps.refl.keep, hev.os, hev.tape, hev.output, hev.size, hev.block, fun id o ho hw => .inl ⟨id, o, ho, hw, rfl⟩⟩⟩
  have hi := hr.bound id o ho
  have ho1 : H1.get id = some o := by rw [he.get id hi]; exact ho
  have hp := he.pl hk hi ho
  have g0 := hr.obs id o ho
  have g1 := hr1.obs id o ho1
  cases o with
  | row ro esz cells =>
    obtain ⟨c0, e0, fz0, _, _, r0, _⟩ := g0
    obtain ⟨c, e, fz, h1, h2, h3, h4⟩ := g1
    rw [hp] at h1 h2 h3
    refine ⟨c, e, fz, h1, h2, fun j v hj => ?_, h4⟩
    obtain ⟨x0, _, hv0⟩ := r0 j v hj
    obtain ⟨x, hx, hv⟩ := h3 j v hj
    exact ⟨x, hx, VRel.back he hk v x0 x hv0 hv⟩
  | mapo es =>
    obtain ⟨es0, cl0, _, k0, v0⟩ := g0
    obtain ⟨es1, cl1, h1, k1, v1⟩ := g1
    rw [hp] at h1
    exact ⟨es1, cl1, h1, VRelL.back he hk _ _ _ k0 k1, VRelL.back he hk _ _ _ v0 v1⟩
  | iter s pos =>
    obtain ⟨b0, _⟩ := g0
    obtain ⟨b1, h1⟩ := g1
    rw [hp] at h1
    exact ⟨b0, h1⟩
end

section
variable {P : Program}
/-- What a call leaves behind beside what was there is dropped. -/
theorem SCalls.keep {f : FuncId} {vs : List V} {H : Heap} {R : V → Prop} (h : SCalls P f vs H fun r H' => Ext H H' ∧ R r ∧ r.flat = true) : SCalls P f vs H fun r H' => H' = H ∧ R r :=
  ⟨h.1, fun m w xs hr hv => (h.2 m w xs hr hv).mono fun e w1 he => by
    obtain ⟨r, H1, m1, x, rfl, ⟨hx, hR, hf⟩, hvx, hr1, hev⟩ := he
    obtain ⟨hr2, hev2⟩ := hr.back hx hr1 hev
    exact ⟨r, H, m, x, rfl, ⟨rfl, hR⟩, VRel.flat r x hf hvx, hr2, hev2⟩⟩

/-- The heap may be taken as well formed. -/
theorem SCalls.wf {f : FuncId} {vs : List V} {H : Heap} {R : V → Heap → Prop} (hok : FnOk P f) (h : (∀ id o, H.get id = some o → id < H.next) → SCalls P f vs H R) : SCalls P f vs H R :=
  ⟨hok, fun m w xs hr hv => (h hr.bound).2 m w xs hr hv⟩
end

/-! ### The evaluator -/
def isEnd : Exit → Bool
  | .normal => true
  | .ret => true
  | _ => false
section
variable (rf : FuncId → List V → Heap → Option (V × Heap))
def runO (o : AOper) (fr : Fr) (H : Heap) : Option (Fr × Heap) :=
  match guardA fr o.g with
  | none => none
  | some false => some (fr.put o.dst .undef, H)
  | some true =>
    match o.a with
    | .ex k xs => match evL fr H xs with
      | some vs => match exec k vs H with
        | some (r, H') => some (fr.put o.dst r, H')
        | none => none
      | none => none
    | .fbits _ x => match x.ev fr H with
      | some (.float .f64 b) => some (fr.put o.dst (.int .u64 b), H)
      | _ => none
    | .ffrom _ x => match x.ev fr H with
      | some (.int .u64 n) => some (fr.put o.dst (.float .f64 n.toNat), H)
      | _ => none
    | .callf f xs => match evL fr H xs with
      | some vs => match rf f vs H with
        | some (r, H') => some (fr.put o.dst r, H')
        | none => none
      | none => none
    | .callv x xs => match x.ev fr H, evL fr H xs with
      | some (.fn (.func f) first caps), some vs => match rf f (first ++ vs ++ caps) H with
        | some (r, H') => some (fr.put o.dst r, H')
        | none => none
      | _, _ => none
    | .bad => none
def runA : List AOper → Fr → Heap → Option (Fr × Heap)
  | [], fr, H => some (fr, H)
  | o :: l, fr, H => match runO rf o fr H with
    | some (fr, H) => runA l fr H
    | none => none
/-- One order, where the tree has one. -/
def runT : DT → Fr → Heap → Option (Fr × Heap)
  | .done, fr, H => some (fr, H)
  | .op o t, fr, H => match runO rf o fr H with
    | some (fr, H) => runT t fr H
    | none => none
  | .fork _ _, _, _ => none
def runLoop (body : Fr → Heap → Option (Exit × Fr × Heap)) : Nat → Fr → Heap → Option (Exit × Fr × Heap)
  | 0, _, _ => none
  | n + 1, fr, H => match body fr H with
    | some (.normal, fr, H) => runLoop body n fr H
    | r => r
def runC (n : Nat) : ACode → Fr → Heap → Option (Exit × Fr × Heap)
  | .skip, fr, H => some (.normal, fr, H)
  | .region ops, fr, H => (runA rf ops fr H).map fun (fr, H) => (.normal, fr, H)
  | .draw t, fr, H => (runT rf t fr H).map fun (fr, H) => (.normal, fr, H)
  | .seq a b, fr, H => match runC n a fr H with
    | some (.normal, fr, H) => runC n b fr H
    | r => r
  | .cond x a b, fr, H => match x.ev fr H with
    | some (.bool true) => runC n a fr H
    | some (.bool false) => runC n b fr H
    | _ => none
  | .block id a, fr, H => match runC n a fr H with
    | some (.exit i, fr, H) => if i = id then some (.normal, fr, H) else some (.exit i, fr, H)
    | r => r
  | .loop a, fr, H => runLoop (runC n a) n fr H
  | .exit id, fr, H => some (.exit id, fr, H)
  | .scope a, fr, H => match runC n a fr H with
    | some (.goto _, _, _) => none
    | r => r
  | .ret, fr, H => some (.ret, fr, H)
  | .bad, _, _ => none
end
def runFn (tbl : FuncId → Option AFn) (k : Nat) : Nat → FuncId → List V → Heap → Option (V × Heap)
  | 0, _, _, _ => none
  | n + 1, f, vs, H => match tbl f with
    | some af => if vs.length ≤ af.n then match runC (runFn tbl k n) k af.body (enterFr vs) H with
        | some (e, fr, H') => if isEnd e then match resAll fr H' af.res with
            | some rs => some (resV rs, H')
            | none => none
          else none
        | none => none
      else none
    | none => none

section
variable {SC : FuncId → List V → Heap → (V → Heap → Prop) → Prop} {rf : FuncId → List V → Heap → Option (V × Heap)}

theorem runO_wp (hrf : ∀ f vs H r H', rf f vs H = some (r, H') → ∀ R : V → Heap → Prop, R r H' → SC f vs H R) {o : AOper} {fr fr' : Fr} {H H' : Heap} (h : runO rf o fr H = some (fr', H')) {K : Fr → Heap → Prop} (hK : K fr' H') : stepA SC o fr H K := by
  unfold runO at h
  unfold stepA
  cases hg : guardA fr o.g with
  | none => rw [hg] at h; cases h
  | some b =>
    rw [hg] at h
    cases b with
    | false => cases h; exact hK
    | true =>
      simp only at h ⊢
      cases ha : o.a with
      | ex k xs =>
        rw [ha] at h
        simp only at h ⊢
        split at h
        · rename_i vs he
          split at h
          · rename_i r H1 hx; cases h; rw [he]; simp only; rw [hx]; exact hK
          · cases h
        · cases h
      | fbits f x =>
        rw [ha] at h
        simp only at h ⊢
        split at h
        · rename_i b he; cases h; rw [he]; exact hK
        · cases h
      | ffrom f x =>
        rw [ha] at h
        simp only at h ⊢
        split at h
        · rename_i b he; cases h; rw [he]; exact hK
        · cases h
      | callf f xs =>
        rw [ha] at h
        simp only at h ⊢
        split at h
        · rename_i vs he
          split at h
          · rename_i r H1 hx; cases h; rw [he]; exact hrf _ _ _ _ _ hx _ hK
          · cases h
        · cases h
      | callv x xs =>
        rw [ha] at h
        simp only at h ⊢
        split at h
        · rename_i f first caps vs he he2
          split at h
          · rename_i r H1 hx; cases h; rw [he, he2]; exact hrf _ _ _ _ _ hx _ hK
          · cases h
        · cases h
      | bad => rw [ha] at h; cases h
theorem runA_wp (hrf : ∀ f vs H r H', rf f vs H = some (r, H') → ∀ R : V → Heap → Prop, R r H' → SC f vs H R) : ∀ {l : List AOper} {fr fr' : Fr} {H H' : Heap}, runA rf l fr H = some (fr', H') → ∀ {K : Fr → Heap → Prop}, K fr' H' → wpA SC l fr H K
  | [], fr, fr', H, H', h, K, hK => by simp only [runA] at h; cases h; exact hK
  | o :: l, fr, fr', H, H', h, K, hK => by
    simp only [runA] at h
    split at h
    · rename_i f1 H1 ho
      exact runO_wp hrf ho (K := fun fr H => wpA SC l fr H K) (runA_wp hrf h hK)
    · cases h
theorem runT_wp (hrf : ∀ f vs H r H', rf f vs H = some (r, H') → ∀ R : V → Heap → Prop, R r H' → SC f vs H R) : ∀ {t : DT} {fr fr' : Fr} {H H' : Heap}, runT rf t fr H = some (fr', H') → ∀ {K : Fr → Heap → Prop}, K fr' H' → wpT SC t fr H K
  | .done, fr, fr', H, H', h, K, hK => by simp only [runT] at h; cases h; exact hK
  | .op o t, fr, fr', H, H', h, K, hK => by
    simp only [runT] at h
    split at h
    · rename_i f1 H1 ho
      exact runO_wp hrf ho (K := fun fr H => wpT SC t fr H K) (runT_wp hrf h hK)
    · cases h
  | .fork a b, fr, fr', H, H', h, K, hK => by simp only [runT] at h; cases h

theorem runLoop_wp {body : Fr → Heap → Option (Exit × Fr × Heap)} {wb : Fr → Heap → (Exit → Fr → Heap → Prop) → Prop} (hb : ∀ fr H e fr' H', body fr H = some (e, fr', H') → ∀ Q : Exit → Fr → Heap → Prop, Q e fr' H' → wb fr H Q)
    {n : Nat} {fr : Fr} {H : Heap} {e : Exit} {fr' : Fr} {H' : Heap} (h : runLoop body n fr H = some (e, fr', H')) {Q : Exit → Fr → Heap → Prop} (hQ : Q e fr' H') (hne : e ≠ .normal) : wpLoop wb fr H Q := by
  refine ⟨fun k f G => runLoop body k f G = some (e, fr', H'), n, h, fun k f G hk => ?_⟩
  cases k with
  | zero => simp [runLoop] at hk
  | succ k =>
    simp only [runLoop] at hk
    refine ⟨f, FrSub.refl f, ?_⟩
    split at hk
    · rename_i f1 H1 hbd
      exact hb _ _ _ _ _ hbd _ ⟨k, Nat.lt_succ_self k, hk⟩
    · rename_i r hn
      refine hb _ _ _ _ _ hk _ ?_
      cases e with
      | normal => exact absurd rfl hne
      | _ => exact hQ

theorem runLoop_ne {body : Fr → Heap → Option (Exit × Fr × Heap)} : ∀ {n : Nat} {fr : Fr} {H : Heap} {e : Exit} {fr' : Fr} {H' : Heap}, runLoop body n fr H = some (e, fr', H') → e ≠ .normal
  | 0, fr, H, e, fr', H', h => by simp [runLoop] at h
  | n + 1, fr, H, e, fr', H', h => by
    simp only [runLoop] at h
    split at h
    · exact runLoop_ne h
    · rename_i hn
      intro he
      subst he
      exact hn _ _ h

theorem runC_wp (hrf : ∀ f vs H r H', rf f vs H = some (r, H') → ∀ R : V → Heap → Prop, R r H' → SC f vs H R) {n : Nat} : ∀ (c : ACode) {fr fr' : Fr} {H H' : Heap} {e : Exit}, runC rf n c fr H = some (e, fr', H') → ∀ {Q : Exit → Fr → Heap → Prop}, Q e fr' H' → wpC SC c fr H Q
  | .skip, fr, fr', H, H', e, h, Q, hQ => by simp only [runC] at h; cases h; exact hQ
  | .region ops, fr, fr', H, H', e, h, Q, hQ => by
    simp only [runC] at h
    obtain ⟨p, h1, h2⟩ := map_some_eq h
    obtain ⟨f1, H1⟩ := p
    cases h2
    exact runA_wp hrf h1 (K := Q .normal) hQ
  | .draw t, fr, fr', H, H', e, h, Q, hQ => by
    simp only [runC] at h
    obtain ⟨p, h1, h2⟩ := map_some_eq h
    obtain ⟨f1, H1⟩ := p
    cases h2
    exact runT_wp hrf h1 (K := Q .normal) hQ
  | .seq a b, fr, fr', H, H', e, h, Q, hQ => by
    simp only [runC] at h
    simp only [wpC]
    split at h
    · rename_i f1 H1 ha
      refine runC_wp hrf a ha ?_
      exact runC_wp hrf b h hQ
    · rename_i r hn
      refine runC_wp hrf a h ?_
      cases e with
      | normal => exact absurd h (hn _ _)
      | _ => exact hQ
  | .cond x a b, fr, fr', H, H', e, h, Q, hQ => by
    simp only [runC] at h
    simp only [wpC]
    split at h
    · rename_i hx; rw [hx]; exact runC_wp hrf a h hQ
    · rename_i hx; rw [hx]; exact runC_wp hrf b h hQ
    · cases h
  | .block id a, fr, fr', H, H', e, h, Q, hQ => by
    simp only [runC] at h
    simp only [wpC]
    split at h
    · rename_i i f1 H1 ha
      refine runC_wp hrf a ha ?_
      simp only
      split at h
      · rename_i hi; cases h; rw [if_pos hi]; exact hQ
      · rename_i hi; cases h; rw [if_neg hi]; exact hQ
    · rename_i r hn
      refine runC_wp hrf a h ?_
      cases e with
      | exit i => exact absurd h (hn _ _ _)
      | _ => exact hQ
  | .loop a, fr, fr', H, H', e, h, Q, hQ => by
    simp only [runC] at h
    simp only [wpC]
    exact runLoop_wp (fun fr H e fr' H' hb Q hQ => runC_wp hrf a hb hQ) h hQ (runLoop_ne h)
  | .exit id, fr, fr', H, H', e, h, Q, hQ => by simp only [runC] at h; cases h; exact hQ
  | .scope a, fr, fr', H, H', e, h, Q, hQ => by
    simp only [runC] at h
    simp only [wpC]
    split at h
    · cases h
    · rename_i r hn
      refine runC_wp hrf a h ?_
      cases e with
      | goto i => exact absurd h (hn _ _ _)
      | _ => exact hQ
  | .ret, fr, fr', H, H', e, h, Q, hQ => by simp only [runC] at h; cases h; exact hQ
  | .bad, fr, fr', H, H', e, h, Q, hQ => by simp only [runC] at h; cases h
end

theorem runFn_sound {P : Program} {tbl : FuncId → Option AFn} (ht : ∀ f af, tbl f = some af → compFn P f = some af) (k : Nat) : ∀ (n : Nat) (f : FuncId) (vs : List V) (H : Heap) (r : V) (H' : Heap), runFn tbl k n f vs H = some (r, H') →
    ∀ R : V → Heap → Prop, R r H' → SCalls P f vs H R
  | 0, f, vs, H, r, H', h, R, hR => by simp [runFn] at h
  | n + 1, f, vs, H, r, H', h, R, hR => by
    simp only [runFn] at h
    split at h
    · rename_i af haf
      split at h
      · rename_i hl
        split at h
        · rename_i e fr H1 hc
          split at h
          · rename_i he
            split at h
            · rename_i rs hrs
              cases h
              refine SCalls.intro (SC := SCalls P) (fun _ _ _ _ h => h) SCalls.scWf SCalls.scMono (ht f af haf) hl ?_
              refine runC_wp (fun f vs H r H' hx R hR => runFn_sound ht k n f vs H r H' hx R hR) af.body hc ?_
              refine ⟨?_, rs, hrs, hR⟩
              cases e <;> simp [isEnd] at he <;> simp
            · cases h
          · cases h
        · cases h
      · cases h
    · cases h
end Go.Proofs.YtkmaikggdbielaaGreatDoor.Fw
