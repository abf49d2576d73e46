/- The framework, part E: the operations on abstract values do what the model's do, second part: comparisons, places, loads. No condition. -/
import Derived.Test.YtkmaikggdbielaaGreatDoorD
namespace Go.Proofs.YtkmaikggdbielaaGreatDoor.Fw
open Go
set_option linter.unusedSimpArgs false
set_option linter.unusedVariables false
section
variable {P : Program} {m : Nat → Pl} {H H' : Heap} {w : World}

theorem sameL_append : ∀ {ks ls : List Nat} {a c b d : List V} {r : Bool}, a.length = ks.length → c.length = ks.length → sameL (ks ++ ls) (a ++ b) (c ++ d) = some r →
    ∃ r1 r2, sameL ks a c = some r1 ∧ sameL ls b d = some r2 ∧ r = (r1 && r2)
  | [], ls, a, c, b, d, r, h1, h2, h => by
    obtain rfl := List.eq_nil_of_length_eq_zero h1
    obtain rfl := List.eq_nil_of_length_eq_zero h2
    exact ⟨true, r, rfl, h, by simp⟩
  | k :: ks, ls, [], _, _, _, _, h1, _, _ => by simp at h1
  | k :: ks, ls, _ :: _, [], _, _, _, _, h1, _ => by simp at h1
  | k :: ks, ls, x :: a, y :: c, b, d, r, h1, h2, h => by
    simp only [List.cons_append, sameL] at h
    split at h
    · rename_i p q e1 e2
      cases h
      obtain ⟨r1, r2, g1, g2, g3⟩ := sameL_append (by simpa using h1) (by simpa using h2) e2
      exact ⟨p && r1, r2, by simp [sameL, e1, g1], g2, by rw [g3, Bool.and_assoc]⟩
    · cases h

theorem VRel.same0 {v u : V} {b : Bool} (h : V.sameK 0 v u = some b) {x y : Value} (hx : VRel m H v x) (hy : VRel m H u y) :
    ∃ k a c, x = .int k a ∧ y = .int k c ∧ b = (a == c) := by
  unfold V.sameK at h
  split at h
  · split at h
    · rename_i hk; subst hk; cases h
      exact ⟨_, _, _, hx.int_inv, hy.int_inv, rfl⟩
    · cases h
  · simp_all
  · simp_all
  · cases h
theorem VRel.same1 {v u : V} {b : Bool} (h : V.sameK 1 v u = some b) {x y : Value} (hx : VRel m H v x) (hy : VRel m H u y) :
    ∃ a c, x = .bool a ∧ y = .bool c ∧ b = (a == c) := by
  unfold V.sameK at h
  split at h
  · simp_all
  · cases h; exact ⟨_, _, hx.bool_inv, hy.bool_inv, rfl⟩
  · simp_all
  · cases h
theorem VRel.same2 {v u : V} {b : Bool} (h : V.sameK 2 v u = some b) {x y : Value} (hx : VRel m H v x) (hy : VRel m H u y) :
    ∃ a c, x = .string a ∧ y = .string c ∧ b = (a.toList == c.toList) := by
  unfold V.sameK at h
  split at h
  · simp_all
  · simp_all
  · cases h; exact ⟨_, _, hx.str_inv, hy.str_inv, rfl⟩
  · cases h

/-- The comparison of a part of an aggregate. -/
def eqPart (D : Nat) (t : TypeId) (xs ys : Array Value) (off : Nat) : Sem Bool := do
  let a ← part t xs off
  let b ← part t ys off
  Op.equalIn D t a b

theorem run_part_agg {t : TypeId} (h : isAggT P t = some true) (xs : Array Value) (off : Nat) (n : Nat) (hn : sizeA P t = some n) :
    (part t xs off).run P w = .ok (.agg (xs.extract off (off + n))) w := by
  unfold part
  simp [Sem.run_bind, run_isAgg h, run_sizeOf hn]
theorem run_part_one {t : TypeId} (h : isAggT P t = some false) (xs : Array Value) (off : Nat) (x : Value) (hx : xs[off]? = some x) :
    (part t xs off).run P w = .ok x w := by
  unfold part
  simp [Sem.run_bind, run_isAgg h, hx]

theorem sizeA_of_cellsOf {t : TypeId} {d : TypeDesc} (h : P.underlying t = some d) : sizeA P t = some (P.cellsOf t) := by
  unfold Program.underlying at h
  unfold sizeA Program.cellsOf
  cases hi : P.info? t with
  | none => rw [hi] at h; cases h
  | some i => simp

theorem drop_take_split {α : Type} (xs : List α) (n k : Nat) : (xs.drop n) = (xs.drop n).take k ++ xs.drop (n + k) := by
  rw [← List.drop_drop, List.take_append_drop]

theorem take_one {α : Type} (xs : List α) (off : Nat) (x : α) (h : xs[off]? = some x) : (xs.drop off).take 1 = [x] := by
  obtain ⟨h1, h2⟩ := List.getElem?_eq_some_iff.1 h
  rw [List.drop_eq_getElem_cons h1, h2]; rfl

theorem kindsT_length (d : Nat) (t : TypeId) (ks : List Nat) (h : kindsT P d t = some ks) : ks.length = P.cellsOf t := by
  cases d with
  | zero => simp [kindsT] at h
  | succ d =>
    unfold kindsT at h
    split at h
    · split at h
      · split at h
        · split at h
          · cases h; assumption
          · cases h
        · cases h
      · cases h
    · split at h
      · cases h; simp_all
      · cases h
    · split at h
      · cases h; simp_all
      · cases h
    · split at h
      · cases h; simp_all
      · cases h
    · cases h

theorem kindsFs_length (d : Nat) : ∀ (l : List Field) (n : Nat) (ks : List Nat), kindsFs P (kindsT P d) n l = some ks →
    ∀ f l', l = f :: l' → ∃ k1 k2, ks = k1 ++ k2 ∧ kindsT P d f.type = some k1 ∧ kindsFs P (kindsT P d) (n + P.cellsOf f.type) l' = some k2 ∧ f.name ≠ "_" ∧ f.offset = n := by
  intro l n ks h f l' e
  subst e
  simp only [kindsFs] at h
  split at h
  · rename_i hc
    split at h
    · rename_i a b h1 h2
      cases h
      exact ⟨a, b, rfl, h1, h2, hc.1, hc.2⟩
    · cases h
  · cases h

theorem run_eqLeaf {t : TypeId} {k : Nat} (D : Nat) (hag : isAggT P t = some false)
    (hk : (k = 0 ∧ ∃ ik, P.underlying t = some (.int ik)) ∨ (k = 1 ∧ P.underlying t = some .bool) ∨ (k = 2 ∧ P.underlying t = some .string))
    (xs ys : Array Value) (off : Nat) (vs us : List V) (b : Bool) (hs : sameL [k] ((vs.drop off).take 1) ((us.drop off).take 1) = some b)
    (hv : VRelL m H vs xs.toList) (hu : VRelL m H us ys.toList) : (eqPart (D + 1) t xs ys off).run P w = .ok b w := by
  have hl1 : off < vs.length := by
    rcases Nat.lt_or_ge off vs.length with h | h
    · exact h
    · rw [List.drop_eq_nil_of_le h] at hs; simp [sameL] at hs
  have hl2 : off < us.length := by
    rcases Nat.lt_or_ge off us.length with h | h
    · exact h
    · rw [List.drop_eq_nil_of_le h] at hs
      rw [List.drop_eq_getElem_cons hl1] at hs; simp [sameL] at hs
  obtain ⟨v, hv0⟩ : ∃ v, vs[off]? = some v := ⟨vs[off]'hl1, by simp⟩
  obtain ⟨u, hu0⟩ : ∃ u, us[off]? = some u := ⟨us[off]'hl2, by simp⟩
  obtain ⟨x, hx, hvx⟩ := hv.get hv0
  obtain ⟨y, hy, huy⟩ := hu.get hu0
  rw [take_one _ _ _ hv0, take_one _ _ _ hu0] at hs
  have hsv : V.sameK k v u = some b := by
    simp only [sameL] at hs
    split at hs
    · rename_i p q h1 h2; cases h2; simp at hs; rw [h1, hs]
    · cases hs
  unfold eqPart
  rw [Sem.run_bind, run_part_one hag xs off x (by simpa using hx)]
  simp only [Result.andThen_ok]
  rw [Sem.run_bind, run_part_one hag ys off y (by simpa using hy)]
  simp only [Result.andThen_ok]
  rcases hk with ⟨rfl, ik, ht⟩ | ⟨rfl, ht⟩ | ⟨rfl, ht⟩
  · obtain ⟨k, a, c, rfl, rfl, rfl⟩ := hvx.same0 hsv huy
    exact run_equalIn_int w D t k ik a c ht
  · obtain ⟨a, c, rfl, rfl, rfl⟩ := hvx.same1 hsv huy
    exact run_equalIn_bool' w D t a c ht
  · obtain ⟨a, c, rfl, rfl, rfl⟩ := hvx.same2 hsv huy
    exact run_equalIn_string w D t a c ht

theorem run_eqPlain : ∀ (d : Nat) (t : TypeId) (ks : List Nat), kindsT P d t = some ks → ∀ (D : Nat), d ≤ D → ∀ (xs ys : Array Value) (off : Nat) (vs us : List V) (b : Bool),
    sameL ks ((vs.drop off).take ks.length) ((us.drop off).take ks.length) = some b → off + ks.length ≤ vs.length → off + ks.length ≤ us.length →
    VRelL m H vs xs.toList → VRelL m H us ys.toList → (eqPart D t xs ys off).run P w = .ok b w
  | 0, t, ks, h, _, _, _, _, _, _, _, _, _, _, _, _, _ => by simp [kindsT] at h
  | d + 1, t, ks, h, D, hD, xs, ys, off, vs, us, b, hs, hl1, hl2, hv, hu => by
    obtain ⟨D, rfl⟩ : ∃ k, D = k + 1 := ⟨D - 1, by omega⟩
    have hlen := kindsT_length _ _ _ h
    unfold kindsT at h
    split at h
    · -- a struct
      rename_i fs ht
      split at h
      · rename_i hp
        split at h
        · rename_i ks' hf
          split at h
          · rename_i hl; cases h
            have hag : isAggT P t = some true := by unfold isAggT; rw [ht]; rfl
            have hsz := sizeA_of_cellsOf ht
            have hfo : P.fieldsOf t = fs := by unfold Program.fieldsOf; rw [ht]
            unfold eqPart
            rw [Sem.run_bind, run_part_agg hag xs off _ hsz]
            simp only [Result.andThen_ok]
            rw [Sem.run_bind, run_part_agg hag ys off _ hsz]
            simp only [Result.andThen_ok]
            rw [run_equalIn_struct w D t _ _ (by rw [hfo]; exact ht) hp, hfo]
            have hx1 : VRelL m H ((vs.drop off).take ks.length) (xs.extract off (off + P.cellsOf t)).toList := by
              rw [hlen]; simpa [List.extract_eq_take_drop] using (hv.drop off).take (P.cellsOf t)
            have hy1 : VRelL m H ((us.drop off).take ks.length) (ys.extract off (off + P.cellsOf t)).toList := by
              rw [hlen]; simpa [List.extract_eq_take_drop] using (hu.drop off).take (P.cellsOf t)
            have key : ∀ (l : List Field) (n : Nat) (b : Bool) (kl : List Nat), kindsFs P (kindsT P d) n l = some kl → n + kl.length = ks.length →
                sameL kl (((vs.drop off).take ks.length).drop n) (((us.drop off).take ks.length).drop n) = some b →
                (Op.eqFields D (xs.extract off (off + P.cellsOf t)) (ys.extract off (off + P.cellsOf t)) l).run P w = .ok b w := by
              intro l
              induction l with
              | nil =>
                intro n b kl hk hn hb
                simp only [kindsFs, Option.some.injEq] at hk
                subst hk
                simp at hn
                rw [List.drop_eq_nil_of_le (by simp; omega), List.drop_eq_nil_of_le (by simp; omega)] at hb
                simp [sameL] at hb
                subst hb
                simp [Op.eqFields]
              | cons f l ih =>
                intro n b kl hk hn hb
                obtain ⟨k1, k2, rfl, e1, e2, h1, h2⟩ := kindsFs_length d _ _ _ hk f l rfl
                have hk1 := kindsT_length _ _ _ e1
                rw [List.length_append] at hn
                rw [drop_take_split _ n k1.length, drop_take_split ((us.drop off).take _) n k1.length] at hb
                obtain ⟨r1, r2, g1, g2, g3⟩ := sameL_append (by simp; omega) (by simp; omega) hb
                have hrun := run_eqPlain d f.type k1 e1 D (by omega) (xs.extract off (off + P.cellsOf t)) (ys.extract off (off + P.cellsOf t)) n _ _ r1 g1 (by simp; omega) (by simp; omega) hx1 hy1
                simp only [Op.eqFields, h1, ne_eq, not_false_eq_true, if_true]
                unfold eqPart at hrun
                rw [h2]
                have hrest := ih (n + k1.length) r2 k2 (by rw [hk1]; exact e2) (by omega) g2
                simp only [Sem.run_bind] at hrun ⊢
                generalize (part f.type (xs.extract off (off + P.cellsOf t)) n).run P w = q1 at hrun ⊢
                cases q1 with
                | halt _ _ => cases hrun
                | ok a1 w1 =>
                  simp only [Result.andThen_ok] at hrun ⊢
                  generalize (part f.type (ys.extract off (off + P.cellsOf t)) n).run P w1 = q2 at hrun ⊢
                  cases q2 with
                  | halt _ _ => cases hrun
                  | ok a2 w2 =>
                    simp only [Result.andThen_ok] at hrun ⊢
                    rw [hrun]
                    simp only [Result.andThen_ok]
                    cases r1
                    · simp [g3]
                    · simp only [Bool.not_true, Bool.false_eq_true, if_false]
                      rw [hrest, g3]; simp
            exact key fs.toList 0 b ks hf (by omega) (by simpa using hs)
          · cases h
        · cases h
      · cases h
    · rename_i ik ht
      split at h
      · cases h
        exact run_eqLeaf D (by unfold isAggT; rw [ht]; rfl) (.inl ⟨rfl, ik, ht⟩) xs ys off vs us b hs hv hu
      · cases h
    · rename_i ht
      split at h
      · cases h
        exact run_eqLeaf D (by unfold isAggT; rw [ht]; rfl) (.inr (.inl ⟨rfl, ht⟩)) xs ys off vs us b hs hv hu
      · cases h
    · rename_i ht
      split at h
      · cases h
        exact run_eqLeaf D (by unfold isAggT; rw [ht]; rfl) (.inr (.inr ⟨rfl, ht⟩)) xs ys off vs us b hs hv hu
      · cases h
    · cases h

theorem good_eqagg {n : Bool} {ks : List Nat} {t yt : TypeId} {x y : Operand} {o : Oper} (e : o.op = .binOp (if n then .neq else .eql) t x y yt)
    {fs : Array Field} (ht : P.underlying t = some (.struct fs)) (hk : kindsT P 100 t = some ks) (hg : P.eqGuardType P.depth t = false) {ρ : Operand → Value} {vs : List V} {r : V}
    (he : exec (.eqagg n ks) vs H = some (r, H')) (hv : VRelL m H vs ([x, y].map ρ)) (hr : Rel m H w) : Good P m H w (execOp ρ o) r H' := by
  simp only [exec] at he
  split at he
  · rename_i a b
    cases hs : sameL ks a b with
    | none => rw [hs] at he; cases he
    | some q =>
      rw [hs] at he; simp at he; obtain ⟨rfl, rfl⟩ := he
      obtain ⟨u, v, hz, h1, h2⟩ := hv.two
      simp only [List.map_cons, List.map_nil, List.cons.injEq, and_true] at hz
      obtain ⟨xs, rfl, hx⟩ := h1.agg_inv
      obtain ⟨ys, rfl, hy⟩ := h2.agg_inv
      have hl := kindsT_length _ _ _ hk
      have hla : a.length = ks.length ∧ b.length = ks.length := by
        clear hk hl hx hy h1 h2 hv
        induction ks generalizing a b q with
        | nil => cases a <;> cases b <;> simp [sameL] at hs ⊢
        | cons k ks ih =>
          cases a <;> cases b <;> simp only [sameL] at hs <;> try cases hs
          split at hs
          · rename_i h2; have := ih _ _ _ h2; simp [this]
          · cases hs
      have hlx : xs.size = ks.length := by have := hx.length; simpa [hla.1] using this
      have hly : ys.size = ks.length := by have := hy.length; simpa [hla.2] using this
      have hst : isAggT P t = some true := by unfold isAggT; rw [ht]; rfl
      have hsz := sizeA_of_cellsOf ht
      have hrun := run_eqPlain (P := P) (w := w) 100 t ks hk 10000 (by omega) xs ys 0 a b q (by simp [hla.1, hla.2, List.take_of_length_le, hs]) (by omega) (by omega) hx hy
      unfold eqPart at hrun
      rw [Sem.run_bind, run_part_agg hst xs 0 _ hsz] at hrun
      simp only [Result.andThen_ok] at hrun
      rw [Sem.run_bind, run_part_agg hst ys 0 _ hsz] at hrun
      simp only [Result.andThen_ok] at hrun
      rw [show xs.extract 0 (0 + P.cellsOf t) = xs by rw [← hl, Nat.zero_add, ← hlx]; exact Array.extract_size, show ys.extract 0 (0 + P.cellsOf t) = ys by rw [← hl, Nat.zero_add, ← hly]; exact Array.extract_size] at hrun
      refine Good.pure hr (x := .bool (q != n)) ?_ (by simp only [VRel])
      cases n
      · simp only [Bool.false_eq_true, if_false] at e
        simp [execOp, e, hz.1, hz.2, Sem.run_bind, run_eqGuard_agg w .eql t x y xs ys hg, run_eql_struct w t xs ys, hrun]
      · simp only [if_true] at e
        simp [execOp, e, hz.1, hz.2, Sem.run_bind, run_eqGuard_agg w .neq t x y xs ys hg, run_neq_struct w t xs ys, hrun]
  · cases he
end
end Go.Proofs.YtkmaikggdbielaaGreatDoor.Fw
