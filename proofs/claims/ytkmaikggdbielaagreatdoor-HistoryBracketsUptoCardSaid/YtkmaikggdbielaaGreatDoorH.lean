/- The framework, part H: the operations on abstract values do what the model's do, fifth part: slices, literals, append, copy, clear. No condition. -/
import Derived.Test.YtkmaikggdbielaaGreatDoorG
import Derived.Laws.Append
namespace Go.Proofs.YtkmaikggdbielaaGreatDoor.Fw
open Go
set_option linter.unusedSimpArgs false
set_option linter.unusedVariables false
section
variable {P : Program} {m : Nat → Pl} {H H' : Heap} {w : World}

theorem bounds3_dm {lo hi : Bool} {dh dm l h mm : Nat} {bs : List V} (hb : bounds3 lo hi false dh dm bs = some (l, h, mm)) : mm = dm := by
  cases lo <;> cases hi
  · match bs, hb with
    | [], hb => simp [bounds3] at hb; exact hb.2.2.symm
    | _ :: _, hb => simp [bounds3] at hb
  · match bs, hb with
    | [u], hb => simp [bounds3] at hb; obtain ⟨_, _, _, _, h⟩ := hb; exact h.symm
    | [], hb => simp [bounds3] at hb
    | _ :: _ :: _, hb => simp [bounds3] at hb
  · match bs, hb with
    | [u], hb => simp [bounds3] at hb; obtain ⟨_, _, _, _, h⟩ := hb; exact h.symm
    | [], hb => simp [bounds3] at hb
    | _ :: _ :: _, hb => simp [bounds3] at hb
  · match bs, hb with
    | [u, t], hb =>
      simp only [bounds3] at hb
      split at hb
      · cases hb; rfl
      · cases hb
    | [], hb => simp [bounds3] at hb
    | [_], hb => simp [bounds3] at hb
    | _ :: _ :: _ :: _, hb => simp [bounds3] at hb

theorem good_slc {t el : TypeId} {x : Operand} {sz : Nat} {lo hi mx : Option Operand} {o : Oper} (e : o.op = .slice t x lo hi mx) (ht : P.underlying t = some (.slice el)) (hs : sizeA P el = some sz)
    {ρ : Operand → Value} {vs : List V} {r : V}
    (he : exec (.slc sz lo.isSome hi.isSome mx.isSome) vs H = some (r, H')) (hv : VRelL m H vs ((x :: (lo.toList ++ hi.toList ++ mx.toList)).map ρ)) (hr : Rel m H w) : Good P m H w (execOp ρ o) r H' := by
  simp only [exec] at he
  split at he
  · rename_i v bs
    obtain ⟨z, zs, hz, h1, h2⟩ := hv.cons
    simp only [List.map_cons, List.cons.injEq] at hz
    obtain ⟨hz1, hz2⟩ := hz
    rw [← hz2] at h2
    split at he
    · -- nil
      split at he
      · rename_i hb
        cases he
        have hrun := run_bounds (P := P) (w := w) (isSlice := true) (cap := 0) hb h2 (Nat.le_refl _) (Nat.le_refl _) (Nat.le_refl _) (Nat.le_refl _) (Nat.le_refl _) (fun _ _ => Nat.le_refl _)
        rw [h1.nils_inv] at hz1
        have hm : (if mx.isSome = true then 0 else 0) = 0 := by split <;> rfl
        refine Good.pure hr (x := .slice none 0 0) ?_ (by simp only [VRel])
        simp only [execOp, e, hz1, Instr.sliceAt, Instr.slice, Sem.run_bind, run_under ht, Result.andThen_ok, hrun, run_sizeOf hs, hm, Sem.run_pure, if_true]
      · cases he
    · rename_i id off len cap
      split at he
      · rename_i l h mm hb
        split at he
        · rename_i hc
          cases he
          obtain ⟨hc1, hc2, hc3, hc4⟩ := hc
          obtain ⟨a, c, rfl, ha⟩ := h1.slice_inv
          obtain ⟨ha1, ha2, ha3, ha4⟩ := ha
          have hcap : cap.getD len ≤ c := by
            cases cap with
            | none => simpa using ha2
            | some k => simp [ha3 k rfl]
          have hrun := run_bounds (P := P) (w := w) (isSlice := true) (cap := c) hb h2 hc1 hc2 hc3 hcap ha2 (fun _ _ => by omega)
          have hmm : mm ≤ c := by omega
          refine Good.pure hr (x := .slice (some (if (if mx.isSome = true then mm else c) = l then a else a.add (l * sz))) (h - l) ((if mx.isSome = true then mm else c) - l)) ?_ ?_
          · simp only [execOp, e, hz1, Instr.sliceAt, Instr.slice, Sem.run_bind, run_under ht, Result.andThen_ok, hrun, run_sizeOf hs, Sem.run_pure]
            split <;> split <;> rfl
          · simp only [VRel]
            refine ⟨_, _, rfl, ha1, ?_, ?_, ?_⟩
            · split <;> omega
            · intro k hk
              cases cap with
              | none =>
                cases hmx : mx.isSome with
                | false => simp [hmx] at hk
                | true => simp [hmx] at hk; simp [hk]
              | some c0 =>
                simp at hk
                have := ha3 c0 rfl
                subst this
                cases hmx : mx.isSome with
                | false =>
                  have : mm = c := by rw [hmx] at hb; simpa using bounds3_dm hb
                  simp; omega
                | true => simp; omega
            · intro hpos ob hob
              have hlt : l < (if mx.isSome = true then mm else c) := by omega
              rw [if_neg (by omega)]
              have hcpos : 0 < c := by split at hlt <;> omega
              obtain ⟨k1, k2⟩ := ha4 hcpos ob hob
              refine ⟨by rw [k1, add_none, Nat.add_assoc], fun esz cells hrow hcapn => ?_⟩
              subst hrow
              cases cap with
              | some c0 => simp at hcapn
              | none =>
                cases hmx : mx.isSome with
                | true => simp [hmx] at hcapn
                | false =>
                  have hk2 := k2 esz cells rfl rfl
                  unfold slcOk at hc4
                  simp [hmx, hob] at hc4
                  rw [← hc4]
                  simp only [Bool.false_eq_true, if_false]
                  have hlc : l ≤ c := by rw [hmx] at hlt; simp at hlt; omega
                  have : off + l * esz + (c - l) * esz = off + c * esz := by rw [Nat.add_assoc, ← Nat.add_mul]; congr 2; omega
                  omega
        · cases he
      · cases he
    · cases he
  · cases he

theorem good_slca {t el : TypeId} {x : Operand} {n sz : Nat} {lo hi mx : Option Operand} {o : Oper} (e : o.op = .slice t x lo hi mx) (ht : P.underlying t = some (.array n el)) (hs : sizeA P el = some sz)
    {ρ : Operand → Value} {vs : List V} {r : V}
    (he : exec (.slca n sz lo.isSome hi.isSome mx.isSome) vs H = some (r, H')) (hv : VRelL m H vs ((x :: (lo.toList ++ hi.toList ++ mx.toList)).map ρ)) (hr : Rel m H w) : Good P m H w (execOp ρ o) r H' := by
  simp only [exec] at he
  split at he
  · rename_i id off bs
    obtain ⟨z, zs, hz, h1, h2⟩ := hv.cons
    simp only [List.map_cons, List.cons.injEq] at hz
    obtain ⟨hz1, hz2⟩ := hz
    rw [← hz2] at h2
    split at he
    · rename_i l h mm hb
      split at he
      · rename_i hc
        cases he
        obtain ⟨hc1, hc2, hc3⟩ := hc
        obtain ⟨a, rfl, ha⟩ := h1.ptr_inv
        have hmd : mx.isSome = false → mm = n := fun hf => by rw [hf] at hb; exact bounds3_dm hb
        have hrun := run_bounds (P := P) (w := w) (isSlice := false) (cap := n) hb h2 hc1 hc2 hc3 (Nat.le_refl _) (Nat.le_refl _) (fun _ _ => by omega)
        have hmm : (if mx.isSome = true then mm else n) = mm := by
          split
          · rfl
          · rename_i hf; rw [hmd (by simpa using hf)]
        rw [hmm] at hrun
        refine Good.pure hr (x := .slice (some (if mm = l then a else a.add (l * sz))) (h - l) (mm - l)) ?_ ?_
        · simp only [execOp, e, hz1, Instr.sliceAt, Sem.run_bind, run_under ht, Result.andThen_ok, Instr.sureAddr, hrun, run_sizeOf hs, Sem.run_pure]
        · simp only [VRel]
          refine ⟨_, _, rfl, ha.1, by omega, fun k hk => by cases hk; rfl, fun hpos ob hob => ?_⟩
          rw [if_neg (by omega), ha.2 (by rw [hob]; simp)]
          exact ⟨by rw [add_none, Nat.add_assoc], fun _ _ _ hcc => by cases hcc⟩
      · cases he
    · cases he
  · cases he

theorem good_slcs {t : TypeId} {x : Operand} {lo hi : Option Operand} {o : Oper} (e : o.op = .slice t x lo hi none) (ht : P.underlying t = some .string)
    {ρ : Operand → Value} {vs : List V} {r : V}
    (he : exec (.slcs lo.isSome hi.isSome) vs H = some (r, H')) (hv : VRelL m H vs ((x :: (lo.toList ++ hi.toList)).map ρ)) (hr : Rel m H w) : Good P m H w (execOp ρ o) r H' := by
  simp only [exec] at he
  split at he
  · rename_i s bs
    obtain ⟨z, zs, hz, h1, h2⟩ := hv.cons
    simp only [List.map_cons, List.cons.injEq] at hz
    obtain ⟨hz1, hz2⟩ := hz
    rw [← hz2] at h2
    split at he
    · rename_i l h mm hb
      split at he
      · rename_i hc
        cases he
        obtain ⟨hc1, hc2⟩ := hc
        rw [h1.str_inv] at hz1
        have hmm : mm = s.size := bounds3_dm hb
        have hrun := run_bounds (P := P) (w := w) (isSlice := false) (mx := none) (cap := s.size) hb (by simpa using h2) hc1 (by omega) (by omega) (Nat.le_refl _) (Nat.le_refl _) (fun _ _ => hc2)
        refine Good.pure hr (x := .string (s.extract l h)) ?_ (.mk_str _)
        simp only [execOp, e, hz1, Instr.sliceAt, Instr.slice, Sem.run_bind, run_under ht, Result.andThen_ok, Option.map_none, Option.isSome_none, Bool.false_eq_true, if_false, Sem.run_pure]
        rw [show (none : Option Value) = (none : Option Operand).map ρ from rfl, hrun]
        simp
      · cases he
    · cases he
  · cases he
end
end Go.Proofs.YtkmaikggdbielaaGreatDoor.Fw
