/- Part 3 of the proof. What fits fits a greater most, and a longer document where it may; what it makes is as long as told (OpsFits). The one condition: the arguments hold together at most 2^20 data, as the statement's own bound says. -/
import Derived.Test.YtbadbkdpnbacnaaDoorFitsM2

/- What functions of the program answer: whether attributes may be. No condition but what utf8.Valid answers, which is a hypothesis here. -/
namespace Go.Proofs.YtbadbkdpnbacnaaDoor.Fw
open Go
set_option linter.unusedSimpArgs false
set_option linter.unusedVariables false
variable {vU : ByteArray → Bool}

def prevBad (p : Option Int) (k : Int) : Bool := match p with
  | some q => decide (q ≥ k)
  | none => false
def attrsF (vU : ByteArray → Bool) (ks : List KeyA) : Option Int → Int → List AttrA → Int
  | _, e, [] => e
  | p, e, a :: ats => if prevBad p a.key || !vMay vU a.val then 3 else attrsF vU ks (some a.key) (if fitsK vU ks a.key a.val then e else 4) ats
def attrsMayF (vU : ByteArray → Bool) (ks : List KeyA) (ats : List AttrA) : Int := if ats.length > 64 then 3 else attrsF vU ks none 0 ats
def prevOf (ats : List AttrA) (k : Nat) : Option Int := if k = 0 then none else (ats[k - 1]?).map (·.key)

set_option maxHeartbeats 1000000 in
theorem attrsMay_calls (hU : ValidIs vU) {s x : V} {H : Heap} {ks : List KeyA} {ats : List AttrA} (hT : Tabs H) (hs : Sch H s ks) (hx : SL H x 5 (ats.map AttrA.cells)) :
    SCalls PP 39 [s, x] H fun r H' => H' = H ∧ r = .int .i64 (attrsMayF vU ks ats) := by
  refine SCalls.keep (R := fun r => r = .int .i64 (attrsMayF vU ks ats)) (SCalls.go c39 (by simp [fn39]) fun hw => ?_)
  by_cases h64 : (ats.length : Int) > 64
  · have h64' : ats.length > 64 := by omega
    simp only [fn39, enterFr, List.length, List.range, List.range.loop, List.zip, List.zipWith, s_skip, s_region, s_draw, s_seq, s_cond, s_block, s_exit, s_scope, s_ret, s_nil, s_cons, s_done, s_op, s_fork, s_kops, s_ktree, s_kseq_n, s_kseq_r, s_kseq_e, s_kblock_n, s_kblock_r, s_kblock_e, s_kscope_n, s_kscope_r, s_kscope_e, s_kcond_t, s_kcond_f, s_ex, s_call, s_callv, s_guard, s_kguard_t, s_kguard_f, s_kexec, s_kres, s_kcall, s_kcallv, s_kret, s_put, s_putn, s_get, s_evs, s_evk, s_evnil, s_evcons, s_evC, s_g, s_gb, s_gu, s_kround_n, s_kround_r, s_kround_e, s_kloop_n, s_kloop_r, s_kloop_e, x_mov, x_konst, x_pick, x_nilck, x_add, x_sub, x_lss, x_leq, x_gtr, x_geq, x_eql, x_neq, x_not, x_fa, x_ext, x_mkfn, if_true, if_false, decide_true, decide_false, Bool.not_true, Bool.not_false, Bool.true_beq, Bool.false_beq, beq_true, beq_false, Int.reduceEq, Int.reduceLT, Int.reduceLE, Int.reduceGT, Int.reduceGE, reduceCtorEq, Nat.reduceEqDiff, s_kendr, s_kendn, s_kfin, s_resnil, s_rescons, s_rest, s_resca, s_resV1, s_resV0, s_resV2, s_ffrom, s_fbits, s_kffrom, s_kfbits, x_slen, List.getElem?_cons_zero, List.getElem?_cons_succ, Option.map_some, hx.len, List.length_map, h64]
    exact ⟨Ext.refl H, by simp [attrsMayF, h64'], rfl⟩
  have h64' : ¬ ats.length > 64 := by omega
  have hF : attrsMayF vU ks ats = attrsF vU ks none 0 ats := by simp [attrsMayF, h64']
  rw [hF]
  simp only [fn39, enterFr, List.length, List.range, List.range.loop, List.zip, List.zipWith, s_skip, s_region, s_draw, s_seq, s_cond, s_block, s_exit, s_scope, s_ret, s_nil, s_cons, s_done, s_op, s_fork, s_kops, s_ktree, s_kseq_n, s_kseq_r, s_kseq_e, s_kblock_n, s_kblock_r, s_kblock_e, s_kscope_n, s_kscope_r, s_kscope_e, s_kcond_t, s_kcond_f, s_ex, s_call, s_callv, s_guard, s_kguard_t, s_kguard_f, s_kexec, s_kres, s_kcall, s_kcallv, s_kret, s_put, s_putn, s_get, s_evs, s_evk, s_evnil, s_evcons, s_evC, s_g, s_gb, s_gu, s_kround_n, s_kround_r, s_kround_e, s_kloop_n, s_kloop_r, s_kloop_e, x_mov, x_konst, x_pick, x_nilck, x_add, x_sub, x_lss, x_leq, x_gtr, x_geq, x_eql, x_neq, x_not, x_fa, x_ext, x_mkfn, if_true, if_false, decide_true, decide_false, Bool.not_true, Bool.not_false, Bool.true_beq, Bool.false_beq, beq_true, beq_false, Int.reduceEq, Int.reduceLT, Int.reduceLE, Int.reduceGT, Int.reduceGE, reduceCtorEq, Nat.reduceEqDiff, s_kendr, s_kendn, s_kfin, s_resnil, s_rescons, s_rest, s_resca, s_resV1, s_resV0, s_resV2, s_ffrom, s_fbits, s_kffrom, s_kfbits, x_slen, List.getElem?_cons_zero, List.getElem?_cons_succ, Option.map_some, hx.len, List.length_map, h64]
  refine wp_range SCalls.scMono (by omega) (fun e : Int => [(11, x), (5, .int .i64 e), (0, s), (1, x)]) (fun k e H' => attrsF vU ks (prevOf ats k) e (ats.drop k) = attrsF vU ks none 0 ats ∧ Ext H H' ∧ WF H') 0 ⟨rfl, Ext.refl H, hw⟩
    (.cons rfl (.cons rfl (.cons rfl (.cons rfl (.cons rfl (.cons rfl .nil)))))) (by decide) (fun s => ⟨rfl, rfl, rfl⟩) ?_ ?_
  · rintro k e H' hk ⟨hacc, hext, hwf⟩
    have hm := hx.1 ats[k].cells (List.mem_map_of_mem (List.getElem_mem hk))
    obtain ⟨id, o, hia, hat⟩ := (hx.ext hext).ia (H' := H') (i := k) (e := ats[k].cells) (by simp [hk]) .i64
    obtain ⟨H2, hx2, hw2, ha2, hal, hst⟩ := x_copy hext hwf (z := [V.int .i64 0, .int .u8 0, .int .i64 0, .int .u64 0, .str ⟨#[]⟩]) (e := ats[k].cells) (n := 5) rfl rfl hm.1 hm.2
    have hT2 := hT.ext hx2
    have hs2 := hs.ext hx2
    have l0 := ha2.ld (j := 0) (v := .int .i64 ats[k].key) rfl 1
    have ha2v : At H2 H'.next (0 + 1) ats[k].val.cells := At.tail (a := [.int .i64 ats[k].key]) ha2
    have lv := ha2v.lda (n := 4) rfl
    rw [List.drop_eq_getElem_cons hk] at hacc
    simp only [attrsF] at hacc
    have hnext : prevOf ats (k + 1) = some ats[k].key := by simp [prevOf, List.getElem?_eq_getElem hk]
    -- the end of a round, the value's answer known
    have fin : ∀ (fr : Fr), prevBad (prevOf ats k) ats[k].key = false → vMay vU ats[k].val = true → True := fun _ _ _ => trivial
    by_cases hk0 : k = 0
    · subst hk0
      have hpv : prevBad (prevOf ats 0) ats[0].key = false := rfl
      rw [hpv] at hacc
      have hgt : ¬ ((0 : Nat) : Int) > 0 := by omega
      simp only [s_skip, s_region, s_draw, s_seq, s_cond, s_block, s_exit, s_scope, s_ret, s_nil, s_cons, s_done, s_op, s_fork, s_kops, s_ktree, s_kseq_n, s_kseq_r, s_kseq_e, s_kblock_n, s_kblock_r, s_kblock_e, s_kscope_n, s_kscope_r, s_kscope_e, s_kcond_t, s_kcond_f, s_ex, s_call, s_callv, s_guard, s_kguard_t, s_kguard_f, s_kexec, s_kres, s_kcall, s_kcallv, s_kret, s_put, s_putn, s_get, s_evs, s_evk, s_evnil, s_evcons, s_evC, s_g, s_gb, s_gu, s_kround_n, s_kround_r, s_kround_e, s_kloop_n, s_kloop_r, s_kloop_e, x_mov, x_konst, x_pick, x_nilck, x_add, x_sub, x_lss, x_leq, x_gtr, x_geq, x_eql, x_neq, x_not, x_fa, x_ext, x_mkfn, if_true, if_false, decide_true, decide_false, Bool.not_true, Bool.not_false, Bool.true_beq, Bool.false_beq, beq_true, beq_false, Int.reduceEq, Int.reduceLT, Int.reduceLE, Int.reduceGT, Int.reduceGE, reduceCtorEq, Nat.reduceEqDiff, s_kendr, s_kendn, s_kfin, s_resnil, s_rescons, s_rest, s_resca, s_resV1, s_resV0, s_resV2, s_ffrom, s_fbits, s_kffrom, s_kfbits, x_slen, List.getElem?_cons_zero, List.getElem?_cons_succ, Option.map_some, hia, hat.lda (n := 5) rfl, hal, hst, hgt, Bool.false_eq_true, lv]
      refine SCalls.mono (valueMay_calls hU ats[0].val _ hT2) ?_
      rintro r H3 ⟨rfl, rfl⟩
      cases hv : vMay vU ats[0].val with
      | false =>
        rw [hv] at hacc
        simp only [s_skip, s_region, s_draw, s_seq, s_cond, s_block, s_exit, s_scope, s_ret, s_nil, s_cons, s_done, s_op, s_fork, s_kops, s_ktree, s_kseq_n, s_kseq_r, s_kseq_e, s_kblock_n, s_kblock_r, s_kblock_e, s_kscope_n, s_kscope_r, s_kscope_e, s_kcond_t, s_kcond_f, s_ex, s_call, s_callv, s_guard, s_kguard_t, s_kguard_f, s_kexec, s_kres, s_kcall, s_kcallv, s_kret, s_put, s_putn, s_get, s_evs, s_evk, s_evnil, s_evcons, s_evC, s_g, s_gb, s_gu, s_kround_n, s_kround_r, s_kround_e, s_kloop_n, s_kloop_r, s_kloop_e, x_mov, x_konst, x_pick, x_nilck, x_add, x_sub, x_lss, x_leq, x_gtr, x_geq, x_eql, x_neq, x_not, x_fa, x_ext, x_mkfn, if_true, if_false, decide_true, decide_false, Bool.not_true, Bool.not_false, Bool.true_beq, Bool.false_beq, beq_true, beq_false, Int.reduceEq, Int.reduceLT, Int.reduceLE, Int.reduceGT, Int.reduceGE, reduceCtorEq, Nat.reduceEqDiff, s_kendr, s_kendn, s_kfin, s_resnil, s_rescons, s_rest, s_resca, s_resV1, s_resV0, s_resV2, s_ffrom, s_fbits, s_kffrom, s_kfbits, x_slen, List.getElem?_cons_zero, List.getElem?_cons_succ, Option.map_some, hv]
        exact ⟨hx2, congrArg (V.int .i64) (by simpa using hacc), rfl⟩
      | true =>
        rw [hv] at hacc
        simp only [s_skip, s_region, s_draw, s_seq, s_cond, s_block, s_exit, s_scope, s_ret, s_nil, s_cons, s_done, s_op, s_fork, s_kops, s_ktree, s_kseq_n, s_kseq_r, s_kseq_e, s_kblock_n, s_kblock_r, s_kblock_e, s_kscope_n, s_kscope_r, s_kscope_e, s_kcond_t, s_kcond_f, s_ex, s_call, s_callv, s_guard, s_kguard_t, s_kguard_f, s_kexec, s_kres, s_kcall, s_kcallv, s_kret, s_put, s_putn, s_get, s_evs, s_evk, s_evnil, s_evcons, s_evC, s_g, s_gb, s_gu, s_kround_n, s_kround_r, s_kround_e, s_kloop_n, s_kloop_r, s_kloop_e, x_mov, x_konst, x_pick, x_nilck, x_add, x_sub, x_lss, x_leq, x_gtr, x_geq, x_eql, x_neq, x_not, x_fa, x_ext, x_mkfn, if_true, if_false, decide_true, decide_false, Bool.not_true, Bool.not_false, Bool.true_beq, Bool.false_beq, beq_true, beq_false, Int.reduceEq, Int.reduceLT, Int.reduceLE, Int.reduceGT, Int.reduceGE, reduceCtorEq, Nat.reduceEqDiff, s_kendr, s_kendn, s_kfin, s_resnil, s_rescons, s_rest, s_resca, s_resV1, s_resV0, s_resV2, s_ffrom, s_fbits, s_kffrom, s_kfbits, x_slen, List.getElem?_cons_zero, List.getElem?_cons_succ, Option.map_some, hv, l0, lv, Bool.false_eq_true]
        refine SCalls.mono (sfits_calls hU hT2 hs2 ats[0].key ats[0].val) ?_
        rintro r H4 ⟨rfl, rfl⟩
        cases hf : fitsK vU ks ats[0].key ats[0].val with
        | true =>
          simp only [s_skip, s_region, s_draw, s_seq, s_cond, s_block, s_exit, s_scope, s_ret, s_nil, s_cons, s_done, s_op, s_fork, s_kops, s_ktree, s_kseq_n, s_kseq_r, s_kseq_e, s_kblock_n, s_kblock_r, s_kblock_e, s_kscope_n, s_kscope_r, s_kscope_e, s_kcond_t, s_kcond_f, s_ex, s_call, s_callv, s_guard, s_kguard_t, s_kguard_f, s_kexec, s_kres, s_kcall, s_kcallv, s_kret, s_put, s_putn, s_get, s_evs, s_evk, s_evnil, s_evcons, s_evC, s_g, s_gb, s_gu, s_kround_n, s_kround_r, s_kround_e, s_kloop_n, s_kloop_r, s_kloop_e, x_mov, x_konst, x_pick, x_nilck, x_add, x_sub, x_lss, x_leq, x_gtr, x_geq, x_eql, x_neq, x_not, x_fa, x_ext, x_mkfn, if_true, if_false, decide_true, decide_false, Bool.not_true, Bool.not_false, Bool.true_beq, Bool.false_beq, beq_true, beq_false, Int.reduceEq, Int.reduceLT, Int.reduceLE, Int.reduceGT, Int.reduceGE, reduceCtorEq, Nat.reduceEqDiff, s_kendr, s_kendn, s_kfin, s_resnil, s_rescons, s_rest, s_resca, s_resV1, s_resV0, s_resV2, s_ffrom, s_fbits, s_kffrom, s_kfbits, x_slen, List.getElem?_cons_zero, List.getElem?_cons_succ, Option.map_some, hf]
          exact ⟨e, ⟨by rw [hnext]; simpa [hf] using hacc, hx2, hw2⟩, .cons rfl (.cons rfl (.cons rfl (.cons rfl (.cons rfl (.cons rfl .nil)))))⟩
        | false =>
          simp only [s_skip, s_region, s_draw, s_seq, s_cond, s_block, s_exit, s_scope, s_ret, s_nil, s_cons, s_done, s_op, s_fork, s_kops, s_ktree, s_kseq_n, s_kseq_r, s_kseq_e, s_kblock_n, s_kblock_r, s_kblock_e, s_kscope_n, s_kscope_r, s_kscope_e, s_kcond_t, s_kcond_f, s_ex, s_call, s_callv, s_guard, s_kguard_t, s_kguard_f, s_kexec, s_kres, s_kcall, s_kcallv, s_kret, s_put, s_putn, s_get, s_evs, s_evk, s_evnil, s_evcons, s_evC, s_g, s_gb, s_gu, s_kround_n, s_kround_r, s_kround_e, s_kloop_n, s_kloop_r, s_kloop_e, x_mov, x_konst, x_pick, x_nilck, x_add, x_sub, x_lss, x_leq, x_gtr, x_geq, x_eql, x_neq, x_not, x_fa, x_ext, x_mkfn, if_true, if_false, decide_true, decide_false, Bool.not_true, Bool.not_false, Bool.true_beq, Bool.false_beq, beq_true, beq_false, Int.reduceEq, Int.reduceLT, Int.reduceLE, Int.reduceGT, Int.reduceGE, reduceCtorEq, Nat.reduceEqDiff, s_kendr, s_kendn, s_kfin, s_resnil, s_rescons, s_rest, s_resca, s_resV1, s_resV0, s_resV2, s_ffrom, s_fbits, s_kffrom, s_kfbits, x_slen, List.getElem?_cons_zero, List.getElem?_cons_succ, Option.map_some, hf]
          exact ⟨4, ⟨by rw [hnext]; simpa [hf] using hacc, hx2, hw2⟩, .cons rfl (.cons rfl (.cons rfl (.cons rfl (.cons rfl (.cons rfl .nil)))))⟩
    · have hgt : (k : Int) > 0 := by omega
      have hk1 : k - 1 < ats.length := by omega
      obtain ⟨id', o', hia', hat'⟩ := (hx.ext hx2).ia (H' := H2) (i := k - 1) (e := ats[k - 1].cells) (by simp [hk1]) .i64
      have lp := hat'.ld (j := 0) (v := .int .i64 ats[k - 1].key) rfl 1
      have hsub : IntKind.i64.wrap ((k : Int) - 1) = ((k - 1 : Nat) : Int) := by rw [wrap_i64 (by omega) (by omega)]; omega
      have hpv : prevBad (prevOf ats k) ats[k].key = decide (ats[k - 1].key ≥ ats[k].key) := by
        simp [prevOf, hk0, List.getElem?_eq_getElem hk1, prevBad]
      rw [hpv] at hacc
      by_cases hge : ats[k - 1].key ≥ ats[k].key
      · simp only [hge, decide_true, Bool.true_or, if_true] at hacc
        simp only [s_skip, s_region, s_draw, s_seq, s_cond, s_block, s_exit, s_scope, s_ret, s_nil, s_cons, s_done, s_op, s_fork, s_kops, s_ktree, s_kseq_n, s_kseq_r, s_kseq_e, s_kblock_n, s_kblock_r, s_kblock_e, s_kscope_n, s_kscope_r, s_kscope_e, s_kcond_t, s_kcond_f, s_ex, s_call, s_callv, s_guard, s_kguard_t, s_kguard_f, s_kexec, s_kres, s_kcall, s_kcallv, s_kret, s_put, s_putn, s_get, s_evs, s_evk, s_evnil, s_evcons, s_evC, s_g, s_gb, s_gu, s_kround_n, s_kround_r, s_kround_e, s_kloop_n, s_kloop_r, s_kloop_e, x_mov, x_konst, x_pick, x_nilck, x_add, x_sub, x_lss, x_leq, x_gtr, x_geq, x_eql, x_neq, x_not, x_fa, x_ext, x_mkfn, if_true, if_false, decide_true, decide_false, Bool.not_true, Bool.not_false, Bool.true_beq, Bool.false_beq, beq_true, beq_false, Int.reduceEq, Int.reduceLT, Int.reduceLE, Int.reduceGT, Int.reduceGE, reduceCtorEq, Nat.reduceEqDiff, s_kendr, s_kendn, s_kfin, s_resnil, s_rescons, s_rest, s_resca, s_resV1, s_resV0, s_resV2, s_ffrom, s_fbits, s_kffrom, s_kfbits, x_slen, List.getElem?_cons_zero, List.getElem?_cons_succ, Option.map_some, hia, hat.lda (n := 5) rfl, hal, hst, hgt, hsub, hia', lp, l0, hge]
        exact ⟨hx2, congrArg (V.int .i64) hacc, rfl⟩
      · simp only [hge, decide_false, Bool.false_or] at hacc
        simp only [s_skip, s_region, s_draw, s_seq, s_cond, s_block, s_exit, s_scope, s_ret, s_nil, s_cons, s_done, s_op, s_fork, s_kops, s_ktree, s_kseq_n, s_kseq_r, s_kseq_e, s_kblock_n, s_kblock_r, s_kblock_e, s_kscope_n, s_kscope_r, s_kscope_e, s_kcond_t, s_kcond_f, s_ex, s_call, s_callv, s_guard, s_kguard_t, s_kguard_f, s_kexec, s_kres, s_kcall, s_kcallv, s_kret, s_put, s_putn, s_get, s_evs, s_evk, s_evnil, s_evcons, s_evC, s_g, s_gb, s_gu, s_kround_n, s_kround_r, s_kround_e, s_kloop_n, s_kloop_r, s_kloop_e, x_mov, x_konst, x_pick, x_nilck, x_add, x_sub, x_lss, x_leq, x_gtr, x_geq, x_eql, x_neq, x_not, x_fa, x_ext, x_mkfn, if_true, if_false, decide_true, decide_false, Bool.not_true, Bool.not_false, Bool.true_beq, Bool.false_beq, beq_true, beq_false, Int.reduceEq, Int.reduceLT, Int.reduceLE, Int.reduceGT, Int.reduceGE, reduceCtorEq, Nat.reduceEqDiff, s_kendr, s_kendn, s_kfin, s_resnil, s_rescons, s_rest, s_resca, s_resV1, s_resV0, s_resV2, s_ffrom, s_fbits, s_kffrom, s_kfbits, x_slen, List.getElem?_cons_zero, List.getElem?_cons_succ, Option.map_some, hia, hat.lda (n := 5) rfl, hal, hst, hgt, hsub, hia', lp, l0, hge, lv, Bool.false_eq_true]
        refine SCalls.mono (valueMay_calls hU ats[k].val _ hT2) ?_
        rintro r H3 ⟨rfl, rfl⟩
        cases hv : vMay vU ats[k].val with
        | false =>
          rw [hv] at hacc
          simp only [s_skip, s_region, s_draw, s_seq, s_cond, s_block, s_exit, s_scope, s_ret, s_nil, s_cons, s_done, s_op, s_fork, s_kops, s_ktree, s_kseq_n, s_kseq_r, s_kseq_e, s_kblock_n, s_kblock_r, s_kblock_e, s_kscope_n, s_kscope_r, s_kscope_e, s_kcond_t, s_kcond_f, s_ex, s_call, s_callv, s_guard, s_kguard_t, s_kguard_f, s_kexec, s_kres, s_kcall, s_kcallv, s_kret, s_put, s_putn, s_get, s_evs, s_evk, s_evnil, s_evcons, s_evC, s_g, s_gb, s_gu, s_kround_n, s_kround_r, s_kround_e, s_kloop_n, s_kloop_r, s_kloop_e, x_mov, x_konst, x_pick, x_nilck, x_add, x_sub, x_lss, x_leq, x_gtr, x_geq, x_eql, x_neq, x_not, x_fa, x_ext, x_mkfn, if_true, if_false, decide_true, decide_false, Bool.not_true, Bool.not_false, Bool.true_beq, Bool.false_beq, beq_true, beq_false, Int.reduceEq, Int.reduceLT, Int.reduceLE, Int.reduceGT, Int.reduceGE, reduceCtorEq, Nat.reduceEqDiff, s_kendr, s_kendn, s_kfin, s_resnil, s_rescons, s_rest, s_resca, s_resV1, s_resV0, s_resV2, s_ffrom, s_fbits, s_kffrom, s_kfbits, x_slen, List.getElem?_cons_zero, List.getElem?_cons_succ, Option.map_some, hv]
          exact ⟨hx2, congrArg (V.int .i64) (by simpa using hacc), rfl⟩
        | true =>
          rw [hv] at hacc
          simp only [s_skip, s_region, s_draw, s_seq, s_cond, s_block, s_exit, s_scope, s_ret, s_nil, s_cons, s_done, s_op, s_fork, s_kops, s_ktree, s_kseq_n, s_kseq_r, s_kseq_e, s_kblock_n, s_kblock_r, s_kblock_e, s_kscope_n, s_kscope_r, s_kscope_e, s_kcond_t, s_kcond_f, s_ex, s_call, s_callv, s_guard, s_kguard_t, s_kguard_f, s_kexec, s_kres, s_kcall, s_kcallv, s_kret, s_put, s_putn, s_get, s_evs, s_evk, s_evnil, s_evcons, s_evC, s_g, s_gb, s_gu, s_kround_n, s_kround_r, s_kround_e, s_kloop_n, s_kloop_r, s_kloop_e, x_mov, x_konst, x_pick, x_nilck, x_add, x_sub, x_lss, x_leq, x_gtr, x_geq, x_eql, x_neq, x_not, x_fa, x_ext, x_mkfn, if_true, if_false, decide_true, decide_false, Bool.not_true, Bool.not_false, Bool.true_beq, Bool.false_beq, beq_true, beq_false, Int.reduceEq, Int.reduceLT, Int.reduceLE, Int.reduceGT, Int.reduceGE, reduceCtorEq, Nat.reduceEqDiff, s_kendr, s_kendn, s_kfin, s_resnil, s_rescons, s_rest, s_resca, s_resV1, s_resV0, s_resV2, s_ffrom, s_fbits, s_kffrom, s_kfbits, x_slen, List.getElem?_cons_zero, List.getElem?_cons_succ, Option.map_some, hv, l0, lv, Bool.false_eq_true]
          refine SCalls.mono (sfits_calls hU hT2 hs2 ats[k].key ats[k].val) ?_
          rintro r H4 ⟨rfl, rfl⟩
          cases hf : fitsK vU ks ats[k].key ats[k].val with
          | true =>
            simp only [s_skip, s_region, s_draw, s_seq, s_cond, s_block, s_exit, s_scope, s_ret, s_nil, s_cons, s_done, s_op, s_fork, s_kops, s_ktree, s_kseq_n, s_kseq_r, s_kseq_e, s_kblock_n, s_kblock_r, s_kblock_e, s_kscope_n, s_kscope_r, s_kscope_e, s_kcond_t, s_kcond_f, s_ex, s_call, s_callv, s_guard, s_kguard_t, s_kguard_f, s_kexec, s_kres, s_kcall, s_kcallv, s_kret, s_put, s_putn, s_get, s_evs, s_evk, s_evnil, s_evcons, s_evC, s_g, s_gb, s_gu, s_kround_n, s_kround_r, s_kround_e, s_kloop_n, s_kloop_r, s_kloop_e, x_mov, x_konst, x_pick, x_nilck, x_add, x_sub, x_lss, x_leq, x_gtr, x_geq, x_eql, x_neq, x_not, x_fa, x_ext, x_mkfn, if_true, if_false, decide_true, decide_false, Bool.not_true, Bool.not_false, Bool.true_beq, Bool.false_beq, beq_true, beq_false, Int.reduceEq, Int.reduceLT, Int.reduceLE, Int.reduceGT, Int.reduceGE, reduceCtorEq, Nat.reduceEqDiff, s_kendr, s_kendn, s_kfin, s_resnil, s_rescons, s_rest, s_resca, s_resV1, s_resV0, s_resV2, s_ffrom, s_fbits, s_kffrom, s_kfbits, x_slen, List.getElem?_cons_zero, List.getElem?_cons_succ, Option.map_some, hf]
            exact ⟨e, ⟨by rw [hnext]; simpa [hf] using hacc, hx2, hw2⟩, .cons rfl (.cons rfl (.cons rfl (.cons rfl (.cons rfl (.cons rfl .nil)))))⟩
          | false =>
            simp only [s_skip, s_region, s_draw, s_seq, s_cond, s_block, s_exit, s_scope, s_ret, s_nil, s_cons, s_done, s_op, s_fork, s_kops, s_ktree, s_kseq_n, s_kseq_r, s_kseq_e, s_kblock_n, s_kblock_r, s_kblock_e, s_kscope_n, s_kscope_r, s_kscope_e, s_kcond_t, s_kcond_f, s_ex, s_call, s_callv, s_guard, s_kguard_t, s_kguard_f, s_kexec, s_kres, s_kcall, s_kcallv, s_kret, s_put, s_putn, s_get, s_evs, s_evk, s_evnil, s_evcons, s_evC, s_g, s_gb, s_gu, s_kround_n, s_kround_r, s_kround_e, s_kloop_n, s_kloop_r, s_kloop_e, x_mov, x_konst, x_pick, x_nilck, x_add, x_sub, x_lss, x_leq, x_gtr, x_geq, x_eql, x_neq, x_not, x_fa, x_ext, x_mkfn, if_true, if_false, decide_true, decide_false, Bool.not_true, Bool.not_false, Bool.true_beq, Bool.false_beq, beq_true, beq_false, Int.reduceEq, Int.reduceLT, Int.reduceLE, Int.reduceGT, Int.reduceGE, reduceCtorEq, Nat.reduceEqDiff, s_kendr, s_kendn, s_kfin, s_resnil, s_rescons, s_rest, s_resca, s_resV1, s_resV0, s_resV2, s_ffrom, s_fbits, s_kffrom, s_kfbits, x_slen, List.getElem?_cons_zero, List.getElem?_cons_succ, Option.map_some, hf]
            exact ⟨4, ⟨by rw [hnext]; simpa [hf] using hacc, hx2, hw2⟩, .cons rfl (.cons rfl (.cons rfl (.cons rfl (.cons rfl (.cons rfl .nil)))))⟩
  · rintro e H' ⟨hacc, hext, hwf⟩
    simp only [s_skip, s_region, s_draw, s_seq, s_cond, s_block, s_exit, s_scope, s_ret, s_nil, s_cons, s_done, s_op, s_fork, s_kops, s_ktree, s_kseq_n, s_kseq_r, s_kseq_e, s_kblock_n, s_kblock_r, s_kblock_e, s_kscope_n, s_kscope_r, s_kscope_e, s_kcond_t, s_kcond_f, s_ex, s_call, s_callv, s_guard, s_kguard_t, s_kguard_f, s_kexec, s_kres, s_kcall, s_kcallv, s_kret, s_put, s_putn, s_get, s_evs, s_evk, s_evnil, s_evcons, s_evC, s_g, s_gb, s_gu, s_kround_n, s_kround_r, s_kround_e, s_kloop_n, s_kloop_r, s_kloop_e, x_mov, x_konst, x_pick, x_nilck, x_add, x_sub, x_lss, x_leq, x_gtr, x_geq, x_eql, x_neq, x_not, x_fa, x_ext, x_mkfn, if_true, if_false, decide_true, decide_false, Bool.not_true, Bool.not_false, Bool.true_beq, Bool.false_beq, beq_true, beq_false, Int.reduceEq, Int.reduceLT, Int.reduceLE, Int.reduceGT, Int.reduceGE, reduceCtorEq, Nat.reduceEqDiff, s_kendr, s_kendn, s_kfin, s_resnil, s_rescons, s_rest, s_resca, s_resV1, s_resV0, s_resV2, s_ffrom, s_fbits, s_kffrom, s_kfbits, x_slen, List.getElem?_cons_zero, List.getElem?_cons_succ, Option.map_some]
    rw [List.drop_length] at hacc
    exact ⟨hext, congrArg (V.int .i64) hacc, rfl⟩
end Go.Proofs.YtbadbkdpnbacnaaDoor.Fw

/- What functions of the program answer: whether a patch may be. No condition but what utf8.Valid answers, which is a hypothesis here. Parts of it printed by a program. -/
namespace Go.Proofs.YtbadbkdpnbacnaaDoor.Fw
open Go
set_option linter.unusedSimpArgs false
set_option linter.unusedVariables false
variable {vU : ByteArray → Bool}

def valBad (vU : ByteArray → Bool) (c : ChgA) : Bool := (c.gone && !same4 c.val.cells zv) || (!c.gone && !vMay vU c.val)
def keyBad (vU : ByteArray → Bool) (ks : List KeyA) (c : ChgA) : Bool := !(findK ks c.key).isSome || (!c.gone && !fitsK vU ks c.key c.val)
def patchF (vU : ByteArray → Bool) (ks : List KeyA) : Option Int → Int → List ChgA → Int
  | _, e, [] => e
  | p, e, c :: cs => if prevBad p c.key || valBad vU c then 3 else patchF vU ks (some c.key) (if keyBad vU ks c then 4 else e) cs
def patchMayF (vU : ByteArray → Bool) (ks : List KeyA) (cs : List ChgA) : Int := if cs.length > 64 then 3 else patchF vU ks none 0 cs
def prevOfC (cs : List ChgA) (k : Nat) : Option Int := if k = 0 then none else (cs[k - 1]?).map (·.key)
theorem same4_not (v : ValA) (H : Heap) : exec (.eqagg true [0, 0, 0, 2]) [.agg v.cells, .agg zv] H = some (.bool (!same4 v.cells zv), H) := by
  simp only [exec, same4, ValA.cells, sameL, V.sameK, if_true, Option.map_some, Option.getD_some, Bool.bne_true]

set_option maxRecDepth 20000 in
set_option maxHeartbeats 4000000 in
theorem patchMay_calls (hU : ValidIs vU) {s x : V} {H : Heap} {ks : List KeyA} {cs : List ChgA} (hT : Tabs H) (hs : Sch H s ks) (hx : SL H x 6 (cs.map ChgA.cells)) :
    SCalls PP 58 [s, x] H fun r H' => H' = H ∧ r = .int .i64 (patchMayF vU ks cs) := by
  refine SCalls.keep (R := fun r => r = .int .i64 (patchMayF vU ks cs)) (SCalls.go c58 (by simp [fn58]) fun hw => ?_)
  by_cases h64 : (cs.length : Int) > 64
  · have h64' : cs.length > 64 := by omega
    simp only [fn58, enterFr, List.length, List.range, List.range.loop, List.zip, List.zipWith, s_skip, s_region, s_draw, s_seq, s_cond, s_block, s_exit, s_scope, s_ret, s_nil, s_cons, s_done, s_op, s_fork, s_kops, s_ktree, s_kseq_n, s_kseq_r, s_kseq_e, s_kblock_n, s_kblock_r, s_kblock_e, s_kscope_n, s_kscope_r, s_kscope_e, s_kcond_t, s_kcond_f, s_ex, s_call, s_callv, s_guard, s_kguard_t, s_kguard_f, s_kexec, s_kres, s_kcall, s_kcallv, s_kret, s_put, s_putn, s_get, s_evs, s_evk, s_evnil, s_evcons, s_evC, s_g, s_gb, s_gu, s_kround_n, s_kround_r, s_kround_e, s_kloop_n, s_kloop_r, s_kloop_e, x_mov, x_konst, x_pick, x_nilck, x_add, x_sub, x_lss, x_leq, x_gtr, x_geq, x_eql, x_neq, x_not, x_fa, x_ext, x_mkfn, if_true, if_false, decide_true, decide_false, Bool.not_true, Bool.not_false, Bool.true_beq, Bool.false_beq, beq_true, beq_false, Int.reduceEq, Int.reduceLT, Int.reduceLE, Int.reduceGT, Int.reduceGE, reduceCtorEq, Nat.reduceEqDiff, s_kendr, s_kendn, s_kfin, s_resnil, s_rescons, s_rest, s_resca, s_resV1, s_resV0, s_resV2, s_ffrom, s_fbits, s_kffrom, s_kfbits, x_slen, List.getElem?_cons_zero, List.getElem?_cons_succ, Option.map_some, hx.len, List.length_map, h64]
    exact ⟨Ext.refl H, by simp [patchMayF, h64'], rfl⟩
  have h64' : ¬ cs.length > 64 := by omega
  have hF : patchMayF vU ks cs = patchF vU ks none 0 cs := by simp [patchMayF, h64']
  rw [hF]
  simp only [fn58, enterFr, List.length, List.range, List.range.loop, List.zip, List.zipWith, s_skip, s_region, s_draw, s_seq, s_cond, s_block, s_exit, s_scope, s_ret, s_nil, s_cons, s_done, s_op, s_fork, s_kops, s_ktree, s_kseq_n, s_kseq_r, s_kseq_e, s_kblock_n, s_kblock_r, s_kblock_e, s_kscope_n, s_kscope_r, s_kscope_e, s_kcond_t, s_kcond_f, s_ex, s_call, s_callv, s_guard, s_kguard_t, s_kguard_f, s_kexec, s_kres, s_kcall, s_kcallv, s_kret, s_put, s_putn, s_get, s_evs, s_evk, s_evnil, s_evcons, s_evC, s_g, s_gb, s_gu, s_kround_n, s_kround_r, s_kround_e, s_kloop_n, s_kloop_r, s_kloop_e, x_mov, x_konst, x_pick, x_nilck, x_add, x_sub, x_lss, x_leq, x_gtr, x_geq, x_eql, x_neq, x_not, x_fa, x_ext, x_mkfn, if_true, if_false, decide_true, decide_false, Bool.not_true, Bool.not_false, Bool.true_beq, Bool.false_beq, beq_true, beq_false, Int.reduceEq, Int.reduceLT, Int.reduceLE, Int.reduceGT, Int.reduceGE, reduceCtorEq, Nat.reduceEqDiff, s_kendr, s_kendn, s_kfin, s_resnil, s_rescons, s_rest, s_resca, s_resV1, s_resV0, s_resV2, s_ffrom, s_fbits, s_kffrom, s_kfbits, x_slen, List.getElem?_cons_zero, List.getElem?_cons_succ, Option.map_some, hx.len, List.length_map, h64]
  refine wp_range SCalls.scMono (by omega) (fun e : Int => [(13, x), (5, .int .i64 e), (0, s), (1, x)]) (fun k e H' => patchF vU ks (prevOfC cs k) e (cs.drop k) = patchF vU ks none 0 cs ∧ Ext H H' ∧ WF H') 0 ⟨rfl, Ext.refl H, hw⟩
    (.cons rfl (.cons rfl (.cons rfl (.cons rfl (.cons rfl (.cons rfl .nil)))))) (by decide) (fun s => ⟨rfl, rfl, rfl⟩) ?_ ?_
  · rintro k e H' hk ⟨hacc, hext, hwf⟩
    have hm := hx.1 cs[k].cells (List.mem_map_of_mem (List.getElem_mem hk))
    obtain ⟨id, o, hia, hat⟩ := (hx.ext hext).ia (H' := H') (i := k) (e := cs[k].cells) (by simp [hk]) .i64
    obtain ⟨H2, hx2, hw2, ha2, hal, hst⟩ := x_copy hext hwf (z := [V.int .i64 0, .bool false, .int .u8 0, .int .i64 0, .int .u64 0, .str ⟨#[]⟩]) (e := cs[k].cells) (n := 6) rfl rfl hm.1 hm.2
    have f0 := ha2.ld (j := 0) (v := .int .i64 cs[k].key) rfl 1
    simp only [s_skip, s_region, s_draw, s_seq, s_cond, s_block, s_exit, s_scope, s_ret, s_nil, s_cons, s_done, s_op, s_fork, s_kops, s_ktree, s_kseq_n, s_kseq_r, s_kseq_e, s_kblock_n, s_kblock_r, s_kblock_e, s_kscope_n, s_kscope_r, s_kscope_e, s_kcond_t, s_kcond_f, s_ex, s_call, s_callv, s_guard, s_kguard_t, s_kguard_f, s_kexec, s_kres, s_kcall, s_kcallv, s_kret, s_put, s_putn, s_get, s_evs, s_evk, s_evnil, s_evcons, s_evC, s_g, s_gb, s_gu, s_kround_n, s_kround_r, s_kround_e, s_kloop_n, s_kloop_r, s_kloop_e, x_mov, x_konst, x_pick, x_nilck, x_add, x_sub, x_lss, x_leq, x_gtr, x_geq, x_eql, x_neq, x_not, x_fa, x_ext, x_mkfn, if_true, if_false, decide_true, decide_false, Bool.not_true, Bool.not_false, Bool.true_beq, Bool.false_beq, beq_true, beq_false, Int.reduceEq, Int.reduceLT, Int.reduceLE, Int.reduceGT, Int.reduceGE, reduceCtorEq, Nat.reduceEqDiff, s_kendr, s_kendn, s_kfin, s_resnil, s_rescons, s_rest, s_resca, s_resV1, s_resV0, s_resV2, s_ffrom, s_fbits, s_kffrom, s_kfbits, x_slen, List.getElem?_cons_zero, List.getElem?_cons_succ, Option.map_some, hia, hat.lda (n := 6) rfl, hal, hst, f0]
    refine SCalls.mono (find_calls (hs.ext hx2) cs[k].key) ?_
    rintro r H3 ⟨rfl, rfl⟩
    obtain ⟨H4, hx4', hw4, ha4, hal4, hst4⟩ := x_copy (Ext.refl H3) hw2 (z := zk) (e := foundC ks cs[k].key) (n := 6) rfl rfl rfl rfl
    have hx4 : Ext H H4 := hx2.trans hx4'
    have hT4 := hT.ext hx4
    have hs4 := hs.ext hx4
    have ha := ha2.ext hx4'
    have l0 := ha.ld (j := 0) (v := .int .i64 cs[k].key) rfl 1
    have l1 := ha.ld (j := 1) (v := .bool cs[k].gone) rfl 1
    have hav : At H4 H'.next (0 + 2) cs[k].val.cells := At.tail (a := [.int .i64 cs[k].key, .bool cs[k].gone]) ha
    have lv := hav.lda (n := 4) rfl
    have hbz : exec (.build zv []) [] H4 = some (.agg zv, H4) := rfl
    have hq := same4_not cs[k].val H4
    rw [List.drop_eq_getElem_cons hk] at hacc
    simp only [patchF] at hacc
    have hnext : prevOfC cs (k + 1) = some cs[k].key := by simp [prevOfC, List.getElem?_eq_getElem hk]
    have bad : ∀ (b : Bool), b = true → (if b then (3 : Int) else patchF vU ks (some cs[k].key) (if keyBad vU ks cs[k] then 4 else e) (cs.drop (k + 1))) = patchF vU ks none 0 cs → (3 : Int) = patchF vU ks none 0 cs := fun b hb h => by rw [hb] at h; simpa using h
    have good : ∀ (b : Bool), b = false → (if b then (3 : Int) else patchF vU ks (some cs[k].key) (if keyBad vU ks cs[k] then 4 else e) (cs.drop (k + 1))) = patchF vU ks none 0 cs → patchF vU ks (prevOfC cs (k + 1)) (if keyBad vU ks cs[k] then 4 else e) (cs.drop (k + 1)) = patchF vU ks none 0 cs := fun b hb h => by rw [hb] at h; rw [hnext]; simpa using h
    have kb4 : keyBad vU ks cs[k] = true → patchF vU ks (prevOfC cs (k + 1)) (if keyBad vU ks cs[k] then 4 else e) (cs.drop (k + 1)) = patchF vU ks none 0 cs → patchF vU ks (prevOfC cs (k + 1)) 4 (cs.drop (k + 1)) = patchF vU ks none 0 cs := fun hb h => by rw [hb] at h; simpa using h
    have kb0 : keyBad vU ks cs[k] = false → patchF vU ks (prevOfC cs (k + 1)) (if keyBad vU ks cs[k] then 4 else e) (cs.drop (k + 1)) = patchF vU ks none 0 cs → patchF vU ks (prevOfC cs (k + 1)) e (cs.drop (k + 1)) = patchF vU ks none 0 cs := fun hb h => by rw [hb] at h; simpa using h
    by_cases hk0 : k = 0
    · subst hk0
      have hpv : prevBad (prevOfC cs 0) cs[0].key = false := rfl
      have hgt : ¬ ((0 : Nat) : Int) > 0 := by omega
      cases hg : cs[0].gone with
      | true =>
        rw [hg] at l1
        cases hz : same4 cs[0].val.cells zv with
        | false =>
          simp only [s_skip, s_region, s_draw, s_seq, s_cond, s_block, s_exit, s_scope, s_ret, s_nil, s_cons, s_done, s_op, s_fork, s_kops, s_ktree, s_kseq_n, s_kseq_r, s_kseq_e, s_kblock_n, s_kblock_r, s_kblock_e, s_kscope_n, s_kscope_r, s_kscope_e, s_kcond_t, s_kcond_f, s_ex, s_call, s_callv, s_guard, s_kguard_t, s_kguard_f, s_kexec, s_kres, s_kcall, s_kcallv, s_kret, s_put, s_putn, s_get, s_evs, s_evk, s_evnil, s_evcons, s_evC, s_g, s_gb, s_gu, s_kround_n, s_kround_r, s_kround_e, s_kloop_n, s_kloop_r, s_kloop_e, x_mov, x_konst, x_pick, x_nilck, x_add, x_sub, x_lss, x_leq, x_gtr, x_geq, x_eql, x_neq, x_not, x_fa, x_ext, x_mkfn, if_true, if_false, decide_true, decide_false, Bool.not_true, Bool.not_false, Bool.true_beq, Bool.false_beq, beq_true, beq_false, Int.reduceEq, Int.reduceLT, Int.reduceLE, Int.reduceGT, Int.reduceGE, reduceCtorEq, Nat.reduceEqDiff, s_kendr, s_kendn, s_kfin, s_resnil, s_rescons, s_rest, s_resca, s_resV1, s_resV0, s_resV2, s_ffrom, s_fbits, s_kffrom, s_kfbits, x_slen, List.getElem?_cons_zero, List.getElem?_cons_succ, Option.map_some, hgt, hal4, hst4, l0, l1, lv, hbz, hq, hz, Bool.false_eq_true]
          exact ⟨hx4, congrArg (V.int .i64) (bad _ (by simp [hpv, valBad, hg, hz]) hacc), rfl⟩
        | true =>
          have hac2 := good _ (by simp [hpv, valBad, hg, hz]) hacc
          cases hth : (findK ks cs[0].key).isSome with
          | true =>
            simp only [s_skip, s_region, s_draw, s_seq, s_cond, s_block, s_exit, s_scope, s_ret, s_nil, s_cons, s_done, s_op, s_fork, s_kops, s_ktree, s_kseq_n, s_kseq_r, s_kseq_e, s_kblock_n, s_kblock_r, s_kblock_e, s_kscope_n, s_kscope_r, s_kscope_e, s_kcond_t, s_kcond_f, s_ex, s_call, s_callv, s_guard, s_kguard_t, s_kguard_f, s_kexec, s_kres, s_kcall, s_kcallv, s_kret, s_put, s_putn, s_get, s_evs, s_evk, s_evnil, s_evcons, s_evC, s_g, s_gb, s_gu, s_kround_n, s_kround_r, s_kround_e, s_kloop_n, s_kloop_r, s_kloop_e, x_mov, x_konst, x_pick, x_nilck, x_add, x_sub, x_lss, x_leq, x_gtr, x_geq, x_eql, x_neq, x_not, x_fa, x_ext, x_mkfn, if_true, if_false, decide_true, decide_false, Bool.not_true, Bool.not_false, Bool.true_beq, Bool.false_beq, beq_true, beq_false, Int.reduceEq, Int.reduceLT, Int.reduceLE, Int.reduceGT, Int.reduceGE, reduceCtorEq, Nat.reduceEqDiff, s_kendr, s_kendn, s_kfin, s_resnil, s_rescons, s_rest, s_resca, s_resV1, s_resV0, s_resV2, s_ffrom, s_fbits, s_kffrom, s_kfbits, x_slen, List.getElem?_cons_zero, List.getElem?_cons_succ, Option.map_some, hgt, hal4, hst4, l0, l1, lv, hbz, hq, hz, hth, Bool.false_eq_true]
            exact ⟨e, ⟨kb0 (by simp [keyBad, hg, hth]) hac2, hx4, hw4⟩, .cons rfl (.cons rfl (.cons rfl (.cons rfl (.cons rfl (.cons rfl .nil)))))⟩
          | false =>
            simp only [s_skip, s_region, s_draw, s_seq, s_cond, s_block, s_exit, s_scope, s_ret, s_nil, s_cons, s_done, s_op, s_fork, s_kops, s_ktree, s_kseq_n, s_kseq_r, s_kseq_e, s_kblock_n, s_kblock_r, s_kblock_e, s_kscope_n, s_kscope_r, s_kscope_e, s_kcond_t, s_kcond_f, s_ex, s_call, s_callv, s_guard, s_kguard_t, s_kguard_f, s_kexec, s_kres, s_kcall, s_kcallv, s_kret, s_put, s_putn, s_get, s_evs, s_evk, s_evnil, s_evcons, s_evC, s_g, s_gb, s_gu, s_kround_n, s_kround_r, s_kround_e, s_kloop_n, s_kloop_r, s_kloop_e, x_mov, x_konst, x_pick, x_nilck, x_add, x_sub, x_lss, x_leq, x_gtr, x_geq, x_eql, x_neq, x_not, x_fa, x_ext, x_mkfn, if_true, if_false, decide_true, decide_false, Bool.not_true, Bool.not_false, Bool.true_beq, Bool.false_beq, beq_true, beq_false, Int.reduceEq, Int.reduceLT, Int.reduceLE, Int.reduceGT, Int.reduceGE, reduceCtorEq, Nat.reduceEqDiff, s_kendr, s_kendn, s_kfin, s_resnil, s_rescons, s_rest, s_resca, s_resV1, s_resV0, s_resV2, s_ffrom, s_fbits, s_kffrom, s_kfbits, x_slen, List.getElem?_cons_zero, List.getElem?_cons_succ, Option.map_some, hgt, hal4, hst4, l0, l1, lv, hbz, hq, hz, hth, Bool.false_eq_true]
            exact ⟨4, ⟨kb4 (by simp [keyBad, hg, hth]) hac2, hx4, hw4⟩, .cons rfl (.cons rfl (.cons rfl (.cons rfl (.cons rfl (.cons rfl .nil)))))⟩
      | false =>
        rw [hg] at l1
        simp only [s_skip, s_region, s_draw, s_seq, s_cond, s_block, s_exit, s_scope, s_ret, s_nil, s_cons, s_done, s_op, s_fork, s_kops, s_ktree, s_kseq_n, s_kseq_r, s_kseq_e, s_kblock_n, s_kblock_r, s_kblock_e, s_kscope_n, s_kscope_r, s_kscope_e, s_kcond_t, s_kcond_f, s_ex, s_call, s_callv, s_guard, s_kguard_t, s_kguard_f, s_kexec, s_kres, s_kcall, s_kcallv, s_kret, s_put, s_putn, s_get, s_evs, s_evk, s_evnil, s_evcons, s_evC, s_g, s_gb, s_gu, s_kround_n, s_kround_r, s_kround_e, s_kloop_n, s_kloop_r, s_kloop_e, x_mov, x_konst, x_pick, x_nilck, x_add, x_sub, x_lss, x_leq, x_gtr, x_geq, x_eql, x_neq, x_not, x_fa, x_ext, x_mkfn, if_true, if_false, decide_true, decide_false, Bool.not_true, Bool.not_false, Bool.true_beq, Bool.false_beq, beq_true, beq_false, Int.reduceEq, Int.reduceLT, Int.reduceLE, Int.reduceGT, Int.reduceGE, reduceCtorEq, Nat.reduceEqDiff, s_kendr, s_kendn, s_kfin, s_resnil, s_rescons, s_rest, s_resca, s_resV1, s_resV0, s_resV2, s_ffrom, s_fbits, s_kffrom, s_kfbits, x_slen, List.getElem?_cons_zero, List.getElem?_cons_succ, Option.map_some, hgt, hal4, hst4, l0, l1, lv, hbz, hq, Bool.false_eq_true]
        refine SCalls.mono (valueMay_calls hU cs[0].val _ hT4) ?_
        rintro r H5 ⟨rfl, rfl⟩
        cases hv : vMay vU cs[0].val with
        | false =>
          simp only [s_skip, s_region, s_draw, s_seq, s_cond, s_block, s_exit, s_scope, s_ret, s_nil, s_cons, s_done, s_op, s_fork, s_kops, s_ktree, s_kseq_n, s_kseq_r, s_kseq_e, s_kblock_n, s_kblock_r, s_kblock_e, s_kscope_n, s_kscope_r, s_kscope_e, s_kcond_t, s_kcond_f, s_ex, s_call, s_callv, s_guard, s_kguard_t, s_kguard_f, s_kexec, s_kres, s_kcall, s_kcallv, s_kret, s_put, s_putn, s_get, s_evs, s_evk, s_evnil, s_evcons, s_evC, s_g, s_gb, s_gu, s_kround_n, s_kround_r, s_kround_e, s_kloop_n, s_kloop_r, s_kloop_e, x_mov, x_konst, x_pick, x_nilck, x_add, x_sub, x_lss, x_leq, x_gtr, x_geq, x_eql, x_neq, x_not, x_fa, x_ext, x_mkfn, if_true, if_false, decide_true, decide_false, Bool.not_true, Bool.not_false, Bool.true_beq, Bool.false_beq, beq_true, beq_false, Int.reduceEq, Int.reduceLT, Int.reduceLE, Int.reduceGT, Int.reduceGE, reduceCtorEq, Nat.reduceEqDiff, s_kendr, s_kendn, s_kfin, s_resnil, s_rescons, s_rest, s_resca, s_resV1, s_resV0, s_resV2, s_ffrom, s_fbits, s_kffrom, s_kfbits, x_slen, List.getElem?_cons_zero, List.getElem?_cons_succ, Option.map_some, hv, Bool.false_eq_true]
          exact ⟨hx4, congrArg (V.int .i64) (bad _ (by simp [hpv, valBad, hg, hv]) hacc), rfl⟩
        | true =>
          have hac2 := good _ (by simp [hpv, valBad, hg, hv]) hacc
          cases hth : (findK ks cs[0].key).isSome with
          | false =>
            simp only [s_skip, s_region, s_draw, s_seq, s_cond, s_block, s_exit, s_scope, s_ret, s_nil, s_cons, s_done, s_op, s_fork, s_kops, s_ktree, s_kseq_n, s_kseq_r, s_kseq_e, s_kblock_n, s_kblock_r, s_kblock_e, s_kscope_n, s_kscope_r, s_kscope_e, s_kcond_t, s_kcond_f, s_ex, s_call, s_callv, s_guard, s_kguard_t, s_kguard_f, s_kexec, s_kres, s_kcall, s_kcallv, s_kret, s_put, s_putn, s_get, s_evs, s_evk, s_evnil, s_evcons, s_evC, s_g, s_gb, s_gu, s_kround_n, s_kround_r, s_kround_e, s_kloop_n, s_kloop_r, s_kloop_e, x_mov, x_konst, x_pick, x_nilck, x_add, x_sub, x_lss, x_leq, x_gtr, x_geq, x_eql, x_neq, x_not, x_fa, x_ext, x_mkfn, if_true, if_false, decide_true, decide_false, Bool.not_true, Bool.not_false, Bool.true_beq, Bool.false_beq, beq_true, beq_false, Int.reduceEq, Int.reduceLT, Int.reduceLE, Int.reduceGT, Int.reduceGE, reduceCtorEq, Nat.reduceEqDiff, s_kendr, s_kendn, s_kfin, s_resnil, s_rescons, s_rest, s_resca, s_resV1, s_resV0, s_resV2, s_ffrom, s_fbits, s_kffrom, s_kfbits, x_slen, List.getElem?_cons_zero, List.getElem?_cons_succ, Option.map_some, hv, l0, l1, lv, hth, Bool.false_eq_true]
            exact ⟨4, ⟨kb4 (by simp [keyBad, hg, hth]) hac2, hx4, hw4⟩, .cons rfl (.cons rfl (.cons rfl (.cons rfl (.cons rfl (.cons rfl .nil)))))⟩
          | true =>
            simp only [s_skip, s_region, s_draw, s_seq, s_cond, s_block, s_exit, s_scope, s_ret, s_nil, s_cons, s_done, s_op, s_fork, s_kops, s_ktree, s_kseq_n, s_kseq_r, s_kseq_e, s_kblock_n, s_kblock_r, s_kblock_e, s_kscope_n, s_kscope_r, s_kscope_e, s_kcond_t, s_kcond_f, s_ex, s_call, s_callv, s_guard, s_kguard_t, s_kguard_f, s_kexec, s_kres, s_kcall, s_kcallv, s_kret, s_put, s_putn, s_get, s_evs, s_evk, s_evnil, s_evcons, s_evC, s_g, s_gb, s_gu, s_kround_n, s_kround_r, s_kround_e, s_kloop_n, s_kloop_r, s_kloop_e, x_mov, x_konst, x_pick, x_nilck, x_add, x_sub, x_lss, x_leq, x_gtr, x_geq, x_eql, x_neq, x_not, x_fa, x_ext, x_mkfn, if_true, if_false, decide_true, decide_false, Bool.not_true, Bool.not_false, Bool.true_beq, Bool.false_beq, beq_true, beq_false, Int.reduceEq, Int.reduceLT, Int.reduceLE, Int.reduceGT, Int.reduceGE, reduceCtorEq, Nat.reduceEqDiff, s_kendr, s_kendn, s_kfin, s_resnil, s_rescons, s_rest, s_resca, s_resV1, s_resV0, s_resV2, s_ffrom, s_fbits, s_kffrom, s_kfbits, x_slen, List.getElem?_cons_zero, List.getElem?_cons_succ, Option.map_some, hv, l0, l1, lv, hth, Bool.false_eq_true]
            refine SCalls.mono (sfits_calls hU hT4 hs4 cs[0].key cs[0].val) ?_
            rintro r H6 ⟨rfl, rfl⟩
            cases hf : fitsK vU ks cs[0].key cs[0].val with
            | true =>
              simp only [s_skip, s_region, s_draw, s_seq, s_cond, s_block, s_exit, s_scope, s_ret, s_nil, s_cons, s_done, s_op, s_fork, s_kops, s_ktree, s_kseq_n, s_kseq_r, s_kseq_e, s_kblock_n, s_kblock_r, s_kblock_e, s_kscope_n, s_kscope_r, s_kscope_e, s_kcond_t, s_kcond_f, s_ex, s_call, s_callv, s_guard, s_kguard_t, s_kguard_f, s_kexec, s_kres, s_kcall, s_kcallv, s_kret, s_put, s_putn, s_get, s_evs, s_evk, s_evnil, s_evcons, s_evC, s_g, s_gb, s_gu, s_kround_n, s_kround_r, s_kround_e, s_kloop_n, s_kloop_r, s_kloop_e, x_mov, x_konst, x_pick, x_nilck, x_add, x_sub, x_lss, x_leq, x_gtr, x_geq, x_eql, x_neq, x_not, x_fa, x_ext, x_mkfn, if_true, if_false, decide_true, decide_false, Bool.not_true, Bool.not_false, Bool.true_beq, Bool.false_beq, beq_true, beq_false, Int.reduceEq, Int.reduceLT, Int.reduceLE, Int.reduceGT, Int.reduceGE, reduceCtorEq, Nat.reduceEqDiff, s_kendr, s_kendn, s_kfin, s_resnil, s_rescons, s_rest, s_resca, s_resV1, s_resV0, s_resV2, s_ffrom, s_fbits, s_kffrom, s_kfbits, x_slen, List.getElem?_cons_zero, List.getElem?_cons_succ, Option.map_some, hf, Bool.false_eq_true]
              exact ⟨e, ⟨kb0 (by simp [keyBad, hg, hth, hf]) hac2, hx4, hw4⟩, .cons rfl (.cons rfl (.cons rfl (.cons rfl (.cons rfl (.cons rfl .nil)))))⟩
            | false =>
              simp only [s_skip, s_region, s_draw, s_seq, s_cond, s_block, s_exit, s_scope, s_ret, s_nil, s_cons, s_done, s_op, s_fork, s_kops, s_ktree, s_kseq_n, s_kseq_r, s_kseq_e, s_kblock_n, s_kblock_r, s_kblock_e, s_kscope_n, s_kscope_r, s_kscope_e, s_kcond_t, s_kcond_f, s_ex, s_call, s_callv, s_guard, s_kguard_t, s_kguard_f, s_kexec, s_kres, s_kcall, s_kcallv, s_kret, s_put, s_putn, s_get, s_evs, s_evk, s_evnil, s_evcons, s_evC, s_g, s_gb, s_gu, s_kround_n, s_kround_r, s_kround_e, s_kloop_n, s_kloop_r, s_kloop_e, x_mov, x_konst, x_pick, x_nilck, x_add, x_sub, x_lss, x_leq, x_gtr, x_geq, x_eql, x_neq, x_not, x_fa, x_ext, x_mkfn, if_true, if_false, decide_true, decide_false, Bool.not_true, Bool.not_false, Bool.true_beq, Bool.false_beq, beq_true, beq_false, Int.reduceEq, Int.reduceLT, Int.reduceLE, Int.reduceGT, Int.reduceGE, reduceCtorEq, Nat.reduceEqDiff, s_kendr, s_kendn, s_kfin, s_resnil, s_rescons, s_rest, s_resca, s_resV1, s_resV0, s_resV2, s_ffrom, s_fbits, s_kffrom, s_kfbits, x_slen, List.getElem?_cons_zero, List.getElem?_cons_succ, Option.map_some, hf, Bool.false_eq_true]
              exact ⟨4, ⟨kb4 (by simp [keyBad, hg, hth, hf]) hac2, hx4, hw4⟩, .cons rfl (.cons rfl (.cons rfl (.cons rfl (.cons rfl (.cons rfl .nil)))))⟩
    · have hgt : (k : Int) > 0 := by omega
      have hk1 : k - 1 < cs.length := by omega
      obtain ⟨id', o', hia', hat'⟩ := (hx.ext hx4).ia (H' := H4) (i := k - 1) (e := cs[k - 1].cells) (by simp [hk1]) .i64
      have lp := hat'.ld (j := 0) (v := .int .i64 cs[k - 1].key) rfl 1
      have hsub : IntKind.i64.wrap ((k : Int) - 1) = ((k - 1 : Nat) : Int) := by rw [wrap_i64 (by omega) (by omega)]; omega
      have hpe : prevBad (prevOfC cs k) cs[k].key = decide (cs[k - 1].key ≥ cs[k].key) := by
        simp [prevOfC, hk0, List.getElem?_eq_getElem hk1, prevBad]
      by_cases hge : cs[k - 1].key ≥ cs[k].key
      · have hpv : prevBad (prevOfC cs k) cs[k].key = true := by rw [hpe]; simpa using hge
        simp only [s_skip, s_region, s_draw, s_seq, s_cond, s_block, s_exit, s_scope, s_ret, s_nil, s_cons, s_done, s_op, s_fork, s_kops, s_ktree, s_kseq_n, s_kseq_r, s_kseq_e, s_kblock_n, s_kblock_r, s_kblock_e, s_kscope_n, s_kscope_r, s_kscope_e, s_kcond_t, s_kcond_f, s_ex, s_call, s_callv, s_guard, s_kguard_t, s_kguard_f, s_kexec, s_kres, s_kcall, s_kcallv, s_kret, s_put, s_putn, s_get, s_evs, s_evk, s_evnil, s_evcons, s_evC, s_g, s_gb, s_gu, s_kround_n, s_kround_r, s_kround_e, s_kloop_n, s_kloop_r, s_kloop_e, x_mov, x_konst, x_pick, x_nilck, x_add, x_sub, x_lss, x_leq, x_gtr, x_geq, x_eql, x_neq, x_not, x_fa, x_ext, x_mkfn, if_true, if_false, decide_true, decide_false, Bool.not_true, Bool.not_false, Bool.true_beq, Bool.false_beq, beq_true, beq_false, Int.reduceEq, Int.reduceLT, Int.reduceLE, Int.reduceGT, Int.reduceGE, reduceCtorEq, Nat.reduceEqDiff, s_kendr, s_kendn, s_kfin, s_resnil, s_rescons, s_rest, s_resca, s_resV1, s_resV0, s_resV2, s_ffrom, s_fbits, s_kffrom, s_kfbits, x_slen, List.getElem?_cons_zero, List.getElem?_cons_succ, Option.map_some, hal4, hst4, hgt, hsub, hia', lp, l0, hge]
        exact ⟨hx4, congrArg (V.int .i64) (bad _ (by simp [hpv]) hacc), rfl⟩
      · have hpv : prevBad (prevOfC cs k) cs[k].key = false := by rw [hpe]; simpa using hge
        cases hg : cs[k].gone with
        | true =>
          rw [hg] at l1
          cases hz : same4 cs[k].val.cells zv with
          | false =>
            simp only [s_skip, s_region, s_draw, s_seq, s_cond, s_block, s_exit, s_scope, s_ret, s_nil, s_cons, s_done, s_op, s_fork, s_kops, s_ktree, s_kseq_n, s_kseq_r, s_kseq_e, s_kblock_n, s_kblock_r, s_kblock_e, s_kscope_n, s_kscope_r, s_kscope_e, s_kcond_t, s_kcond_f, s_ex, s_call, s_callv, s_guard, s_kguard_t, s_kguard_f, s_kexec, s_kres, s_kcall, s_kcallv, s_kret, s_put, s_putn, s_get, s_evs, s_evk, s_evnil, s_evcons, s_evC, s_g, s_gb, s_gu, s_kround_n, s_kround_r, s_kround_e, s_kloop_n, s_kloop_r, s_kloop_e, x_mov, x_konst, x_pick, x_nilck, x_add, x_sub, x_lss, x_leq, x_gtr, x_geq, x_eql, x_neq, x_not, x_fa, x_ext, x_mkfn, if_true, if_false, decide_true, decide_false, Bool.not_true, Bool.not_false, Bool.true_beq, Bool.false_beq, beq_true, beq_false, Int.reduceEq, Int.reduceLT, Int.reduceLE, Int.reduceGT, Int.reduceGE, reduceCtorEq, Nat.reduceEqDiff, s_kendr, s_kendn, s_kfin, s_resnil, s_rescons, s_rest, s_resca, s_resV1, s_resV0, s_resV2, s_ffrom, s_fbits, s_kffrom, s_kfbits, x_slen, List.getElem?_cons_zero, List.getElem?_cons_succ, Option.map_some, hgt, hsub, hia', lp, hge, hal4, hst4, l0, l1, lv, hbz, hq, hz, Bool.false_eq_true]
            exact ⟨hx4, congrArg (V.int .i64) (bad _ (by simp [hpv, valBad, hg, hz]) hacc), rfl⟩
          | true =>
            have hac2 := good _ (by simp [hpv, valBad, hg, hz]) hacc
            cases hth : (findK ks cs[k].key).isSome with
            | true =>
              simp only [s_skip, s_region, s_draw, s_seq, s_cond, s_block, s_exit, s_scope, s_ret, s_nil, s_cons, s_done, s_op, s_fork, s_kops, s_ktree, s_kseq_n, s_kseq_r, s_kseq_e, s_kblock_n, s_kblock_r, s_kblock_e, s_kscope_n, s_kscope_r, s_kscope_e, s_kcond_t, s_kcond_f, s_ex, s_call, s_callv, s_guard, s_kguard_t, s_kguard_f, s_kexec, s_kres, s_kcall, s_kcallv, s_kret, s_put, s_putn, s_get, s_evs, s_evk, s_evnil, s_evcons, s_evC, s_g, s_gb, s_gu, s_kround_n, s_kround_r, s_kround_e, s_kloop_n, s_kloop_r, s_kloop_e, x_mov, x_konst, x_pick, x_nilck, x_add, x_sub, x_lss, x_leq, x_gtr, x_geq, x_eql, x_neq, x_not, x_fa, x_ext, x_mkfn, if_true, if_false, decide_true, decide_false, Bool.not_true, Bool.not_false, Bool.true_beq, Bool.false_beq, beq_true, beq_false, Int.reduceEq, Int.reduceLT, Int.reduceLE, Int.reduceGT, Int.reduceGE, reduceCtorEq, Nat.reduceEqDiff, s_kendr, s_kendn, s_kfin, s_resnil, s_rescons, s_rest, s_resca, s_resV1, s_resV0, s_resV2, s_ffrom, s_fbits, s_kffrom, s_kfbits, x_slen, List.getElem?_cons_zero, List.getElem?_cons_succ, Option.map_some, hgt, hsub, hia', lp, hge, hal4, hst4, l0, l1, lv, hbz, hq, hz, hth, Bool.false_eq_true]
              exact ⟨e, ⟨kb0 (by simp [keyBad, hg, hth]) hac2, hx4, hw4⟩, .cons rfl (.cons rfl (.cons rfl (.cons rfl (.cons rfl (.cons rfl .nil)))))⟩
            | false =>
              simp only [s_skip, s_region, s_draw, s_seq, s_cond, s_block, s_exit, s_scope, s_ret, s_nil, s_cons, s_done, s_op, s_fork, s_kops, s_ktree, s_kseq_n, s_kseq_r, s_kseq_e, s_kblock_n, s_kblock_r, s_kblock_e, s_kscope_n, s_kscope_r, s_kscope_e, s_kcond_t, s_kcond_f, s_ex, s_call, s_callv, s_guard, s_kguard_t, s_kguard_f, s_kexec, s_kres, s_kcall, s_kcallv, s_kret, s_put, s_putn, s_get, s_evs, s_evk, s_evnil, s_evcons, s_evC, s_g, s_gb, s_gu, s_kround_n, s_kround_r, s_kround_e, s_kloop_n, s_kloop_r, s_kloop_e, x_mov, x_konst, x_pick, x_nilck, x_add, x_sub, x_lss, x_leq, x_gtr, x_geq, x_eql, x_neq, x_not, x_fa, x_ext, x_mkfn, if_true, if_false, decide_true, decide_false, Bool.not_true, Bool.not_false, Bool.true_beq, Bool.false_beq, beq_true, beq_false, Int.reduceEq, Int.reduceLT, Int.reduceLE, Int.reduceGT, Int.reduceGE, reduceCtorEq, Nat.reduceEqDiff, s_kendr, s_kendn, s_kfin, s_resnil, s_rescons, s_rest, s_resca, s_resV1, s_resV0, s_resV2, s_ffrom, s_fbits, s_kffrom, s_kfbits, x_slen, List.getElem?_cons_zero, List.getElem?_cons_succ, Option.map_some, hgt, hsub, hia', lp, hge, hal4, hst4, l0, l1, lv, hbz, hq, hz, hth, Bool.false_eq_true]
              exact ⟨4, ⟨kb4 (by simp [keyBad, hg, hth]) hac2, hx4, hw4⟩, .cons rfl (.cons rfl (.cons rfl (.cons rfl (.cons rfl (.cons rfl .nil)))))⟩
        | false =>
          rw [hg] at l1
          simp only [s_skip, s_region, s_draw, s_seq, s_cond, s_block, s_exit, s_scope, s_ret, s_nil, s_cons, s_done, s_op, s_fork, s_kops, s_ktree, s_kseq_n, s_kseq_r, s_kseq_e, s_kblock_n, s_kblock_r, s_kblock_e, s_kscope_n, s_kscope_r, s_kscope_e, s_kcond_t, s_kcond_f, s_ex, s_call, s_callv, s_guard, s_kguard_t, s_kguard_f, s_kexec, s_kres, s_kcall, s_kcallv, s_kret, s_put, s_putn, s_get, s_evs, s_evk, s_evnil, s_evcons, s_evC, s_g, s_gb, s_gu, s_kround_n, s_kround_r, s_kround_e, s_kloop_n, s_kloop_r, s_kloop_e, x_mov, x_konst, x_pick, x_nilck, x_add, x_sub, x_lss, x_leq, x_gtr, x_geq, x_eql, x_neq, x_not, x_fa, x_ext, x_mkfn, if_true, if_false, decide_true, decide_false, Bool.not_true, Bool.not_false, Bool.true_beq, Bool.false_beq, beq_true, beq_false, Int.reduceEq, Int.reduceLT, Int.reduceLE, Int.reduceGT, Int.reduceGE, reduceCtorEq, Nat.reduceEqDiff, s_kendr, s_kendn, s_kfin, s_resnil, s_rescons, s_rest, s_resca, s_resV1, s_resV0, s_resV2, s_ffrom, s_fbits, s_kffrom, s_kfbits, x_slen, List.getElem?_cons_zero, List.getElem?_cons_succ, Option.map_some, hgt, hsub, hia', lp, hge, hal4, hst4, l0, l1, lv, hbz, hq, Bool.false_eq_true]
          refine SCalls.mono (valueMay_calls hU cs[k].val _ hT4) ?_
          rintro r H5 ⟨rfl, rfl⟩
          cases hv : vMay vU cs[k].val with
          | false =>
            simp only [s_skip, s_region, s_draw, s_seq, s_cond, s_block, s_exit, s_scope, s_ret, s_nil, s_cons, s_done, s_op, s_fork, s_kops, s_ktree, s_kseq_n, s_kseq_r, s_kseq_e, s_kblock_n, s_kblock_r, s_kblock_e, s_kscope_n, s_kscope_r, s_kscope_e, s_kcond_t, s_kcond_f, s_ex, s_call, s_callv, s_guard, s_kguard_t, s_kguard_f, s_kexec, s_kres, s_kcall, s_kcallv, s_kret, s_put, s_putn, s_get, s_evs, s_evk, s_evnil, s_evcons, s_evC, s_g, s_gb, s_gu, s_kround_n, s_kround_r, s_kround_e, s_kloop_n, s_kloop_r, s_kloop_e, x_mov, x_konst, x_pick, x_nilck, x_add, x_sub, x_lss, x_leq, x_gtr, x_geq, x_eql, x_neq, x_not, x_fa, x_ext, x_mkfn, if_true, if_false, decide_true, decide_false, Bool.not_true, Bool.not_false, Bool.true_beq, Bool.false_beq, beq_true, beq_false, Int.reduceEq, Int.reduceLT, Int.reduceLE, Int.reduceGT, Int.reduceGE, reduceCtorEq, Nat.reduceEqDiff, s_kendr, s_kendn, s_kfin, s_resnil, s_rescons, s_rest, s_resca, s_resV1, s_resV0, s_resV2, s_ffrom, s_fbits, s_kffrom, s_kfbits, x_slen, List.getElem?_cons_zero, List.getElem?_cons_succ, Option.map_some, hv, Bool.false_eq_true]
            exact ⟨hx4, congrArg (V.int .i64) (bad _ (by simp [hpv, valBad, hg, hv]) hacc), rfl⟩
          | true =>
            have hac2 := good _ (by simp [hpv, valBad, hg, hv]) hacc
            cases hth : (findK ks cs[k].key).isSome with
            | false =>
              simp only [s_skip, s_region, s_draw, s_seq, s_cond, s_block, s_exit, s_scope, s_ret, s_nil, s_cons, s_done, s_op, s_fork, s_kops, s_ktree, s_kseq_n, s_kseq_r, s_kseq_e, s_kblock_n, s_kblock_r, s_kblock_e, s_kscope_n, s_kscope_r, s_kscope_e, s_kcond_t, s_kcond_f, s_ex, s_call, s_callv, s_guard, s_kguard_t, s_kguard_f, s_kexec, s_kres, s_kcall, s_kcallv, s_kret, s_put, s_putn, s_get, s_evs, s_evk, s_evnil, s_evcons, s_evC, s_g, s_gb, s_gu, s_kround_n, s_kround_r, s_kround_e, s_kloop_n, s_kloop_r, s_kloop_e, x_mov, x_konst, x_pick, x_nilck, x_add, x_sub, x_lss, x_leq, x_gtr, x_geq, x_eql, x_neq, x_not, x_fa, x_ext, x_mkfn, if_true, if_false, decide_true, decide_false, Bool.not_true, Bool.not_false, Bool.true_beq, Bool.false_beq, beq_true, beq_false, Int.reduceEq, Int.reduceLT, Int.reduceLE, Int.reduceGT, Int.reduceGE, reduceCtorEq, Nat.reduceEqDiff, s_kendr, s_kendn, s_kfin, s_resnil, s_rescons, s_rest, s_resca, s_resV1, s_resV0, s_resV2, s_ffrom, s_fbits, s_kffrom, s_kfbits, x_slen, List.getElem?_cons_zero, List.getElem?_cons_succ, Option.map_some, hv, l0, l1, lv, hth, Bool.false_eq_true]
              exact ⟨4, ⟨kb4 (by simp [keyBad, hg, hth]) hac2, hx4, hw4⟩, .cons rfl (.cons rfl (.cons rfl (.cons rfl (.cons rfl (.cons rfl .nil)))))⟩
            | true =>
              simp only [s_skip, s_region, s_draw, s_seq, s_cond, s_block, s_exit, s_scope, s_ret, s_nil, s_cons, s_done, s_op, s_fork, s_kops, s_ktree, s_kseq_n, s_kseq_r, s_kseq_e, s_kblock_n, s_kblock_r, s_kblock_e, s_kscope_n, s_kscope_r, s_kscope_e, s_kcond_t, s_kcond_f, s_ex, s_call, s_callv, s_guard, s_kguard_t, s_kguard_f, s_kexec, s_kres, s_kcall, s_kcallv, s_kret, s_put, s_putn, s_get, s_evs, s_evk, s_evnil, s_evcons, s_evC, s_g, s_gb, s_gu, s_kround_n, s_kround_r, s_kround_e, s_kloop_n, s_kloop_r, s_kloop_e, x_mov, x_konst, x_pick, x_nilck, x_add, x_sub, x_lss, x_leq, x_gtr, x_geq, x_eql, x_neq, x_not, x_fa, x_ext, x_mkfn, if_true, if_false, decide_true, decide_false, Bool.not_true, Bool.not_false, Bool.true_beq, Bool.false_beq, beq_true, beq_false, Int.reduceEq, Int.reduceLT, Int.reduceLE, Int.reduceGT, Int.reduceGE, reduceCtorEq, Nat.reduceEqDiff, s_kendr, s_kendn, s_kfin, s_resnil, s_rescons, s_rest, s_resca, s_resV1, s_resV0, s_resV2, s_ffrom, s_fbits, s_kffrom, s_kfbits, x_slen, List.getElem?_cons_zero, List.getElem?_cons_succ, Option.map_some, hv, l0, l1, lv, hth, Bool.false_eq_true]
              refine SCalls.mono (sfits_calls hU hT4 hs4 cs[k].key cs[k].val) ?_
              rintro r H6 ⟨rfl, rfl⟩
              cases hf : fitsK vU ks cs[k].key cs[k].val with
              | true =>
                simp only [s_skip, s_region, s_draw, s_seq, s_cond, s_block, s_exit, s_scope, s_ret, s_nil, s_cons, s_done, s_op, s_fork, s_kops, s_ktree, s_kseq_n, s_kseq_r, s_kseq_e, s_kblock_n, s_kblock_r, s_kblock_e, s_kscope_n, s_kscope_r, s_kscope_e, s_kcond_t, s_kcond_f, s_ex, s_call, s_callv, s_guard, s_kguard_t, s_kguard_f, s_kexec, s_kres, s_kcall, s_kcallv, s_kret, s_put, s_putn, s_get, s_evs, s_evk, s_evnil, s_evcons, s_evC, s_g, s_gb, s_gu, s_kround_n, s_kround_r, s_kround_e, s_kloop_n, s_kloop_r, s_kloop_e, x_mov, x_konst, x_pick, x_nilck, x_add, x_sub, x_lss, x_leq, x_gtr, x_geq, x_eql, x_neq, x_not, x_fa, x_ext, x_mkfn, if_true, if_false, decide_true, decide_false, Bool.not_true, Bool.not_false, Bool.true_beq, Bool.false_beq, beq_true, beq_false, Int.reduceEq, Int.reduceLT, Int.reduceLE, Int.reduceGT, Int.reduceGE, reduceCtorEq, Nat.reduceEqDiff, s_kendr, s_kendn, s_kfin, s_resnil, s_rescons, s_rest, s_resca, s_resV1, s_resV0, s_resV2, s_ffrom, s_fbits, s_kffrom, s_kfbits, x_slen, List.getElem?_cons_zero, List.getElem?_cons_succ, Option.map_some, hf, Bool.false_eq_true]
                exact ⟨e, ⟨kb0 (by simp [keyBad, hg, hth, hf]) hac2, hx4, hw4⟩, .cons rfl (.cons rfl (.cons rfl (.cons rfl (.cons rfl (.cons rfl .nil)))))⟩
              | false =>
                simp only [s_skip, s_region, s_draw, s_seq, s_cond, s_block, s_exit, s_scope, s_ret, s_nil, s_cons, s_done, s_op, s_fork, s_kops, s_ktree, s_kseq_n, s_kseq_r, s_kseq_e, s_kblock_n, s_kblock_r, s_kblock_e, s_kscope_n, s_kscope_r, s_kscope_e, s_kcond_t, s_kcond_f, s_ex, s_call, s_callv, s_guard, s_kguard_t, s_kguard_f, s_kexec, s_kres, s_kcall, s_kcallv, s_kret, s_put, s_putn, s_get, s_evs, s_evk, s_evnil, s_evcons, s_evC, s_g, s_gb, s_gu, s_kround_n, s_kround_r, s_kround_e, s_kloop_n, s_kloop_r, s_kloop_e, x_mov, x_konst, x_pick, x_nilck, x_add, x_sub, x_lss, x_leq, x_gtr, x_geq, x_eql, x_neq, x_not, x_fa, x_ext, x_mkfn, if_true, if_false, decide_true, decide_false, Bool.not_true, Bool.not_false, Bool.true_beq, Bool.false_beq, beq_true, beq_false, Int.reduceEq, Int.reduceLT, Int.reduceLE, Int.reduceGT, Int.reduceGE, reduceCtorEq, Nat.reduceEqDiff, s_kendr, s_kendn, s_kfin, s_resnil, s_rescons, s_rest, s_resca, s_resV1, s_resV0, s_resV2, s_ffrom, s_fbits, s_kffrom, s_kfbits, x_slen, List.getElem?_cons_zero, List.getElem?_cons_succ, Option.map_some, hf, Bool.false_eq_true]
                exact ⟨4, ⟨kb4 (by simp [keyBad, hg, hth, hf]) hac2, hx4, hw4⟩, .cons rfl (.cons rfl (.cons rfl (.cons rfl (.cons rfl (.cons rfl .nil)))))⟩
  · rintro e H' ⟨hacc, hext, hwf⟩
    simp only [s_skip, s_region, s_draw, s_seq, s_cond, s_block, s_exit, s_scope, s_ret, s_nil, s_cons, s_done, s_op, s_fork, s_kops, s_ktree, s_kseq_n, s_kseq_r, s_kseq_e, s_kblock_n, s_kblock_r, s_kblock_e, s_kscope_n, s_kscope_r, s_kscope_e, s_kcond_t, s_kcond_f, s_ex, s_call, s_callv, s_guard, s_kguard_t, s_kguard_f, s_kexec, s_kres, s_kcall, s_kcallv, s_kret, s_put, s_putn, s_get, s_evs, s_evk, s_evnil, s_evcons, s_evC, s_g, s_gb, s_gu, s_kround_n, s_kround_r, s_kround_e, s_kloop_n, s_kloop_r, s_kloop_e, x_mov, x_konst, x_pick, x_nilck, x_add, x_sub, x_lss, x_leq, x_gtr, x_geq, x_eql, x_neq, x_not, x_fa, x_ext, x_mkfn, if_true, if_false, decide_true, decide_false, Bool.not_true, Bool.not_false, Bool.true_beq, Bool.false_beq, beq_true, beq_false, Int.reduceEq, Int.reduceLT, Int.reduceLE, Int.reduceGT, Int.reduceGE, reduceCtorEq, Nat.reduceEqDiff, s_kendr, s_kendn, s_kfin, s_resnil, s_rescons, s_rest, s_resca, s_resV1, s_resV0, s_resV2, s_ffrom, s_fbits, s_kffrom, s_kfbits, x_slen, List.getElem?_cons_zero, List.getElem?_cons_succ, Option.map_some]
    rw [List.drop_length] at hacc
    exact ⟨hext, congrArg (V.int .i64) hacc, rfl⟩
end Go.Proofs.YtbadbkdpnbacnaaDoor.Fw

/- What functions of the program answer: whether a delta may be. No condition but what utf8.Valid answers, which is a hypothesis here. -/
namespace Go.Proofs.YtbadbkdpnbacnaaDoor.Fw
open Go
set_option linter.unusedSimpArgs false
set_option linter.unusedVariables false
variable {vU : ByteArray → Bool}

def oneF (vU : ByteArray → Bool) (ks : List KeyA) (o : OpA) : Int :=
  if !formO o || decide (sizeO o < 1) || decide (sizeO o > 536870912) then 3
  else if attrsMayF vU ks o.ats ≠ 0 then attrsMayF vU ks o.ats else patchMayF vU ks o.chs

set_option maxRecDepth 20000 in
set_option maxHeartbeats 1000000 in
theorem one_calls (hU : ValidIs vU) {s : V} {H : Heap} {ks : List KeyA} {o : OpA} (hT : Tabs H) (hs : Sch H s ks) (ho : o.In H) (hon : o.cells.all V.one = true) :
    SCalls PP 31 [s, .agg o.cells] H fun r H' => H' = H ∧ r = .int .i64 (oneF vU ks o) := by
  refine SCalls.keep (R := fun r => r = .int .i64 (oneF vU ks o)) (SCalls.go c31 (by simp [fn31]) fun hw => ?_)
  obtain ⟨H2, hx2, hw2, ha2, hbx⟩ := x_boxed (Ext.refl H) hw (e := o.cells) hon
  have la := ha2.lda (n := 5) rfl
  have l3 := ha2.ld (j := 3) (v := o.set) rfl 1
  have l4 := ha2.ld (j := 4) (v := o.patch) rfl 1
  have ho2 := ho.ext hx2
  have hT2 := hT.ext hx2
  have hs2 := hs.ext hx2
  simp only [fn31, enterFr, List.length, List.range, List.range.loop, List.zip, List.zipWith, s_skip, s_region, s_draw, s_seq, s_cond, s_block, s_exit, s_scope, s_ret, s_nil, s_cons, s_done, s_op, s_fork, s_kops, s_ktree, s_kseq_n, s_kseq_r, s_kseq_e, s_kblock_n, s_kblock_r, s_kblock_e, s_kscope_n, s_kscope_r, s_kscope_e, s_kcond_t, s_kcond_f, s_ex, s_call, s_callv, s_guard, s_kguard_t, s_kguard_f, s_kexec, s_kres, s_kcall, s_kcallv, s_kret, s_put, s_putn, s_get, s_evs, s_evk, s_evnil, s_evcons, s_evC, s_g, s_gb, s_gu, s_kround_n, s_kround_r, s_kround_e, s_kloop_n, s_kloop_r, s_kloop_e, x_mov, x_konst, x_pick, x_nilck, x_add, x_sub, x_lss, x_leq, x_gtr, x_geq, x_eql, x_neq, x_not, x_fa, x_ext, x_mkfn, if_true, if_false, decide_true, decide_false, Bool.not_true, Bool.not_false, Bool.true_beq, Bool.false_beq, beq_true, beq_false, Int.reduceEq, Int.reduceLT, Int.reduceLE, Int.reduceGT, Int.reduceGE, reduceCtorEq, Nat.reduceEqDiff, s_kendr, s_kendn, s_kfin, s_resnil, s_rescons, s_rest, s_resca, s_resV1, s_resV0, s_resV2, s_ffrom, s_fbits, s_kffrom, s_kfbits, x_slen, List.getElem?_cons_zero, List.getElem?_cons_succ, Option.map_some, hbx, la]
  refine SCalls.mono (form_calls ho2 hon) ?_
  rintro r H3 ⟨rfl, rfl⟩
  cases hf : formO o with
  | false =>
    simp only [s_skip, s_region, s_draw, s_seq, s_cond, s_block, s_exit, s_scope, s_ret, s_nil, s_cons, s_done, s_op, s_fork, s_kops, s_ktree, s_kseq_n, s_kseq_r, s_kseq_e, s_kblock_n, s_kblock_r, s_kblock_e, s_kscope_n, s_kscope_r, s_kscope_e, s_kcond_t, s_kcond_f, s_ex, s_call, s_callv, s_guard, s_kguard_t, s_kguard_f, s_kexec, s_kres, s_kcall, s_kcallv, s_kret, s_put, s_putn, s_get, s_evs, s_evk, s_evnil, s_evcons, s_evC, s_g, s_gb, s_gu, s_kround_n, s_kround_r, s_kround_e, s_kloop_n, s_kloop_r, s_kloop_e, x_mov, x_konst, x_pick, x_nilck, x_add, x_sub, x_lss, x_leq, x_gtr, x_geq, x_eql, x_neq, x_not, x_fa, x_ext, x_mkfn, if_true, if_false, decide_true, decide_false, Bool.not_true, Bool.not_false, Bool.true_beq, Bool.false_beq, beq_true, beq_false, Int.reduceEq, Int.reduceLT, Int.reduceLE, Int.reduceGT, Int.reduceGE, reduceCtorEq, Nat.reduceEqDiff, s_kendr, s_kendn, s_kfin, s_resnil, s_rescons, s_rest, s_resca, s_resV1, s_resV0, s_resV2, s_ffrom, s_fbits, s_kffrom, s_kfbits, x_slen, List.getElem?_cons_zero, List.getElem?_cons_succ, Option.map_some, hf, Bool.false_eq_true]
    exact ⟨hx2, by simp [oneF, hf], rfl⟩
  | true =>
    simp only [s_skip, s_region, s_draw, s_seq, s_cond, s_block, s_exit, s_scope, s_ret, s_nil, s_cons, s_done, s_op, s_fork, s_kops, s_ktree, s_kseq_n, s_kseq_r, s_kseq_e, s_kblock_n, s_kblock_r, s_kblock_e, s_kscope_n, s_kscope_r, s_kscope_e, s_kcond_t, s_kcond_f, s_ex, s_call, s_callv, s_guard, s_kguard_t, s_kguard_f, s_kexec, s_kres, s_kcall, s_kcallv, s_kret, s_put, s_putn, s_get, s_evs, s_evk, s_evnil, s_evcons, s_evC, s_g, s_gb, s_gu, s_kround_n, s_kround_r, s_kround_e, s_kloop_n, s_kloop_r, s_kloop_e, x_mov, x_konst, x_pick, x_nilck, x_add, x_sub, x_lss, x_leq, x_gtr, x_geq, x_eql, x_neq, x_not, x_fa, x_ext, x_mkfn, if_true, if_false, decide_true, decide_false, Bool.not_true, Bool.not_false, Bool.true_beq, Bool.false_beq, beq_true, beq_false, Int.reduceEq, Int.reduceLT, Int.reduceLE, Int.reduceGT, Int.reduceGE, reduceCtorEq, Nat.reduceEqDiff, s_kendr, s_kendn, s_kfin, s_resnil, s_rescons, s_rest, s_resca, s_resV1, s_resV0, s_resV2, s_ffrom, s_fbits, s_kffrom, s_kfbits, x_slen, List.getElem?_cons_zero, List.getElem?_cons_succ, Option.map_some, hf, la, Bool.false_eq_true]
    refine SCalls.mono (size_calls ho2 hon) ?_
    rintro r H4 ⟨rfl, rfl⟩
    by_cases h1 : sizeO o < 1
    · simp only [s_skip, s_region, s_draw, s_seq, s_cond, s_block, s_exit, s_scope, s_ret, s_nil, s_cons, s_done, s_op, s_fork, s_kops, s_ktree, s_kseq_n, s_kseq_r, s_kseq_e, s_kblock_n, s_kblock_r, s_kblock_e, s_kscope_n, s_kscope_r, s_kscope_e, s_kcond_t, s_kcond_f, s_ex, s_call, s_callv, s_guard, s_kguard_t, s_kguard_f, s_kexec, s_kres, s_kcall, s_kcallv, s_kret, s_put, s_putn, s_get, s_evs, s_evk, s_evnil, s_evcons, s_evC, s_g, s_gb, s_gu, s_kround_n, s_kround_r, s_kround_e, s_kloop_n, s_kloop_r, s_kloop_e, x_mov, x_konst, x_pick, x_nilck, x_add, x_sub, x_lss, x_leq, x_gtr, x_geq, x_eql, x_neq, x_not, x_fa, x_ext, x_mkfn, if_true, if_false, decide_true, decide_false, Bool.not_true, Bool.not_false, Bool.true_beq, Bool.false_beq, beq_true, beq_false, Int.reduceEq, Int.reduceLT, Int.reduceLE, Int.reduceGT, Int.reduceGE, reduceCtorEq, Nat.reduceEqDiff, s_kendr, s_kendn, s_kfin, s_resnil, s_rescons, s_rest, s_resca, s_resV1, s_resV0, s_resV2, s_ffrom, s_fbits, s_kffrom, s_kfbits, x_slen, List.getElem?_cons_zero, List.getElem?_cons_succ, Option.map_some, h1, Bool.false_eq_true]
      exact ⟨hx2, by simp [oneF, hf, h1], rfl⟩
    · simp only [s_skip, s_region, s_draw, s_seq, s_cond, s_block, s_exit, s_scope, s_ret, s_nil, s_cons, s_done, s_op, s_fork, s_kops, s_ktree, s_kseq_n, s_kseq_r, s_kseq_e, s_kblock_n, s_kblock_r, s_kblock_e, s_kscope_n, s_kscope_r, s_kscope_e, s_kcond_t, s_kcond_f, s_ex, s_call, s_callv, s_guard, s_kguard_t, s_kguard_f, s_kexec, s_kres, s_kcall, s_kcallv, s_kret, s_put, s_putn, s_get, s_evs, s_evk, s_evnil, s_evcons, s_evC, s_g, s_gb, s_gu, s_kround_n, s_kround_r, s_kround_e, s_kloop_n, s_kloop_r, s_kloop_e, x_mov, x_konst, x_pick, x_nilck, x_add, x_sub, x_lss, x_leq, x_gtr, x_geq, x_eql, x_neq, x_not, x_fa, x_ext, x_mkfn, if_true, if_false, decide_true, decide_false, Bool.not_true, Bool.not_false, Bool.true_beq, Bool.false_beq, beq_true, beq_false, Int.reduceEq, Int.reduceLT, Int.reduceLE, Int.reduceGT, Int.reduceGE, reduceCtorEq, Nat.reduceEqDiff, s_kendr, s_kendn, s_kfin, s_resnil, s_rescons, s_rest, s_resca, s_resV1, s_resV0, s_resV2, s_ffrom, s_fbits, s_kffrom, s_kfbits, x_slen, List.getElem?_cons_zero, List.getElem?_cons_succ, Option.map_some, h1, la, Bool.false_eq_true]
      refine SCalls.mono (size_calls ho2 hon) ?_
      rintro r H5 ⟨rfl, rfl⟩
      by_cases h2 : sizeO o > 536870912
      · simp only [s_skip, s_region, s_draw, s_seq, s_cond, s_block, s_exit, s_scope, s_ret, s_nil, s_cons, s_done, s_op, s_fork, s_kops, s_ktree, s_kseq_n, s_kseq_r, s_kseq_e, s_kblock_n, s_kblock_r, s_kblock_e, s_kscope_n, s_kscope_r, s_kscope_e, s_kcond_t, s_kcond_f, s_ex, s_call, s_callv, s_guard, s_kguard_t, s_kguard_f, s_kexec, s_kres, s_kcall, s_kcallv, s_kret, s_put, s_putn, s_get, s_evs, s_evk, s_evnil, s_evcons, s_evC, s_g, s_gb, s_gu, s_kround_n, s_kround_r, s_kround_e, s_kloop_n, s_kloop_r, s_kloop_e, x_mov, x_konst, x_pick, x_nilck, x_add, x_sub, x_lss, x_leq, x_gtr, x_geq, x_eql, x_neq, x_not, x_fa, x_ext, x_mkfn, if_true, if_false, decide_true, decide_false, Bool.not_true, Bool.not_false, Bool.true_beq, Bool.false_beq, beq_true, beq_false, Int.reduceEq, Int.reduceLT, Int.reduceLE, Int.reduceGT, Int.reduceGE, reduceCtorEq, Nat.reduceEqDiff, s_kendr, s_kendn, s_kfin, s_resnil, s_rescons, s_rest, s_resca, s_resV1, s_resV0, s_resV2, s_ffrom, s_fbits, s_kffrom, s_kfbits, x_slen, List.getElem?_cons_zero, List.getElem?_cons_succ, Option.map_some, h2, Bool.false_eq_true]
        exact ⟨hx2, by simp [oneF, hf, h1, h2], rfl⟩
      · simp only [s_skip, s_region, s_draw, s_seq, s_cond, s_block, s_exit, s_scope, s_ret, s_nil, s_cons, s_done, s_op, s_fork, s_kops, s_ktree, s_kseq_n, s_kseq_r, s_kseq_e, s_kblock_n, s_kblock_r, s_kblock_e, s_kscope_n, s_kscope_r, s_kscope_e, s_kcond_t, s_kcond_f, s_ex, s_call, s_callv, s_guard, s_kguard_t, s_kguard_f, s_kexec, s_kres, s_kcall, s_kcallv, s_kret, s_put, s_putn, s_get, s_evs, s_evk, s_evnil, s_evcons, s_evC, s_g, s_gb, s_gu, s_kround_n, s_kround_r, s_kround_e, s_kloop_n, s_kloop_r, s_kloop_e, x_mov, x_konst, x_pick, x_nilck, x_add, x_sub, x_lss, x_leq, x_gtr, x_geq, x_eql, x_neq, x_not, x_fa, x_ext, x_mkfn, if_true, if_false, decide_true, decide_false, Bool.not_true, Bool.not_false, Bool.true_beq, Bool.false_beq, beq_true, beq_false, Int.reduceEq, Int.reduceLT, Int.reduceLE, Int.reduceGT, Int.reduceGE, reduceCtorEq, Nat.reduceEqDiff, s_kendr, s_kendn, s_kfin, s_resnil, s_rescons, s_rest, s_resca, s_resV1, s_resV0, s_resV2, s_ffrom, s_fbits, s_kffrom, s_kfbits, x_slen, List.getElem?_cons_zero, List.getElem?_cons_succ, Option.map_some, h2, l3, Bool.false_eq_true]
        refine SCalls.mono (attrsMay_calls hU hT2 hs2 ho2.set) ?_
        rintro r H6 ⟨rfl, rfl⟩
        have e1 : oneF vU ks o = if attrsMayF vU ks o.ats ≠ 0 then attrsMayF vU ks o.ats else patchMayF vU ks o.chs := by
          unfold oneF; rw [if_neg (by simp [hf, h1, h2])]
        by_cases he : attrsMayF vU ks o.ats = 0
        · simp only [s_skip, s_region, s_draw, s_seq, s_cond, s_block, s_exit, s_scope, s_ret, s_nil, s_cons, s_done, s_op, s_fork, s_kops, s_ktree, s_kseq_n, s_kseq_r, s_kseq_e, s_kblock_n, s_kblock_r, s_kblock_e, s_kscope_n, s_kscope_r, s_kscope_e, s_kcond_t, s_kcond_f, s_ex, s_call, s_callv, s_guard, s_kguard_t, s_kguard_f, s_kexec, s_kres, s_kcall, s_kcallv, s_kret, s_put, s_putn, s_get, s_evs, s_evk, s_evnil, s_evcons, s_evC, s_g, s_gb, s_gu, s_kround_n, s_kround_r, s_kround_e, s_kloop_n, s_kloop_r, s_kloop_e, x_mov, x_konst, x_pick, x_nilck, x_add, x_sub, x_lss, x_leq, x_gtr, x_geq, x_eql, x_neq, x_not, x_fa, x_ext, x_mkfn, if_true, if_false, decide_true, decide_false, Bool.not_true, Bool.not_false, Bool.true_beq, Bool.false_beq, beq_true, beq_false, Int.reduceEq, Int.reduceLT, Int.reduceLE, Int.reduceGT, Int.reduceGE, reduceCtorEq, Nat.reduceEqDiff, s_kendr, s_kendn, s_kfin, s_resnil, s_rescons, s_rest, s_resca, s_resV1, s_resV0, s_resV2, s_ffrom, s_fbits, s_kffrom, s_kfbits, x_slen, List.getElem?_cons_zero, List.getElem?_cons_succ, Option.map_some, he, l4, Bool.false_eq_true]
          refine SCalls.mono (patchMay_calls hU hT2 hs2 ho2.patch) ?_
          rintro r H7 ⟨rfl, rfl⟩
          simp only [s_skip, s_region, s_draw, s_seq, s_cond, s_block, s_exit, s_scope, s_ret, s_nil, s_cons, s_done, s_op, s_fork, s_kops, s_ktree, s_kseq_n, s_kseq_r, s_kseq_e, s_kblock_n, s_kblock_r, s_kblock_e, s_kscope_n, s_kscope_r, s_kscope_e, s_kcond_t, s_kcond_f, s_ex, s_call, s_callv, s_guard, s_kguard_t, s_kguard_f, s_kexec, s_kres, s_kcall, s_kcallv, s_kret, s_put, s_putn, s_get, s_evs, s_evk, s_evnil, s_evcons, s_evC, s_g, s_gb, s_gu, s_kround_n, s_kround_r, s_kround_e, s_kloop_n, s_kloop_r, s_kloop_e, x_mov, x_konst, x_pick, x_nilck, x_add, x_sub, x_lss, x_leq, x_gtr, x_geq, x_eql, x_neq, x_not, x_fa, x_ext, x_mkfn, if_true, if_false, decide_true, decide_false, Bool.not_true, Bool.not_false, Bool.true_beq, Bool.false_beq, beq_true, beq_false, Int.reduceEq, Int.reduceLT, Int.reduceLE, Int.reduceGT, Int.reduceGE, reduceCtorEq, Nat.reduceEqDiff, s_kendr, s_kendn, s_kfin, s_resnil, s_rescons, s_rest, s_resca, s_resV1, s_resV0, s_resV2, s_ffrom, s_fbits, s_kffrom, s_kfbits, x_slen, List.getElem?_cons_zero, List.getElem?_cons_succ, Option.map_some]
          exact ⟨hx2, by rw [e1, if_neg (by simp [he])], rfl⟩
        · simp only [s_skip, s_region, s_draw, s_seq, s_cond, s_block, s_exit, s_scope, s_ret, s_nil, s_cons, s_done, s_op, s_fork, s_kops, s_ktree, s_kseq_n, s_kseq_r, s_kseq_e, s_kblock_n, s_kblock_r, s_kblock_e, s_kscope_n, s_kscope_r, s_kscope_e, s_kcond_t, s_kcond_f, s_ex, s_call, s_callv, s_guard, s_kguard_t, s_kguard_f, s_kexec, s_kres, s_kcall, s_kcallv, s_kret, s_put, s_putn, s_get, s_evs, s_evk, s_evnil, s_evcons, s_evC, s_g, s_gb, s_gu, s_kround_n, s_kround_r, s_kround_e, s_kloop_n, s_kloop_r, s_kloop_e, x_mov, x_konst, x_pick, x_nilck, x_add, x_sub, x_lss, x_leq, x_gtr, x_geq, x_eql, x_neq, x_not, x_fa, x_ext, x_mkfn, if_true, if_false, decide_true, decide_false, Bool.not_true, Bool.not_false, Bool.true_beq, Bool.false_beq, beq_true, beq_false, Int.reduceEq, Int.reduceLT, Int.reduceLE, Int.reduceGT, Int.reduceGE, reduceCtorEq, Nat.reduceEqDiff, s_kendr, s_kendn, s_kfin, s_resnil, s_rescons, s_rest, s_resca, s_resV1, s_resV0, s_resV2, s_ffrom, s_fbits, s_kffrom, s_kfbits, x_slen, List.getElem?_cons_zero, List.getElem?_cons_succ, Option.map_some, he, Bool.false_eq_true]
          exact ⟨hx2, by rw [e1, if_pos he], rfl⟩

def mayF (vU : ByteArray → Bool) (ks : List KeyA) : Int → List OpA → Option Int
  | found, [] => some found
  | found, o :: os => if oneF vU ks o = 3 then none else mayF vU ks (if oneF vU ks o ≠ 0 then oneF vU ks o else found) os
def opsMayF (vU : ByteArray → Bool) (ks : List KeyA) (os : List OpA) : Int := match mayF vU ks 0 os with
  | none => 3
  | some f => if takesF 0 os > 536870912 then 3 else if makesF 0 os > 536870912 then 3 else f

set_option maxRecDepth 20000 in
set_option maxHeartbeats 1000000 in
theorem opsMay_calls (hU : ValidIs vU) {s x : V} {H : Heap} {ks : List KeyA} {os : List OpA} (hT : Tabs H) (hs : Sch H s ks) (hx : OpsIn H x os) :
    SCalls PP 13 [s, x] H fun r H' => H' = H ∧ r = .int .i64 (opsMayF vU ks os) := by
  refine SCalls.keep (R := fun r => r = .int .i64 (opsMayF vU ks os)) (SCalls.go c13 (by simp [fn13]) fun hw => ?_)
  have hb := hx.len
  simp only [fn13, enterFr, List.length, List.range, List.range.loop, List.zip, List.zipWith, s_skip, s_region, s_draw, s_seq, s_cond, s_block, s_exit, s_scope, s_ret, s_nil, s_cons, s_done, s_op, s_fork, s_kops, s_ktree, s_kseq_n, s_kseq_r, s_kseq_e, s_kblock_n, s_kblock_r, s_kblock_e, s_kscope_n, s_kscope_r, s_kscope_e, s_kcond_t, s_kcond_f, s_ex, s_call, s_callv, s_guard, s_kguard_t, s_kguard_f, s_kexec, s_kres, s_kcall, s_kcallv, s_kret, s_put, s_putn, s_get, s_evs, s_evk, s_evnil, s_evcons, s_evC, s_g, s_gb, s_gu, s_kround_n, s_kround_r, s_kround_e, s_kloop_n, s_kloop_r, s_kloop_e, x_mov, x_konst, x_pick, x_nilck, x_add, x_sub, x_lss, x_leq, x_gtr, x_geq, x_eql, x_neq, x_not, x_fa, x_ext, x_mkfn, if_true, if_false, decide_true, decide_false, Bool.not_true, Bool.not_false, Bool.true_beq, Bool.false_beq, beq_true, beq_false, Int.reduceEq, Int.reduceLT, Int.reduceLE, Int.reduceGT, Int.reduceGE, reduceCtorEq, Nat.reduceEqDiff, s_kendr, s_kendn, s_kfin, s_resnil, s_rescons, s_rest, s_resca, s_resV1, s_resV0, s_resV2, s_ffrom, s_fbits, s_kffrom, s_kfbits, x_slen, List.getElem?_cons_zero, List.getElem?_cons_succ, Option.map_some, hx.sl.len]
  refine wp_range SCalls.scMono (by simp only [List.length_map]; unfold big at hb; omega) (fun f : Int => [(9, x), (5, .int .i64 f), (0, s), (1, x)]) (fun k f H' => mayF vU ks f (os.drop k) = mayF vU ks 0 os ∧ Ext H H' ∧ WF H') 0 ⟨rfl, Ext.refl H, hw⟩
    (.cons rfl (.cons rfl (.cons rfl (.cons rfl (.cons rfl (.cons rfl .nil)))))) (by decide) (fun s => ⟨rfl, rfl, rfl⟩) ?_ ?_
  · rintro k f H' hk ⟨hacc, hext, hwf⟩
    rw [List.length_map] at hk
    have hm := (hx.sl.1 _ (List.mem_map_of_mem (List.getElem_mem hk))).2
    simp only [s_seq, s_region]
    refine wp_elem hx.sl hext hwf (k := k) (e := os[k].cells) (by simp [hk]) rfl rfl rfl rfl (by decide) fun q id o H2 hx2 hw2 ha2 _ => ?_
    have la := ha2.lda (n := 5) rfl
    rw [List.drop_eq_getElem_cons hk] at hacc
    simp only [mayF] at hacc
    simp only [s_skip, s_region, s_draw, s_seq, s_cond, s_block, s_exit, s_scope, s_ret, s_nil, s_cons, s_done, s_op, s_fork, s_kops, s_ktree, s_kseq_n, s_kseq_r, s_kseq_e, s_kblock_n, s_kblock_r, s_kblock_e, s_kscope_n, s_kscope_r, s_kscope_e, s_kcond_t, s_kcond_f, s_ex, s_call, s_callv, s_guard, s_kguard_t, s_kguard_f, s_kexec, s_kres, s_kcall, s_kcallv, s_kret, s_put, s_putn, s_get, s_evs, s_evk, s_evnil, s_evcons, s_evC, s_g, s_gb, s_gu, s_kround_n, s_kround_r, s_kround_e, s_kloop_n, s_kloop_r, s_kloop_e, x_mov, x_konst, x_pick, x_nilck, x_add, x_sub, x_lss, x_leq, x_gtr, x_geq, x_eql, x_neq, x_not, x_fa, x_ext, x_mkfn, if_true, if_false, decide_true, decide_false, Bool.not_true, Bool.not_false, Bool.true_beq, Bool.false_beq, beq_true, beq_false, Int.reduceEq, Int.reduceLT, Int.reduceLE, Int.reduceGT, Int.reduceGE, reduceCtorEq, Nat.reduceEqDiff, s_kendr, s_kendn, s_kfin, s_resnil, s_rescons, s_rest, s_resca, s_resV1, s_resV0, s_resV2, s_ffrom, s_fbits, s_kffrom, s_kfbits, x_slen, List.getElem?_cons_zero, List.getElem?_cons_succ, Option.map_some, la]
    refine SCalls.mono (one_calls hU (hT.ext hx2) (hs.ext hx2) ((hx.ins _ (List.getElem_mem hk)).ext hx2) hm) ?_
    rintro r H3 ⟨rfl, rfl⟩
    by_cases h3 : oneF vU ks os[k] = 3
    · rw [if_pos h3] at hacc
      simp only [s_skip, s_region, s_draw, s_seq, s_cond, s_block, s_exit, s_scope, s_ret, s_nil, s_cons, s_done, s_op, s_fork, s_kops, s_ktree, s_kseq_n, s_kseq_r, s_kseq_e, s_kblock_n, s_kblock_r, s_kblock_e, s_kscope_n, s_kscope_r, s_kscope_e, s_kcond_t, s_kcond_f, s_ex, s_call, s_callv, s_guard, s_kguard_t, s_kguard_f, s_kexec, s_kres, s_kcall, s_kcallv, s_kret, s_put, s_putn, s_get, s_evs, s_evk, s_evnil, s_evcons, s_evC, s_g, s_gb, s_gu, s_kround_n, s_kround_r, s_kround_e, s_kloop_n, s_kloop_r, s_kloop_e, x_mov, x_konst, x_pick, x_nilck, x_add, x_sub, x_lss, x_leq, x_gtr, x_geq, x_eql, x_neq, x_not, x_fa, x_ext, x_mkfn, if_true, if_false, decide_true, decide_false, Bool.not_true, Bool.not_false, Bool.true_beq, Bool.false_beq, beq_true, beq_false, Int.reduceEq, Int.reduceLT, Int.reduceLE, Int.reduceGT, Int.reduceGE, reduceCtorEq, Nat.reduceEqDiff, s_kendr, s_kendn, s_kfin, s_resnil, s_rescons, s_rest, s_resca, s_resV1, s_resV0, s_resV2, s_ffrom, s_fbits, s_kffrom, s_kfbits, x_slen, List.getElem?_cons_zero, List.getElem?_cons_succ, Option.map_some, h3]
      exact ⟨hx2, by simp [opsMayF, ← hacc], rfl⟩
    · rw [if_neg h3] at hacc
      by_cases h0 : oneF vU ks os[k] = 0
      · rw [if_neg (by simp [h0])] at hacc
        simp only [s_skip, s_region, s_draw, s_seq, s_cond, s_block, s_exit, s_scope, s_ret, s_nil, s_cons, s_done, s_op, s_fork, s_kops, s_ktree, s_kseq_n, s_kseq_r, s_kseq_e, s_kblock_n, s_kblock_r, s_kblock_e, s_kscope_n, s_kscope_r, s_kscope_e, s_kcond_t, s_kcond_f, s_ex, s_call, s_callv, s_guard, s_kguard_t, s_kguard_f, s_kexec, s_kres, s_kcall, s_kcallv, s_kret, s_put, s_putn, s_get, s_evs, s_evk, s_evnil, s_evcons, s_evC, s_g, s_gb, s_gu, s_kround_n, s_kround_r, s_kround_e, s_kloop_n, s_kloop_r, s_kloop_e, x_mov, x_konst, x_pick, x_nilck, x_add, x_sub, x_lss, x_leq, x_gtr, x_geq, x_eql, x_neq, x_not, x_fa, x_ext, x_mkfn, if_true, if_false, decide_true, decide_false, Bool.not_true, Bool.not_false, Bool.true_beq, Bool.false_beq, beq_true, beq_false, Int.reduceEq, Int.reduceLT, Int.reduceLE, Int.reduceGT, Int.reduceGE, reduceCtorEq, Nat.reduceEqDiff, s_kendr, s_kendn, s_kfin, s_resnil, s_rescons, s_rest, s_resca, s_resV1, s_resV0, s_resV2, s_ffrom, s_fbits, s_kffrom, s_kfbits, x_slen, List.getElem?_cons_zero, List.getElem?_cons_succ, Option.map_some, h0]
        exact ⟨f, ⟨hacc, hx2, hw2⟩, .cons rfl (.cons rfl (.cons rfl (.cons rfl (.cons rfl (.cons rfl .nil)))))⟩
      · rw [if_pos h0] at hacc
        simp only [s_skip, s_region, s_draw, s_seq, s_cond, s_block, s_exit, s_scope, s_ret, s_nil, s_cons, s_done, s_op, s_fork, s_kops, s_ktree, s_kseq_n, s_kseq_r, s_kseq_e, s_kblock_n, s_kblock_r, s_kblock_e, s_kscope_n, s_kscope_r, s_kscope_e, s_kcond_t, s_kcond_f, s_ex, s_call, s_callv, s_guard, s_kguard_t, s_kguard_f, s_kexec, s_kres, s_kcall, s_kcallv, s_kret, s_put, s_putn, s_get, s_evs, s_evk, s_evnil, s_evcons, s_evC, s_g, s_gb, s_gu, s_kround_n, s_kround_r, s_kround_e, s_kloop_n, s_kloop_r, s_kloop_e, x_mov, x_konst, x_pick, x_nilck, x_add, x_sub, x_lss, x_leq, x_gtr, x_geq, x_eql, x_neq, x_not, x_fa, x_ext, x_mkfn, if_true, if_false, decide_true, decide_false, Bool.not_true, Bool.not_false, Bool.true_beq, Bool.false_beq, beq_true, beq_false, Int.reduceEq, Int.reduceLT, Int.reduceLE, Int.reduceGT, Int.reduceGE, reduceCtorEq, Nat.reduceEqDiff, s_kendr, s_kendn, s_kfin, s_resnil, s_rescons, s_rest, s_resca, s_resV1, s_resV0, s_resV2, s_ffrom, s_fbits, s_kffrom, s_kfbits, x_slen, List.getElem?_cons_zero, List.getElem?_cons_succ, Option.map_some, h3, h0]
        exact ⟨_, ⟨hacc, hx2, hw2⟩, .cons rfl (.cons rfl (.cons rfl (.cons rfl (.cons rfl (.cons rfl .nil)))))⟩
  · rintro f H' ⟨hacc, hext, hwf⟩
    rw [List.length_map, List.drop_length] at hacc
    simp only [mayF] at hacc
    simp only [s_skip, s_region, s_draw, s_seq, s_cond, s_block, s_exit, s_scope, s_ret, s_nil, s_cons, s_done, s_op, s_fork, s_kops, s_ktree, s_kseq_n, s_kseq_r, s_kseq_e, s_kblock_n, s_kblock_r, s_kblock_e, s_kscope_n, s_kscope_r, s_kscope_e, s_kcond_t, s_kcond_f, s_ex, s_call, s_callv, s_guard, s_kguard_t, s_kguard_f, s_kexec, s_kres, s_kcall, s_kcallv, s_kret, s_put, s_putn, s_get, s_evs, s_evk, s_evnil, s_evcons, s_evC, s_g, s_gb, s_gu, s_kround_n, s_kround_r, s_kround_e, s_kloop_n, s_kloop_r, s_kloop_e, x_mov, x_konst, x_pick, x_nilck, x_add, x_sub, x_lss, x_leq, x_gtr, x_geq, x_eql, x_neq, x_not, x_fa, x_ext, x_mkfn, if_true, if_false, decide_true, decide_false, Bool.not_true, Bool.not_false, Bool.true_beq, Bool.false_beq, beq_true, beq_false, Int.reduceEq, Int.reduceLT, Int.reduceLE, Int.reduceGT, Int.reduceGE, reduceCtorEq, Nat.reduceEqDiff, s_kendr, s_kendn, s_kfin, s_resnil, s_rescons, s_rest, s_resca, s_resV1, s_resV0, s_resV2, s_ffrom, s_fbits, s_kffrom, s_kfbits, x_slen, List.getElem?_cons_zero, List.getElem?_cons_succ, Option.map_some]
    refine SCalls.mono (takes_calls (hx.ext hext)) ?_
    rintro r H3 ⟨rfl, rfl⟩
    by_cases h1 : takesF 0 os > 536870912
    · simp only [s_skip, s_region, s_draw, s_seq, s_cond, s_block, s_exit, s_scope, s_ret, s_nil, s_cons, s_done, s_op, s_fork, s_kops, s_ktree, s_kseq_n, s_kseq_r, s_kseq_e, s_kblock_n, s_kblock_r, s_kblock_e, s_kscope_n, s_kscope_r, s_kscope_e, s_kcond_t, s_kcond_f, s_ex, s_call, s_callv, s_guard, s_kguard_t, s_kguard_f, s_kexec, s_kres, s_kcall, s_kcallv, s_kret, s_put, s_putn, s_get, s_evs, s_evk, s_evnil, s_evcons, s_evC, s_g, s_gb, s_gu, s_kround_n, s_kround_r, s_kround_e, s_kloop_n, s_kloop_r, s_kloop_e, x_mov, x_konst, x_pick, x_nilck, x_add, x_sub, x_lss, x_leq, x_gtr, x_geq, x_eql, x_neq, x_not, x_fa, x_ext, x_mkfn, if_true, if_false, decide_true, decide_false, Bool.not_true, Bool.not_false, Bool.true_beq, Bool.false_beq, beq_true, beq_false, Int.reduceEq, Int.reduceLT, Int.reduceLE, Int.reduceGT, Int.reduceGE, reduceCtorEq, Nat.reduceEqDiff, s_kendr, s_kendn, s_kfin, s_resnil, s_rescons, s_rest, s_resca, s_resV1, s_resV0, s_resV2, s_ffrom, s_fbits, s_kffrom, s_kfbits, x_slen, List.getElem?_cons_zero, List.getElem?_cons_succ, Option.map_some, h1]
      exact ⟨hext, by simp [opsMayF, ← hacc, h1], rfl⟩
    · simp only [s_skip, s_region, s_draw, s_seq, s_cond, s_block, s_exit, s_scope, s_ret, s_nil, s_cons, s_done, s_op, s_fork, s_kops, s_ktree, s_kseq_n, s_kseq_r, s_kseq_e, s_kblock_n, s_kblock_r, s_kblock_e, s_kscope_n, s_kscope_r, s_kscope_e, s_kcond_t, s_kcond_f, s_ex, s_call, s_callv, s_guard, s_kguard_t, s_kguard_f, s_kexec, s_kres, s_kcall, s_kcallv, s_kret, s_put, s_putn, s_get, s_evs, s_evk, s_evnil, s_evcons, s_evC, s_g, s_gb, s_gu, s_kround_n, s_kround_r, s_kround_e, s_kloop_n, s_kloop_r, s_kloop_e, x_mov, x_konst, x_pick, x_nilck, x_add, x_sub, x_lss, x_leq, x_gtr, x_geq, x_eql, x_neq, x_not, x_fa, x_ext, x_mkfn, if_true, if_false, decide_true, decide_false, Bool.not_true, Bool.not_false, Bool.true_beq, Bool.false_beq, beq_true, beq_false, Int.reduceEq, Int.reduceLT, Int.reduceLE, Int.reduceGT, Int.reduceGE, reduceCtorEq, Nat.reduceEqDiff, s_kendr, s_kendn, s_kfin, s_resnil, s_rescons, s_rest, s_resca, s_resV1, s_resV0, s_resV2, s_ffrom, s_fbits, s_kffrom, s_kfbits, x_slen, List.getElem?_cons_zero, List.getElem?_cons_succ, Option.map_some, h1, Bool.false_eq_true]
      refine SCalls.mono (makes_calls (hx.ext hext)) ?_
      rintro r H4 ⟨rfl, rfl⟩
      by_cases h2 : makesF 0 os > 536870912
      · simp only [s_skip, s_region, s_draw, s_seq, s_cond, s_block, s_exit, s_scope, s_ret, s_nil, s_cons, s_done, s_op, s_fork, s_kops, s_ktree, s_kseq_n, s_kseq_r, s_kseq_e, s_kblock_n, s_kblock_r, s_kblock_e, s_kscope_n, s_kscope_r, s_kscope_e, s_kcond_t, s_kcond_f, s_ex, s_call, s_callv, s_guard, s_kguard_t, s_kguard_f, s_kexec, s_kres, s_kcall, s_kcallv, s_kret, s_put, s_putn, s_get, s_evs, s_evk, s_evnil, s_evcons, s_evC, s_g, s_gb, s_gu, s_kround_n, s_kround_r, s_kround_e, s_kloop_n, s_kloop_r, s_kloop_e, x_mov, x_konst, x_pick, x_nilck, x_add, x_sub, x_lss, x_leq, x_gtr, x_geq, x_eql, x_neq, x_not, x_fa, x_ext, x_mkfn, if_true, if_false, decide_true, decide_false, Bool.not_true, Bool.not_false, Bool.true_beq, Bool.false_beq, beq_true, beq_false, Int.reduceEq, Int.reduceLT, Int.reduceLE, Int.reduceGT, Int.reduceGE, reduceCtorEq, Nat.reduceEqDiff, s_kendr, s_kendn, s_kfin, s_resnil, s_rescons, s_rest, s_resca, s_resV1, s_resV0, s_resV2, s_ffrom, s_fbits, s_kffrom, s_kfbits, x_slen, List.getElem?_cons_zero, List.getElem?_cons_succ, Option.map_some, h2, Bool.false_eq_true]
        exact ⟨hext, by simp [opsMayF, ← hacc, h1, h2], rfl⟩
      · simp only [s_skip, s_region, s_draw, s_seq, s_cond, s_block, s_exit, s_scope, s_ret, s_nil, s_cons, s_done, s_op, s_fork, s_kops, s_ktree, s_kseq_n, s_kseq_r, s_kseq_e, s_kblock_n, s_kblock_r, s_kblock_e, s_kscope_n, s_kscope_r, s_kscope_e, s_kcond_t, s_kcond_f, s_ex, s_call, s_callv, s_guard, s_kguard_t, s_kguard_f, s_kexec, s_kres, s_kcall, s_kcallv, s_kret, s_put, s_putn, s_get, s_evs, s_evk, s_evnil, s_evcons, s_evC, s_g, s_gb, s_gu, s_kround_n, s_kround_r, s_kround_e, s_kloop_n, s_kloop_r, s_kloop_e, x_mov, x_konst, x_pick, x_nilck, x_add, x_sub, x_lss, x_leq, x_gtr, x_geq, x_eql, x_neq, x_not, x_fa, x_ext, x_mkfn, if_true, if_false, decide_true, decide_false, Bool.not_true, Bool.not_false, Bool.true_beq, Bool.false_beq, beq_true, beq_false, Int.reduceEq, Int.reduceLT, Int.reduceLE, Int.reduceGT, Int.reduceGE, reduceCtorEq, Nat.reduceEqDiff, s_kendr, s_kendn, s_kfin, s_resnil, s_rescons, s_rest, s_resca, s_resV1, s_resV0, s_resV2, s_ffrom, s_fbits, s_kffrom, s_kfbits, x_slen, List.getElem?_cons_zero, List.getElem?_cons_succ, Option.map_some, h2, Bool.false_eq_true]
        exact ⟨hext, by simp [opsMayF, ← hacc, h1, h2], rfl⟩

/-- ops.Fits, given what ops.InPlace answers. -/
def fitsF (vU : ByteArray → Bool) (ks : List KeyA) (pl : Bool) (os : List OpA) (n most : Int) : Int :=
  if opsMayF vU ks os ≠ 0 then opsMayF vU ks os
  else if n < 1 ∨ n > most ∨ takesF 0 os > n then 5
  else if finalF 0 os n = false then 6
  else if pl = false then 7
  else if IntKind.i64.wrap (makesF 0 os - takesF 0 os) > IntKind.i64.wrap (most - n) then 8
  else 0
set_option maxRecDepth 20000 in
set_option maxHeartbeats 1000000 in
theorem fits_calls (hU : ValidIs vU) {s x : V} {H : Heap} {ks : List KeyA} {os : List OpA} (hT : Tabs H) (hs : Sch H s ks) (hx : OpsIn H x os) {pl : Bool} (hpl : SCalls PP 14 [s, x] H fun r H' => H' = H ∧ r = .bool pl) (n most : Int) :
    SCalls PP 10 [s, x, .int .i64 n, .int .i64 most] H fun r H' => H' = H ∧ r = .int .i64 (fitsF vU ks pl os n most) := by
  refine SCalls.go c10 (by simp [fn10]) fun hw => ?_
  simp only [fn10, enterFr, List.length, List.range, List.range.loop, List.zip, List.zipWith, s_skip, s_region, s_draw, s_seq, s_cond, s_block, s_exit, s_scope, s_ret, s_nil, s_cons, s_done, s_op, s_fork, s_kops, s_ktree, s_kseq_n, s_kseq_r, s_kseq_e, s_kblock_n, s_kblock_r, s_kblock_e, s_kscope_n, s_kscope_r, s_kscope_e, s_kcond_t, s_kcond_f, s_ex, s_call, s_callv, s_guard, s_kguard_t, s_kguard_f, s_kexec, s_kres, s_kcall, s_kcallv, s_kret, s_put, s_putn, s_get, s_evs, s_evk, s_evnil, s_evcons, s_evC, s_g, s_gb, s_gu, s_kround_n, s_kround_r, s_kround_e, s_kloop_n, s_kloop_r, s_kloop_e, x_mov, x_konst, x_pick, x_nilck, x_add, x_sub, x_lss, x_leq, x_gtr, x_geq, x_eql, x_neq, x_not, x_fa, x_ext, x_mkfn, if_true, if_false, decide_true, decide_false, Bool.not_true, Bool.not_false, Bool.true_beq, Bool.false_beq, beq_true, beq_false, Int.reduceEq, Int.reduceLT, Int.reduceLE, Int.reduceGT, Int.reduceGE, reduceCtorEq, Nat.reduceEqDiff, s_kendr, s_kendn, s_kfin, s_resnil, s_rescons, s_rest, s_resca, s_resV1, s_resV0, s_resV2, s_ffrom, s_fbits, s_kffrom, s_kfbits, x_slen, List.getElem?_cons_zero, List.getElem?_cons_succ, Option.map_some]
  refine SCalls.mono (opsMay_calls hU hT hs hx) ?_
  rintro r H1 ⟨rfl, rfl⟩
  by_cases h0 : opsMayF vU ks os = 0
  · simp only [s_skip, s_region, s_draw, s_seq, s_cond, s_block, s_exit, s_scope, s_ret, s_nil, s_cons, s_done, s_op, s_fork, s_kops, s_ktree, s_kseq_n, s_kseq_r, s_kseq_e, s_kblock_n, s_kblock_r, s_kblock_e, s_kscope_n, s_kscope_r, s_kscope_e, s_kcond_t, s_kcond_f, s_ex, s_call, s_callv, s_guard, s_kguard_t, s_kguard_f, s_kexec, s_kres, s_kcall, s_kcallv, s_kret, s_put, s_putn, s_get, s_evs, s_evk, s_evnil, s_evcons, s_evC, s_g, s_gb, s_gu, s_kround_n, s_kround_r, s_kround_e, s_kloop_n, s_kloop_r, s_kloop_e, x_mov, x_konst, x_pick, x_nilck, x_add, x_sub, x_lss, x_leq, x_gtr, x_geq, x_eql, x_neq, x_not, x_fa, x_ext, x_mkfn, if_true, if_false, decide_true, decide_false, Bool.not_true, Bool.not_false, Bool.true_beq, Bool.false_beq, beq_true, beq_false, Int.reduceEq, Int.reduceLT, Int.reduceLE, Int.reduceGT, Int.reduceGE, reduceCtorEq, Nat.reduceEqDiff, s_kendr, s_kendn, s_kfin, s_resnil, s_rescons, s_rest, s_resca, s_resV1, s_resV0, s_resV2, s_ffrom, s_fbits, s_kffrom, s_kfbits, x_slen, List.getElem?_cons_zero, List.getElem?_cons_succ, Option.map_some, h0, Bool.false_eq_true]
    by_cases h1 : n < 1
    · simp only [s_skip, s_region, s_draw, s_seq, s_cond, s_block, s_exit, s_scope, s_ret, s_nil, s_cons, s_done, s_op, s_fork, s_kops, s_ktree, s_kseq_n, s_kseq_r, s_kseq_e, s_kblock_n, s_kblock_r, s_kblock_e, s_kscope_n, s_kscope_r, s_kscope_e, s_kcond_t, s_kcond_f, s_ex, s_call, s_callv, s_guard, s_kguard_t, s_kguard_f, s_kexec, s_kres, s_kcall, s_kcallv, s_kret, s_put, s_putn, s_get, s_evs, s_evk, s_evnil, s_evcons, s_evC, s_g, s_gb, s_gu, s_kround_n, s_kround_r, s_kround_e, s_kloop_n, s_kloop_r, s_kloop_e, x_mov, x_konst, x_pick, x_nilck, x_add, x_sub, x_lss, x_leq, x_gtr, x_geq, x_eql, x_neq, x_not, x_fa, x_ext, x_mkfn, if_true, if_false, decide_true, decide_false, Bool.not_true, Bool.not_false, Bool.true_beq, Bool.false_beq, beq_true, beq_false, Int.reduceEq, Int.reduceLT, Int.reduceLE, Int.reduceGT, Int.reduceGE, reduceCtorEq, Nat.reduceEqDiff, s_kendr, s_kendn, s_kfin, s_resnil, s_rescons, s_rest, s_resca, s_resV1, s_resV0, s_resV2, s_ffrom, s_fbits, s_kffrom, s_kfbits, x_slen, List.getElem?_cons_zero, List.getElem?_cons_succ, Option.map_some, h1, Bool.false_eq_true]
      exact ⟨by trivial, by simp [fitsF, h0, h1]⟩
    by_cases h2 : n > most
    · simp only [s_skip, s_region, s_draw, s_seq, s_cond, s_block, s_exit, s_scope, s_ret, s_nil, s_cons, s_done, s_op, s_fork, s_kops, s_ktree, s_kseq_n, s_kseq_r, s_kseq_e, s_kblock_n, s_kblock_r, s_kblock_e, s_kscope_n, s_kscope_r, s_kscope_e, s_kcond_t, s_kcond_f, s_ex, s_call, s_callv, s_guard, s_kguard_t, s_kguard_f, s_kexec, s_kres, s_kcall, s_kcallv, s_kret, s_put, s_putn, s_get, s_evs, s_evk, s_evnil, s_evcons, s_evC, s_g, s_gb, s_gu, s_kround_n, s_kround_r, s_kround_e, s_kloop_n, s_kloop_r, s_kloop_e, x_mov, x_konst, x_pick, x_nilck, x_add, x_sub, x_lss, x_leq, x_gtr, x_geq, x_eql, x_neq, x_not, x_fa, x_ext, x_mkfn, if_true, if_false, decide_true, decide_false, Bool.not_true, Bool.not_false, Bool.true_beq, Bool.false_beq, beq_true, beq_false, Int.reduceEq, Int.reduceLT, Int.reduceLE, Int.reduceGT, Int.reduceGE, reduceCtorEq, Nat.reduceEqDiff, s_kendr, s_kendn, s_kfin, s_resnil, s_rescons, s_rest, s_resca, s_resV1, s_resV0, s_resV2, s_ffrom, s_fbits, s_kffrom, s_kfbits, x_slen, List.getElem?_cons_zero, List.getElem?_cons_succ, Option.map_some, h1, h2, Bool.false_eq_true]
      exact ⟨by trivial, by simp [fitsF, h0, h1, h2]⟩
    simp only [s_skip, s_region, s_draw, s_seq, s_cond, s_block, s_exit, s_scope, s_ret, s_nil, s_cons, s_done, s_op, s_fork, s_kops, s_ktree, s_kseq_n, s_kseq_r, s_kseq_e, s_kblock_n, s_kblock_r, s_kblock_e, s_kscope_n, s_kscope_r, s_kscope_e, s_kcond_t, s_kcond_f, s_ex, s_call, s_callv, s_guard, s_kguard_t, s_kguard_f, s_kexec, s_kres, s_kcall, s_kcallv, s_kret, s_put, s_putn, s_get, s_evs, s_evk, s_evnil, s_evcons, s_evC, s_g, s_gb, s_gu, s_kround_n, s_kround_r, s_kround_e, s_kloop_n, s_kloop_r, s_kloop_e, x_mov, x_konst, x_pick, x_nilck, x_add, x_sub, x_lss, x_leq, x_gtr, x_geq, x_eql, x_neq, x_not, x_fa, x_ext, x_mkfn, if_true, if_false, decide_true, decide_false, Bool.not_true, Bool.not_false, Bool.true_beq, Bool.false_beq, beq_true, beq_false, Int.reduceEq, Int.reduceLT, Int.reduceLE, Int.reduceGT, Int.reduceGE, reduceCtorEq, Nat.reduceEqDiff, s_kendr, s_kendn, s_kfin, s_resnil, s_rescons, s_rest, s_resca, s_resV1, s_resV0, s_resV2, s_ffrom, s_fbits, s_kffrom, s_kfbits, x_slen, List.getElem?_cons_zero, List.getElem?_cons_succ, Option.map_some, h1, h2, Bool.false_eq_true]
    refine SCalls.mono (takes_calls hx) ?_
    rintro r H2 ⟨rfl, rfl⟩
    by_cases h3 : takesF 0 os > n
    · simp only [s_skip, s_region, s_draw, s_seq, s_cond, s_block, s_exit, s_scope, s_ret, s_nil, s_cons, s_done, s_op, s_fork, s_kops, s_ktree, s_kseq_n, s_kseq_r, s_kseq_e, s_kblock_n, s_kblock_r, s_kblock_e, s_kscope_n, s_kscope_r, s_kscope_e, s_kcond_t, s_kcond_f, s_ex, s_call, s_callv, s_guard, s_kguard_t, s_kguard_f, s_kexec, s_kres, s_kcall, s_kcallv, s_kret, s_put, s_putn, s_get, s_evs, s_evk, s_evnil, s_evcons, s_evC, s_g, s_gb, s_gu, s_kround_n, s_kround_r, s_kround_e, s_kloop_n, s_kloop_r, s_kloop_e, x_mov, x_konst, x_pick, x_nilck, x_add, x_sub, x_lss, x_leq, x_gtr, x_geq, x_eql, x_neq, x_not, x_fa, x_ext, x_mkfn, if_true, if_false, decide_true, decide_false, Bool.not_true, Bool.not_false, Bool.true_beq, Bool.false_beq, beq_true, beq_false, Int.reduceEq, Int.reduceLT, Int.reduceLE, Int.reduceGT, Int.reduceGE, reduceCtorEq, Nat.reduceEqDiff, s_kendr, s_kendn, s_kfin, s_resnil, s_rescons, s_rest, s_resca, s_resV1, s_resV0, s_resV2, s_ffrom, s_fbits, s_kffrom, s_kfbits, x_slen, List.getElem?_cons_zero, List.getElem?_cons_succ, Option.map_some, h3, Bool.false_eq_true]
      exact ⟨by trivial, by simp [fitsF, h0, h1, h2, h3]⟩
    simp only [s_skip, s_region, s_draw, s_seq, s_cond, s_block, s_exit, s_scope, s_ret, s_nil, s_cons, s_done, s_op, s_fork, s_kops, s_ktree, s_kseq_n, s_kseq_r, s_kseq_e, s_kblock_n, s_kblock_r, s_kblock_e, s_kscope_n, s_kscope_r, s_kscope_e, s_kcond_t, s_kcond_f, s_ex, s_call, s_callv, s_guard, s_kguard_t, s_kguard_f, s_kexec, s_kres, s_kcall, s_kcallv, s_kret, s_put, s_putn, s_get, s_evs, s_evk, s_evnil, s_evcons, s_evC, s_g, s_gb, s_gu, s_kround_n, s_kround_r, s_kround_e, s_kloop_n, s_kloop_r, s_kloop_e, x_mov, x_konst, x_pick, x_nilck, x_add, x_sub, x_lss, x_leq, x_gtr, x_geq, x_eql, x_neq, x_not, x_fa, x_ext, x_mkfn, if_true, if_false, decide_true, decide_false, Bool.not_true, Bool.not_false, Bool.true_beq, Bool.false_beq, beq_true, beq_false, Int.reduceEq, Int.reduceLT, Int.reduceLE, Int.reduceGT, Int.reduceGE, reduceCtorEq, Nat.reduceEqDiff, s_kendr, s_kendn, s_kfin, s_resnil, s_rescons, s_rest, s_resca, s_resV1, s_resV0, s_resV2, s_ffrom, s_fbits, s_kffrom, s_kfbits, x_slen, List.getElem?_cons_zero, List.getElem?_cons_succ, Option.map_some, h3, Bool.false_eq_true]
    refine SCalls.mono (final_calls hx n) ?_
    rintro r H3 ⟨rfl, rfl⟩
    have hc : ¬ (n < 1 ∨ n > most ∨ takesF 0 os > n) := by omega
    cases h4 : finalF 0 os n with
    | false =>
      simp only [s_skip, s_region, s_draw, s_seq, s_cond, s_block, s_exit, s_scope, s_ret, s_nil, s_cons, s_done, s_op, s_fork, s_kops, s_ktree, s_kseq_n, s_kseq_r, s_kseq_e, s_kblock_n, s_kblock_r, s_kblock_e, s_kscope_n, s_kscope_r, s_kscope_e, s_kcond_t, s_kcond_f, s_ex, s_call, s_callv, s_guard, s_kguard_t, s_kguard_f, s_kexec, s_kres, s_kcall, s_kcallv, s_kret, s_put, s_putn, s_get, s_evs, s_evk, s_evnil, s_evcons, s_evC, s_g, s_gb, s_gu, s_kround_n, s_kround_r, s_kround_e, s_kloop_n, s_kloop_r, s_kloop_e, x_mov, x_konst, x_pick, x_nilck, x_add, x_sub, x_lss, x_leq, x_gtr, x_geq, x_eql, x_neq, x_not, x_fa, x_ext, x_mkfn, if_true, if_false, decide_true, decide_false, Bool.not_true, Bool.not_false, Bool.true_beq, Bool.false_beq, beq_true, beq_false, Int.reduceEq, Int.reduceLT, Int.reduceLE, Int.reduceGT, Int.reduceGE, reduceCtorEq, Nat.reduceEqDiff, s_kendr, s_kendn, s_kfin, s_resnil, s_rescons, s_rest, s_resca, s_resV1, s_resV0, s_resV2, s_ffrom, s_fbits, s_kffrom, s_kfbits, x_slen, List.getElem?_cons_zero, List.getElem?_cons_succ, Option.map_some, h4, Bool.false_eq_true]
      exact ⟨by trivial, by unfold fitsF; rw [if_neg (by simp [h0]), if_neg hc, if_pos h4]⟩
    | true =>
      simp only [s_skip, s_region, s_draw, s_seq, s_cond, s_block, s_exit, s_scope, s_ret, s_nil, s_cons, s_done, s_op, s_fork, s_kops, s_ktree, s_kseq_n, s_kseq_r, s_kseq_e, s_kblock_n, s_kblock_r, s_kblock_e, s_kscope_n, s_kscope_r, s_kscope_e, s_kcond_t, s_kcond_f, s_ex, s_call, s_callv, s_guard, s_kguard_t, s_kguard_f, s_kexec, s_kres, s_kcall, s_kcallv, s_kret, s_put, s_putn, s_get, s_evs, s_evk, s_evnil, s_evcons, s_evC, s_g, s_gb, s_gu, s_kround_n, s_kround_r, s_kround_e, s_kloop_n, s_kloop_r, s_kloop_e, x_mov, x_konst, x_pick, x_nilck, x_add, x_sub, x_lss, x_leq, x_gtr, x_geq, x_eql, x_neq, x_not, x_fa, x_ext, x_mkfn, if_true, if_false, decide_true, decide_false, Bool.not_true, Bool.not_false, Bool.true_beq, Bool.false_beq, beq_true, beq_false, Int.reduceEq, Int.reduceLT, Int.reduceLE, Int.reduceGT, Int.reduceGE, reduceCtorEq, Nat.reduceEqDiff, s_kendr, s_kendn, s_kfin, s_resnil, s_rescons, s_rest, s_resca, s_resV1, s_resV0, s_resV2, s_ffrom, s_fbits, s_kffrom, s_kfbits, x_slen, List.getElem?_cons_zero, List.getElem?_cons_succ, Option.map_some, h4, Bool.false_eq_true]
      refine SCalls.mono hpl ?_
      rintro r H4 ⟨rfl, rfl⟩
      have e4 : ¬ finalF 0 os n = false := by rw [h4]; simp
      cases pl with
      | false =>
        simp only [s_skip, s_region, s_draw, s_seq, s_cond, s_block, s_exit, s_scope, s_ret, s_nil, s_cons, s_done, s_op, s_fork, s_kops, s_ktree, s_kseq_n, s_kseq_r, s_kseq_e, s_kblock_n, s_kblock_r, s_kblock_e, s_kscope_n, s_kscope_r, s_kscope_e, s_kcond_t, s_kcond_f, s_ex, s_call, s_callv, s_guard, s_kguard_t, s_kguard_f, s_kexec, s_kres, s_kcall, s_kcallv, s_kret, s_put, s_putn, s_get, s_evs, s_evk, s_evnil, s_evcons, s_evC, s_g, s_gb, s_gu, s_kround_n, s_kround_r, s_kround_e, s_kloop_n, s_kloop_r, s_kloop_e, x_mov, x_konst, x_pick, x_nilck, x_add, x_sub, x_lss, x_leq, x_gtr, x_geq, x_eql, x_neq, x_not, x_fa, x_ext, x_mkfn, if_true, if_false, decide_true, decide_false, Bool.not_true, Bool.not_false, Bool.true_beq, Bool.false_beq, beq_true, beq_false, Int.reduceEq, Int.reduceLT, Int.reduceLE, Int.reduceGT, Int.reduceGE, reduceCtorEq, Nat.reduceEqDiff, s_kendr, s_kendn, s_kfin, s_resnil, s_rescons, s_rest, s_resca, s_resV1, s_resV0, s_resV2, s_ffrom, s_fbits, s_kffrom, s_kfbits, x_slen, List.getElem?_cons_zero, List.getElem?_cons_succ, Option.map_some, Bool.false_eq_true]
        exact ⟨by trivial, by unfold fitsF; rw [if_neg (by simp [h0]), if_neg hc, if_neg e4, if_pos rfl]⟩
      | true =>
        simp only [s_skip, s_region, s_draw, s_seq, s_cond, s_block, s_exit, s_scope, s_ret, s_nil, s_cons, s_done, s_op, s_fork, s_kops, s_ktree, s_kseq_n, s_kseq_r, s_kseq_e, s_kblock_n, s_kblock_r, s_kblock_e, s_kscope_n, s_kscope_r, s_kscope_e, s_kcond_t, s_kcond_f, s_ex, s_call, s_callv, s_guard, s_kguard_t, s_kguard_f, s_kexec, s_kres, s_kcall, s_kcallv, s_kret, s_put, s_putn, s_get, s_evs, s_evk, s_evnil, s_evcons, s_evC, s_g, s_gb, s_gu, s_kround_n, s_kround_r, s_kround_e, s_kloop_n, s_kloop_r, s_kloop_e, x_mov, x_konst, x_pick, x_nilck, x_add, x_sub, x_lss, x_leq, x_gtr, x_geq, x_eql, x_neq, x_not, x_fa, x_ext, x_mkfn, if_true, if_false, decide_true, decide_false, Bool.not_true, Bool.not_false, Bool.true_beq, Bool.false_beq, beq_true, beq_false, Int.reduceEq, Int.reduceLT, Int.reduceLE, Int.reduceGT, Int.reduceGE, reduceCtorEq, Nat.reduceEqDiff, s_kendr, s_kendn, s_kfin, s_resnil, s_rescons, s_rest, s_resca, s_resV1, s_resV0, s_resV2, s_ffrom, s_fbits, s_kffrom, s_kfbits, x_slen, List.getElem?_cons_zero, List.getElem?_cons_succ, Option.map_some, Bool.false_eq_true]
        refine SCalls.mono (makes_calls hx) ?_
        rintro r H5 ⟨rfl, rfl⟩
        simp only [s_skip, s_region, s_draw, s_seq, s_cond, s_block, s_exit, s_scope, s_ret, s_nil, s_cons, s_done, s_op, s_fork, s_kops, s_ktree, s_kseq_n, s_kseq_r, s_kseq_e, s_kblock_n, s_kblock_r, s_kblock_e, s_kscope_n, s_kscope_r, s_kscope_e, s_kcond_t, s_kcond_f, s_ex, s_call, s_callv, s_guard, s_kguard_t, s_kguard_f, s_kexec, s_kres, s_kcall, s_kcallv, s_kret, s_put, s_putn, s_get, s_evs, s_evk, s_evnil, s_evcons, s_evC, s_g, s_gb, s_gu, s_kround_n, s_kround_r, s_kround_e, s_kloop_n, s_kloop_r, s_kloop_e, x_mov, x_konst, x_pick, x_nilck, x_add, x_sub, x_lss, x_leq, x_gtr, x_geq, x_eql, x_neq, x_not, x_fa, x_ext, x_mkfn, if_true, if_false, decide_true, decide_false, Bool.not_true, Bool.not_false, Bool.true_beq, Bool.false_beq, beq_true, beq_false, Int.reduceEq, Int.reduceLT, Int.reduceLE, Int.reduceGT, Int.reduceGE, reduceCtorEq, Nat.reduceEqDiff, s_kendr, s_kendn, s_kfin, s_resnil, s_rescons, s_rest, s_resca, s_resV1, s_resV0, s_resV2, s_ffrom, s_fbits, s_kffrom, s_kfbits, x_slen, List.getElem?_cons_zero, List.getElem?_cons_succ, Option.map_some]
        refine SCalls.mono (takes_calls hx) ?_
        rintro r H6 ⟨rfl, rfl⟩
        by_cases h5 : IntKind.i64.wrap (makesF 0 os - takesF 0 os) > IntKind.i64.wrap (most - n)
        · simp only [s_skip, s_region, s_draw, s_seq, s_cond, s_block, s_exit, s_scope, s_ret, s_nil, s_cons, s_done, s_op, s_fork, s_kops, s_ktree, s_kseq_n, s_kseq_r, s_kseq_e, s_kblock_n, s_kblock_r, s_kblock_e, s_kscope_n, s_kscope_r, s_kscope_e, s_kcond_t, s_kcond_f, s_ex, s_call, s_callv, s_guard, s_kguard_t, s_kguard_f, s_kexec, s_kres, s_kcall, s_kcallv, s_kret, s_put, s_putn, s_get, s_evs, s_evk, s_evnil, s_evcons, s_evC, s_g, s_gb, s_gu, s_kround_n, s_kround_r, s_kround_e, s_kloop_n, s_kloop_r, s_kloop_e, x_mov, x_konst, x_pick, x_nilck, x_add, x_sub, x_lss, x_leq, x_gtr, x_geq, x_eql, x_neq, x_not, x_fa, x_ext, x_mkfn, if_true, if_false, decide_true, decide_false, Bool.not_true, Bool.not_false, Bool.true_beq, Bool.false_beq, beq_true, beq_false, Int.reduceEq, Int.reduceLT, Int.reduceLE, Int.reduceGT, Int.reduceGE, reduceCtorEq, Nat.reduceEqDiff, s_kendr, s_kendn, s_kfin, s_resnil, s_rescons, s_rest, s_resca, s_resV1, s_resV0, s_resV2, s_ffrom, s_fbits, s_kffrom, s_kfbits, x_slen, List.getElem?_cons_zero, List.getElem?_cons_succ, Option.map_some, h5, Bool.false_eq_true]
          exact ⟨by trivial, by unfold fitsF; rw [if_neg (by simp [h0]), if_neg hc, if_neg e4, if_neg (by simp), if_pos h5]⟩
        · simp only [s_skip, s_region, s_draw, s_seq, s_cond, s_block, s_exit, s_scope, s_ret, s_nil, s_cons, s_done, s_op, s_fork, s_kops, s_ktree, s_kseq_n, s_kseq_r, s_kseq_e, s_kblock_n, s_kblock_r, s_kblock_e, s_kscope_n, s_kscope_r, s_kscope_e, s_kcond_t, s_kcond_f, s_ex, s_call, s_callv, s_guard, s_kguard_t, s_kguard_f, s_kexec, s_kres, s_kcall, s_kcallv, s_kret, s_put, s_putn, s_get, s_evs, s_evk, s_evnil, s_evcons, s_evC, s_g, s_gb, s_gu, s_kround_n, s_kround_r, s_kround_e, s_kloop_n, s_kloop_r, s_kloop_e, x_mov, x_konst, x_pick, x_nilck, x_add, x_sub, x_lss, x_leq, x_gtr, x_geq, x_eql, x_neq, x_not, x_fa, x_ext, x_mkfn, if_true, if_false, decide_true, decide_false, Bool.not_true, Bool.not_false, Bool.true_beq, Bool.false_beq, beq_true, beq_false, Int.reduceEq, Int.reduceLT, Int.reduceLE, Int.reduceGT, Int.reduceGE, reduceCtorEq, Nat.reduceEqDiff, s_kendr, s_kendn, s_kfin, s_resnil, s_rescons, s_rest, s_resca, s_resV1, s_resV0, s_resV2, s_ffrom, s_fbits, s_kffrom, s_kfbits, x_slen, List.getElem?_cons_zero, List.getElem?_cons_succ, Option.map_some, h5, Bool.false_eq_true]
          exact ⟨by trivial, by unfold fitsF; rw [if_neg (by simp [h0]), if_neg hc, if_neg e4, if_neg (by simp), if_neg h5]⟩
  · simp only [s_skip, s_region, s_draw, s_seq, s_cond, s_block, s_exit, s_scope, s_ret, s_nil, s_cons, s_done, s_op, s_fork, s_kops, s_ktree, s_kseq_n, s_kseq_r, s_kseq_e, s_kblock_n, s_kblock_r, s_kblock_e, s_kscope_n, s_kscope_r, s_kscope_e, s_kcond_t, s_kcond_f, s_ex, s_call, s_callv, s_guard, s_kguard_t, s_kguard_f, s_kexec, s_kres, s_kcall, s_kcallv, s_kret, s_put, s_putn, s_get, s_evs, s_evk, s_evnil, s_evcons, s_evC, s_g, s_gb, s_gu, s_kround_n, s_kround_r, s_kround_e, s_kloop_n, s_kloop_r, s_kloop_e, x_mov, x_konst, x_pick, x_nilck, x_add, x_sub, x_lss, x_leq, x_gtr, x_geq, x_eql, x_neq, x_not, x_fa, x_ext, x_mkfn, if_true, if_false, decide_true, decide_false, Bool.not_true, Bool.not_false, Bool.true_beq, Bool.false_beq, beq_true, beq_false, Int.reduceEq, Int.reduceLT, Int.reduceLE, Int.reduceGT, Int.reduceGE, reduceCtorEq, Nat.reduceEqDiff, s_kendr, s_kendn, s_kfin, s_resnil, s_rescons, s_rest, s_resca, s_resV1, s_resV0, s_resV2, s_ffrom, s_fbits, s_kffrom, s_kfbits, x_slen, List.getElem?_cons_zero, List.getElem?_cons_succ, Option.map_some, h0, Bool.false_eq_true]
    exact ⟨by trivial, by simp [fitsF, h0]⟩
end Go.Proofs.YtbadbkdpnbacnaaDoor.Fw

/- What functions of the program answer: parts of attributes, newlines. No condition. -/
namespace Go.Proofs.YtbadbkdpnbacnaaDoor.Fw
open Go
set_option linter.unusedSimpArgs false
set_option linter.unusedVariables false

/-! ### Newlines -/
def nlF : Int → List Int → Int
  | n, [] => n
  | n, r :: rs => nlF (if r = 10 then n + 1 else n) rs
theorem newlines_calls {x : V} {H : Heap} {rs : List Int} (hx : SL H x 1 (rs.map fun r => [V.int .i32 r])) (hl : rs.length ≤ big) : SCalls PP 33 [x] H fun r H' => H' = H ∧ r = .int .i64 (nlF 0 rs) := by
  refine SCalls.keep (R := fun r => r = .int .i64 (nlF 0 rs)) (SCalls.go c33 (by simp [fn33]) fun hw => ?_)
  unfold big at hl
  simp only [fn33, enterFr, List.length, List.range, List.range.loop, List.zip, List.zipWith, s_skip, s_region, s_draw, s_seq, s_cond, s_block, s_exit, s_scope, s_ret, s_nil, s_cons, s_done, s_op, s_fork, s_kops, s_ktree, s_kseq_n, s_kseq_r, s_kseq_e, s_kblock_n, s_kblock_r, s_kblock_e, s_kscope_n, s_kscope_r, s_kscope_e, s_kcond_t, s_kcond_f, s_ex, s_call, s_callv, s_guard, s_kguard_t, s_kguard_f, s_kexec, s_kres, s_kcall, s_kcallv, s_kret, s_put, s_putn, s_get, s_evs, s_evk, s_evnil, s_evcons, s_evC, s_g, s_gb, s_gu, s_kround_n, s_kround_r, s_kround_e, s_kloop_n, s_kloop_r, s_kloop_e, x_mov, x_konst, x_pick, x_nilck, x_add, x_sub, x_lss, x_leq, x_gtr, x_geq, x_eql, x_neq, x_not, x_fa, x_ext, x_mkfn, if_true, if_false, decide_true, decide_false, Bool.not_true, Bool.not_false, Bool.true_beq, Bool.false_beq, beq_true, beq_false, Int.reduceEq, Int.reduceLT, Int.reduceLE, Int.reduceGT, Int.reduceGE, reduceCtorEq, Nat.reduceEqDiff, s_kendr, s_kendn, s_kfin, s_resnil, s_rescons, s_rest, s_resca, s_resV1, s_resV0, s_resV2, s_ffrom, s_fbits, s_kffrom, s_kfbits, x_slen, List.getElem?_cons_zero, List.getElem?_cons_succ, Option.map_some, hx.len]
  refine wp_range SCalls.scMono (by simp only [List.length_map]; omega) (fun n : Int => [(6, x), (3, .int .i64 n)]) (fun k n H' => nlF n (rs.drop k) = nlF 0 rs ∧ 0 ≤ n ∧ n ≤ k ∧ H' = H) 0 ⟨rfl, by omega, by omega, rfl⟩
    (.cons rfl (.cons rfl (.cons rfl (.cons rfl .nil)))) (by decide) (fun s => ⟨rfl, rfl, rfl⟩) ?_ ?_
  · rintro k n H' hk ⟨hacc, h0, hn, rfl⟩
    rw [List.length_map] at hk
    obtain ⟨id, p, hia, hat⟩ := hx.ia (H' := H') (i := k) (e := [V.int .i32 rs[k]]) (by simp [hk]) .i64
    have l0 := hat.ld (j := 0) (v := .int .i32 rs[k]) rfl 1
    rw [Nat.add_zero] at l0
    rw [List.drop_eq_getElem_cons hk] at hacc
    simp only [nlF] at hacc
    by_cases hr : rs[k] = 10
    · rw [if_pos hr] at hacc
      simp only [s_skip, s_region, s_draw, s_seq, s_cond, s_block, s_exit, s_scope, s_ret, s_nil, s_cons, s_done, s_op, s_fork, s_kops, s_ktree, s_kseq_n, s_kseq_r, s_kseq_e, s_kblock_n, s_kblock_r, s_kblock_e, s_kscope_n, s_kscope_r, s_kscope_e, s_kcond_t, s_kcond_f, s_ex, s_call, s_callv, s_guard, s_kguard_t, s_kguard_f, s_kexec, s_kres, s_kcall, s_kcallv, s_kret, s_put, s_putn, s_get, s_evs, s_evk, s_evnil, s_evcons, s_evC, s_g, s_gb, s_gu, s_kround_n, s_kround_r, s_kround_e, s_kloop_n, s_kloop_r, s_kloop_e, x_mov, x_konst, x_pick, x_nilck, x_add, x_sub, x_lss, x_leq, x_gtr, x_geq, x_eql, x_neq, x_not, x_fa, x_ext, x_mkfn, if_true, if_false, decide_true, decide_false, Bool.not_true, Bool.not_false, Bool.true_beq, Bool.false_beq, beq_true, beq_false, Int.reduceEq, Int.reduceLT, Int.reduceLE, Int.reduceGT, Int.reduceGE, reduceCtorEq, Nat.reduceEqDiff, s_kendr, s_kendn, s_kfin, s_resnil, s_rescons, s_rest, s_resca, s_resV1, s_resV0, s_resV2, s_ffrom, s_fbits, s_kffrom, s_kfbits, x_slen, List.getElem?_cons_zero, List.getElem?_cons_succ, Option.map_some, hia, l0, hr]
      rw [wrap_i64 (by omega) (by omega)]
      exact ⟨n + 1, ⟨hacc, by omega, by omega, by trivial⟩, .cons rfl (.cons rfl (.cons rfl (.cons rfl .nil)))⟩
    · rw [if_neg hr] at hacc
      simp only [s_skip, s_region, s_draw, s_seq, s_cond, s_block, s_exit, s_scope, s_ret, s_nil, s_cons, s_done, s_op, s_fork, s_kops, s_ktree, s_kseq_n, s_kseq_r, s_kseq_e, s_kblock_n, s_kblock_r, s_kblock_e, s_kscope_n, s_kscope_r, s_kscope_e, s_kcond_t, s_kcond_f, s_ex, s_call, s_callv, s_guard, s_kguard_t, s_kguard_f, s_kexec, s_kres, s_kcall, s_kcallv, s_kret, s_put, s_putn, s_get, s_evs, s_evk, s_evnil, s_evcons, s_evC, s_g, s_gb, s_gu, s_kround_n, s_kround_r, s_kround_e, s_kloop_n, s_kloop_r, s_kloop_e, x_mov, x_konst, x_pick, x_nilck, x_add, x_sub, x_lss, x_leq, x_gtr, x_geq, x_eql, x_neq, x_not, x_fa, x_ext, x_mkfn, if_true, if_false, decide_true, decide_false, Bool.not_true, Bool.not_false, Bool.true_beq, Bool.false_beq, beq_true, beq_false, Int.reduceEq, Int.reduceLT, Int.reduceLE, Int.reduceGT, Int.reduceGE, reduceCtorEq, Nat.reduceEqDiff, s_kendr, s_kendn, s_kfin, s_resnil, s_rescons, s_rest, s_resca, s_resV1, s_resV0, s_resV2, s_ffrom, s_fbits, s_kffrom, s_kfbits, x_slen, List.getElem?_cons_zero, List.getElem?_cons_succ, Option.map_some, hia, l0, hr]
      exact ⟨n, ⟨hacc, h0, by omega, by trivial⟩, .cons rfl (.cons rfl (.cons rfl (.cons rfl .nil)))⟩
  · rintro n H' ⟨hacc, h0, hn, rfl⟩
    simp only [s_skip, s_region, s_draw, s_seq, s_cond, s_block, s_exit, s_scope, s_ret, s_nil, s_cons, s_done, s_op, s_fork, s_kops, s_ktree, s_kseq_n, s_kseq_r, s_kseq_e, s_kblock_n, s_kblock_r, s_kblock_e, s_kscope_n, s_kscope_r, s_kscope_e, s_kcond_t, s_kcond_f, s_ex, s_call, s_callv, s_guard, s_kguard_t, s_kguard_f, s_kexec, s_kres, s_kcall, s_kcallv, s_kret, s_put, s_putn, s_get, s_evs, s_evk, s_evnil, s_evcons, s_evC, s_g, s_gb, s_gu, s_kround_n, s_kround_r, s_kround_e, s_kloop_n, s_kloop_r, s_kloop_e, x_mov, x_konst, x_pick, x_nilck, x_add, x_sub, x_lss, x_leq, x_gtr, x_geq, x_eql, x_neq, x_not, x_fa, x_ext, x_mkfn, if_true, if_false, decide_true, decide_false, Bool.not_true, Bool.not_false, Bool.true_beq, Bool.false_beq, beq_true, beq_false, Int.reduceEq, Int.reduceLT, Int.reduceLE, Int.reduceGT, Int.reduceGE, reduceCtorEq, Nat.reduceEqDiff, s_kendr, s_kendn, s_kfin, s_resnil, s_rescons, s_rest, s_resca, s_resV1, s_resV0, s_resV2, s_ffrom, s_fbits, s_kffrom, s_kfbits, x_slen, List.getElem?_cons_zero, List.getElem?_cons_succ, Option.map_some]
    rw [List.length_map, List.drop_length] at hacc
    exact ⟨Ext.refl _, congrArg (V.int .i64) hacc, rfl⟩

/-! ### Rows of elements -/
theorem flatG {sz : Nat} : ∀ {es : List (List V)} (_ : ∀ e ∈ es, e.length = sz) {i j : Nat} {e : List V}, es[i]? = some e → j < sz → es.flatten[i * sz + j]? = e[j]?
  | [], h, i, j, e, he, hj => by simp at he
  | x :: es, h, 0, j, e, he, hj => by
    simp at he; subst he
    rw [List.flatten_cons, List.getElem?_append_left (by rw [h x (by simp)]; omega)]
    simp
  | x :: es, h, i + 1, j, e, he, hj => by
    have hx := h x (by simp)
    rw [List.flatten_cons, List.getElem?_append_right (by rw [hx, Nat.add_mul]; omega)]
    have := flatG (es := es) (fun y hy => h y (List.mem_cons_of_mem _ hy)) (i := i) (j := j) (e := e) (by simpa using he) hj
    rw [← this, hx, Nat.add_mul]
    congr 1
    omega
theorem flatLen {sz : Nat} : ∀ {es : List (List V)} (_ : ∀ e ∈ es, e.length = sz), es.flatten.length = es.length * sz
  | [], h => by simp
  | x :: es, h => by
    rw [List.flatten_cons, List.length_append, h x (by simp), flatLen fun y hy => h y (by simp [hy]), List.length_cons, Nat.add_mul]
    omega
theorem flatAll {es : List (List V)} (h : ∀ e ∈ es, e.all V.one = true) : es.flatten.all V.one = true := by
  rw [List.all_eq_true]
  intro v hv
  obtain ⟨e, he, hv⟩ := List.mem_flatten.1 hv
  exact List.all_eq_true.1 (h e he) v hv
/-- A row of the call's own that holds the elements es. -/
structure Own (H : Heap) (id sz : Nat) (es : List (List V)) : Prop where
  lt : id < H.next
  get : H.get id = some (.row false sz es.flatten)
  len : ∀ e ∈ es, e.length = sz ∧ e.all V.one = true
theorem Own.sl {H : Heap} {id sz : Nat} {es : List (List V)} (h : Own H id sz es) (cap : Option Nat) : SL H (.slice id 0 es.length cap) sz es := by
  refine ⟨h.len, .inr ⟨id, 0, cap, rfl, h.lt, fun i e he => ⟨h.lt, false, sz, es.flatten, h.get, ?_, fun j v hj => ?_⟩⟩⟩
  · have hi := (List.getElem?_eq_some_iff.1 he).1
    rw [flatLen fun e he => (h.len e he).1, (h.len e (List.mem_of_getElem? he)).1]
    have : (i + 1) * sz ≤ es.length * sz := Nat.mul_le_mul_right _ (by omega)
    rw [Nat.add_mul] at this
    omega
  · have hl := (h.len e (List.mem_of_getElem? he)).1
    rw [Nat.zero_add, flatG (fun e he => (h.len e he).1) he (by rw [← hl]; exact (List.getElem?_eq_some_iff.1 hj).1)]
    exact hj
theorem SL.src {H : Heap} {x : V} {sz : Nat} {es : List (List V)} (h : SL H x sz es) (hne : es ≠ []) : lenV x = some es.length ∧ srcCells H es.length sz x = some es.flatten := by
  obtain ⟨hl, ⟨_, rfl⟩ | ⟨id, off, cap, rfl, hid, hat⟩⟩ := h
  · exact absurd rfl hne
  · refine ⟨rfl, ?_⟩
    obtain ⟨e0, he0⟩ : ∃ e0, es[0]? = some e0 := by cases es with | nil => exact absurd rfl hne | cons a l => exact ⟨a, rfl⟩
    obtain ⟨_, ro, esz, cells, hg, _, _⟩ := hat 0 e0 he0
    have hn : 0 < es.length := by cases es with | nil => exact absurd rfl hne | cons a l => simp
    -- the last element bounds the row
    have hlast : es[es.length - 1]? = some (es[es.length - 1]'(by omega)) := List.getElem?_eq_getElem _
    obtain ⟨_, ro', esz', cells', hg', hb, _⟩ := hat _ _ hlast
    rw [hg] at hg'
    cases hg'
    rw [(hl _ (List.mem_of_getElem? hlast)).1] at hb
    have hmul : (es.length - 1) * sz + sz = es.length * sz := by
      rw [← Nat.succ_mul]; congr 1; omega
    simp only [srcCells, readN, hg]
    by_cases hz0 : es.length * sz = 0
    · rw [if_pos hz0]
      have := flatLen fun e he => (hl e he).1
      rw [hz0] at this
      rw [List.length_eq_zero_iff.1 this]
    rw [if_neg hz0, if_pos (by omega)]
    congr 1
    refine List.ext_getElem? fun q => ?_
    rw [List.getElem?_take]
    split
    · rename_i hq
      rw [List.getElem?_drop]
      have hsz : 0 < sz := by
        rcases Nat.eq_zero_or_pos sz with h0 | h0
        · rw [h0] at hq; simp at hq
        · exact h0
      have hqi : q / sz < es.length := Nat.div_lt_of_lt_mul (by rw [Nat.mul_comm]; exact hq)
      have he := List.getElem?_eq_getElem hqi
      have hqm : q % sz < sz := Nat.mod_lt _ hsz
      obtain ⟨_, ro', esz', cells', hg', _, hc⟩ := hat _ _ he
      rw [hg] at hg'
      cases hg'
      have hle := (hl _ (List.mem_of_getElem? he)).1
      have h1 := hc (q % sz) _ (List.getElem?_eq_getElem (by rw [hle]; exact hqm))
      have h2 := flatG (fun e he => (hl e he).1) he hqm
      rw [show q / sz * sz + q % sz = q by rw [Nat.mul_comm]; exact Nat.div_add_mod q sz] at h2
      have hge := List.getElem?_eq_getElem (l := es[q / sz]) (i := q % sz) (by rw [hle]; exact hqm)
      rw [h2, hge, ← h1]
      congr 1
      have := Nat.div_add_mod q sz
      rw [Nat.mul_comm] at this
      omega
    · rename_i hq
      rw [List.getElem?_eq_none (by rw [flatLen fun e he => (hl e he).1]; omega)]

/-- slices.Clone of attributes. -/
theorem cloneA_calls {x : V} {H : Heap} {es : List (List V)} (hx : SL H x 5 es) (hl : es.length ≤ big) : SCalls PP 60 [x] H fun r H' => Ext H H' ∧ WF H' ∧ ((es = [] ∧ SL H' r 5 es) ∨ ∃ id, r = .slice id 0 es.length none ∧ H.next ≤ id ∧ Own H' id 5 es) := by
  refine SCalls.go c60 (by simp [fn60]) fun hw => ?_
  unfold big at hl
  have hbs : exec (.bsl 5 0 [] []) [] H = some (.slice H.next 0 0 (some 0), H.new (.row false 5 [])) := rfl
  obtain ⟨hlen, ⟨rfl, rfl⟩ | ⟨id, off, cap, rfl, hid, hat⟩⟩ := id hx
  · have hn : exec (.eqnil 1 false) [.nils, .nils] H = some (.bool true, H) := rfl
    simp only [fn60, enterFr, List.length, List.range, List.range.loop, List.zip, List.zipWith, s_skip, s_region, s_draw, s_seq, s_cond, s_block, s_exit, s_scope, s_ret, s_nil, s_cons, s_done, s_op, s_fork, s_kops, s_ktree, s_kseq_n, s_kseq_r, s_kseq_e, s_kblock_n, s_kblock_r, s_kblock_e, s_kscope_n, s_kscope_r, s_kscope_e, s_kcond_t, s_kcond_f, s_ex, s_call, s_callv, s_guard, s_kguard_t, s_kguard_f, s_kexec, s_kres, s_kcall, s_kcallv, s_kret, s_put, s_putn, s_get, s_evs, s_evk, s_evnil, s_evcons, s_evC, s_g, s_gb, s_gu, s_kround_n, s_kround_r, s_kround_e, s_kloop_n, s_kloop_r, s_kloop_e, x_mov, x_konst, x_pick, x_nilck, x_add, x_sub, x_lss, x_leq, x_gtr, x_geq, x_eql, x_neq, x_not, x_fa, x_ext, x_mkfn, if_true, if_false, decide_true, decide_false, Bool.not_true, Bool.not_false, Bool.true_beq, Bool.false_beq, beq_true, beq_false, Int.reduceEq, Int.reduceLT, Int.reduceLE, Int.reduceGT, Int.reduceGE, reduceCtorEq, Nat.reduceEqDiff, s_kendr, s_kendn, s_kfin, s_resnil, s_rescons, s_rest, s_resca, s_resV1, s_resV0, s_resV2, s_ffrom, s_fbits, s_kffrom, s_kfbits, x_slen, List.getElem?_cons_zero, List.getElem?_cons_succ, Option.map_some, hn]
    exact ⟨Ext.refl H, hw, .inl ⟨by trivial, by simp, .inl ⟨rfl, rfl⟩⟩⟩
  · have hn : exec (.eqnil 1 false) [.slice id off es.length cap, .nils] H = some (.bool false, H) := rfl
    have hx1 : Ext H (H.new (.row false 5 [])) := (Ext.refl H).new _
    have hw1 : WF (H.new (.row false 5 [])) := hw.new _
    have hg1 := new_get H (.row false 5 [])
    have hsl1 := hx.ext hx1
    by_cases he : es = []
    · subst he
      have happ : exec (.app 5 48) [.slice H.next 0 0 (some 0), .slice id off 0 cap] (H.new (.row false 5 [])) = some (.slice H.next 0 0 (some 0), H.new (.row false 5 [])) := by
        simp only [exec, appendA, lenV, srcCells, readN]
        rfl
      simp only [fn60, enterFr, List.length, List.range, List.range.loop, List.zip, List.zipWith, s_skip, s_region, s_draw, s_seq, s_cond, s_block, s_exit, s_scope, s_ret, s_nil, s_cons, s_done, s_op, s_fork, s_kops, s_ktree, s_kseq_n, s_kseq_r, s_kseq_e, s_kblock_n, s_kblock_r, s_kblock_e, s_kscope_n, s_kscope_r, s_kscope_e, s_kcond_t, s_kcond_f, s_ex, s_call, s_callv, s_guard, s_kguard_t, s_kguard_f, s_kexec, s_kres, s_kcall, s_kcallv, s_kret, s_put, s_putn, s_get, s_evs, s_evk, s_evnil, s_evcons, s_evC, s_g, s_gb, s_gu, s_kround_n, s_kround_r, s_kround_e, s_kloop_n, s_kloop_r, s_kloop_e, x_mov, x_konst, x_pick, x_nilck, x_add, x_sub, x_lss, x_leq, x_gtr, x_geq, x_eql, x_neq, x_not, x_fa, x_ext, x_mkfn, if_true, if_false, decide_true, decide_false, Bool.not_true, Bool.not_false, Bool.true_beq, Bool.false_beq, beq_true, beq_false, Int.reduceEq, Int.reduceLT, Int.reduceLE, Int.reduceGT, Int.reduceGE, reduceCtorEq, Nat.reduceEqDiff, s_kendr, s_kendn, s_kfin, s_resnil, s_rescons, s_rest, s_resca, s_resV1, s_resV0, s_resV2, s_ffrom, s_fbits, s_kffrom, s_kfbits, x_slen, List.getElem?_cons_zero, List.getElem?_cons_succ, Option.map_some, hn, hbs, happ]
      refine ⟨.inr rfl, _, rfl, ?_⟩
      exact ⟨hx1, hw1, .inl ⟨by trivial, by simp, .inr ⟨H.next, 0, some 0, rfl, Nat.lt_succ_self _, by simp⟩⟩⟩
    · obtain ⟨s1, s2⟩ := hsl1.src he
      have hln : es.length ≠ 0 := fun h => he (List.length_eq_zero_iff.1 h)
      have happ : exec (.app 5 48) [.slice H.next 0 0 (some 0), .slice id off es.length cap] (H.new (.row false 5 [])) = some (.slice (H.new (.row false 5 [])).next 0 es.length none, (H.new (.row false 5 [])).new (.row false 5 es.flatten)) := by
        simp only [exec, appendA, s1, s2]
        rw [if_neg (by simp [flatLen fun e he => (hlen e he).1, flatAll fun e he => (hlen e he).2]), if_neg hln, if_neg (by simp; omega)]
        rw [if_neg (by omega)]
        simp [readN]
      simp only [fn60, enterFr, List.length, List.range, List.range.loop, List.zip, List.zipWith, s_skip, s_region, s_draw, s_seq, s_cond, s_block, s_exit, s_scope, s_ret, s_nil, s_cons, s_done, s_op, s_fork, s_kops, s_ktree, s_kseq_n, s_kseq_r, s_kseq_e, s_kblock_n, s_kblock_r, s_kblock_e, s_kscope_n, s_kscope_r, s_kscope_e, s_kcond_t, s_kcond_f, s_ex, s_call, s_callv, s_guard, s_kguard_t, s_kguard_f, s_kexec, s_kres, s_kcall, s_kcallv, s_kret, s_put, s_putn, s_get, s_evs, s_evk, s_evnil, s_evcons, s_evC, s_g, s_gb, s_gu, s_kround_n, s_kround_r, s_kround_e, s_kloop_n, s_kloop_r, s_kloop_e, x_mov, x_konst, x_pick, x_nilck, x_add, x_sub, x_lss, x_leq, x_gtr, x_geq, x_eql, x_neq, x_not, x_fa, x_ext, x_mkfn, if_true, if_false, decide_true, decide_false, Bool.not_true, Bool.not_false, Bool.true_beq, Bool.false_beq, beq_true, beq_false, Int.reduceEq, Int.reduceLT, Int.reduceLE, Int.reduceGT, Int.reduceGE, reduceCtorEq, Nat.reduceEqDiff, s_kendr, s_kendn, s_kfin, s_resnil, s_rescons, s_rest, s_resca, s_resV1, s_resV0, s_resV2, s_ffrom, s_fbits, s_kffrom, s_kfbits, x_slen, List.getElem?_cons_zero, List.getElem?_cons_succ, Option.map_some, hn, hbs, happ]
      exact ⟨hx1.new _, hw1.new _, .inr ⟨_, rfl, Nat.le_succ _, Nat.lt_succ_self _, new_get _ _, hlen⟩⟩
end Go.Proofs.YtbadbkdpnbacnaaDoor.Fw

/- What functions of the program answer: DeleteFunc on attributes. No condition. -/
namespace Go.Proofs.YtbadbkdpnbacnaaDoor.Fw
open Go
set_option linter.unusedSimpArgs false
set_option linter.unusedVariables false

theorem x_bbin (n a b : Bool) (H : Heap) : exec (.bbin n) [.bool a, .bool b] H = some (.bool ((a == b) != n), H) := rfl
/-- Whether a part leaves an attribute out. -/
def outA (ks : List KeyA) (block : Bool) (a : AttrA) : Bool := !(findK ks a.key).isSome || (((findK ks a.key).getD zeroK).block != block)
theorem part1_calls {s : V} {H : Heap} {ks : List KeyA} {p1 p2 : Nat} {b : Bool} (hs : Sch H s ks) (h1 : At H p1 0 [s]) (h2 : At H p2 0 [.bool b]) (a : AttrA) :
    SCalls PP 61 [.agg a.cells, .ptr p1 0, .ptr p2 0] H fun r H' => H' = H ∧ r = .bool (outA ks b a) := by
  refine SCalls.keep (R := fun r => r = .bool (outA ks b a)) (SCalls.go c61 (by simp [fn61]) fun hw => ?_)
  obtain ⟨H2, hx2, hw2, ha2, hbx⟩ := x_boxed (Ext.refl H) hw (e := a.cells) rfl
  have l0 := ha2.ld (j := 0) (v := .int .i64 a.key) rfl 1
  have ls := (h1.ext hx2).ld (j := 0) (v := s) rfl 1
  rw [Nat.add_zero] at ls
  simp only [fn61, enterFr, List.length, List.range, List.range.loop, List.zip, List.zipWith, s_skip, s_region, s_draw, s_seq, s_cond, s_block, s_exit, s_scope, s_ret, s_nil, s_cons, s_done, s_op, s_fork, s_kops, s_ktree, s_kseq_n, s_kseq_r, s_kseq_e, s_kblock_n, s_kblock_r, s_kblock_e, s_kscope_n, s_kscope_r, s_kscope_e, s_kcond_t, s_kcond_f, s_ex, s_call, s_callv, s_guard, s_kguard_t, s_kguard_f, s_kexec, s_kres, s_kcall, s_kcallv, s_kret, s_put, s_putn, s_get, s_evs, s_evk, s_evnil, s_evcons, s_evC, s_g, s_gb, s_gu, s_kround_n, s_kround_r, s_kround_e, s_kloop_n, s_kloop_r, s_kloop_e, x_mov, x_konst, x_pick, x_nilck, x_add, x_sub, x_lss, x_leq, x_gtr, x_geq, x_eql, x_neq, x_not, x_fa, x_ext, x_mkfn, if_true, if_false, decide_true, decide_false, Bool.not_true, Bool.not_false, Bool.true_beq, Bool.false_beq, beq_true, beq_false, Int.reduceEq, Int.reduceLT, Int.reduceLE, Int.reduceGT, Int.reduceGE, reduceCtorEq, Nat.reduceEqDiff, s_kendr, s_kendn, s_kfin, s_resnil, s_rescons, s_rest, s_resca, s_resV1, s_resV0, s_resV2, s_ffrom, s_fbits, s_kffrom, s_kfbits, x_slen, List.getElem?_cons_zero, List.getElem?_cons_succ, Option.map_some, hbx, l0, ls]
  refine SCalls.mono (find_calls (hs.ext hx2) a.key) ?_
  rintro r H3 ⟨rfl, rfl⟩
  obtain ⟨H4, hx4, hw4, ha4, hal, hst⟩ := x_copy (Ext.refl H3) hw2 (z := zk) (e := foundC ks a.key) (n := 6) rfl rfl rfl rfl
  have k1 := ha4.ld (j := 1) (v := .bool ((findK ks a.key).getD zeroK).block) rfl 1
  have lb := (h2.ext (hx2.trans hx4)).ld (j := 0) (v := .bool b) rfl 1
  rw [Nat.add_zero] at lb
  cases hf : (findK ks a.key).isSome with
  | false =>
    simp only [s_skip, s_region, s_draw, s_seq, s_cond, s_block, s_exit, s_scope, s_ret, s_nil, s_cons, s_done, s_op, s_fork, s_kops, s_ktree, s_kseq_n, s_kseq_r, s_kseq_e, s_kblock_n, s_kblock_r, s_kblock_e, s_kscope_n, s_kscope_r, s_kscope_e, s_kcond_t, s_kcond_f, s_ex, s_call, s_callv, s_guard, s_kguard_t, s_kguard_f, s_kexec, s_kres, s_kcall, s_kcallv, s_kret, s_put, s_putn, s_get, s_evs, s_evk, s_evnil, s_evcons, s_evC, s_g, s_gb, s_gu, s_kround_n, s_kround_r, s_kround_e, s_kloop_n, s_kloop_r, s_kloop_e, x_mov, x_konst, x_pick, x_nilck, x_add, x_sub, x_lss, x_leq, x_gtr, x_geq, x_eql, x_neq, x_not, x_fa, x_ext, x_mkfn, if_true, if_false, decide_true, decide_false, Bool.not_true, Bool.not_false, Bool.true_beq, Bool.false_beq, beq_true, beq_false, Int.reduceEq, Int.reduceLT, Int.reduceLE, Int.reduceGT, Int.reduceGE, reduceCtorEq, Nat.reduceEqDiff, s_kendr, s_kendn, s_kfin, s_resnil, s_rescons, s_rest, s_resca, s_resV1, s_resV0, s_resV2, s_ffrom, s_fbits, s_kffrom, s_kfbits, x_slen, List.getElem?_cons_zero, List.getElem?_cons_succ, Option.map_some, hal, hst, hf]
    exact ⟨hx2.trans hx4, by simp [outA, hf], rfl⟩
  | true =>
    simp only [s_skip, s_region, s_draw, s_seq, s_cond, s_block, s_exit, s_scope, s_ret, s_nil, s_cons, s_done, s_op, s_fork, s_kops, s_ktree, s_kseq_n, s_kseq_r, s_kseq_e, s_kblock_n, s_kblock_r, s_kblock_e, s_kscope_n, s_kscope_r, s_kscope_e, s_kcond_t, s_kcond_f, s_ex, s_call, s_callv, s_guard, s_kguard_t, s_kguard_f, s_kexec, s_kres, s_kcall, s_kcallv, s_kret, s_put, s_putn, s_get, s_evs, s_evk, s_evnil, s_evcons, s_evC, s_g, s_gb, s_gu, s_kround_n, s_kround_r, s_kround_e, s_kloop_n, s_kloop_r, s_kloop_e, x_mov, x_konst, x_pick, x_nilck, x_add, x_sub, x_lss, x_leq, x_gtr, x_geq, x_eql, x_neq, x_not, x_fa, x_ext, x_mkfn, if_true, if_false, decide_true, decide_false, Bool.not_true, Bool.not_false, Bool.true_beq, Bool.false_beq, beq_true, beq_false, Int.reduceEq, Int.reduceLT, Int.reduceLE, Int.reduceGT, Int.reduceGE, reduceCtorEq, Nat.reduceEqDiff, s_kendr, s_kendn, s_kfin, s_resnil, s_rescons, s_rest, s_resca, s_resV1, s_resV0, s_resV2, s_ffrom, s_fbits, s_kffrom, s_kfbits, x_slen, List.getElem?_cons_zero, List.getElem?_cons_succ, Option.map_some, hal, hst, hf, k1, lb, x_bbin]
    refine ⟨hx2.trans hx4, ?_, rfl⟩
    simp only [outA, hf, Bool.not_true, Bool.false_or, Bool.false_eq_true, if_false]
    cases ((findK ks a.key).getD zeroK).block <;> cases b <;> rfl

def idxF (d : AttrA → Bool) : Nat → List AttrA → Int
  | _, [] => -1
  | k, a :: l => if d a then k else idxF d (k + 1) l
theorem indexFuncA_calls {x c1 c2 : V} {H : Heap} {l : List AttrA} {d : AttrA → Bool} (hx : SL H x 5 (l.map AttrA.cells)) (hl : l.length ≤ big)
    (hd : ∀ a ∈ l, SCalls PP 61 [.agg a.cells, c1, c2] H fun r H' => H' = H ∧ r = .bool (d a)) :
    SCalls PP 87 [x, .fn (.func 61) [] [c1, c2]] H fun r H' => H' = H ∧ r = .int .i64 (idxF d 0 l) := by
  refine SCalls.keep (R := fun r => r = .int .i64 (idxF d 0 l)) (SCalls.go c87 (by simp [fn87]) fun hw => ?_)
  unfold big at hl
  simp only [fn87, enterFr, List.length, List.range, List.range.loop, List.zip, List.zipWith, s_skip, s_region, s_draw, s_seq, s_cond, s_block, s_exit, s_scope, s_ret, s_nil, s_cons, s_done, s_op, s_fork, s_kops, s_ktree, s_kseq_n, s_kseq_r, s_kseq_e, s_kblock_n, s_kblock_r, s_kblock_e, s_kscope_n, s_kscope_r, s_kscope_e, s_kcond_t, s_kcond_f, s_ex, s_call, s_callv, s_guard, s_kguard_t, s_kguard_f, s_kexec, s_kres, s_kcall, s_kcallv, s_kret, s_put, s_putn, s_get, s_evs, s_evk, s_evnil, s_evcons, s_evC, s_g, s_gb, s_gu, s_kround_n, s_kround_r, s_kround_e, s_kloop_n, s_kloop_r, s_kloop_e, x_mov, x_konst, x_pick, x_nilck, x_add, x_sub, x_lss, x_leq, x_gtr, x_geq, x_eql, x_neq, x_not, x_fa, x_ext, x_mkfn, if_true, if_false, decide_true, decide_false, Bool.not_true, Bool.not_false, Bool.true_beq, Bool.false_beq, beq_true, beq_false, Int.reduceEq, Int.reduceLT, Int.reduceLE, Int.reduceGT, Int.reduceGE, reduceCtorEq, Nat.reduceEqDiff, s_kendr, s_kendn, s_kfin, s_resnil, s_rescons, s_rest, s_resca, s_resV1, s_resV0, s_resV2, s_ffrom, s_fbits, s_kffrom, s_kfbits, x_slen, List.getElem?_cons_zero, List.getElem?_cons_succ, Option.map_some, hx.len]
  refine wp_range SCalls.scMono (by simp only [List.length_map]; omega) (fun _ : Unit => [(0, x), (1, .fn (.func 61) [] [c1, c2])]) (fun k _ H' => idxF d k (l.drop k) = idxF d 0 l ∧ H' = H) () ⟨rfl, rfl⟩
    (.cons rfl (.cons rfl (.cons rfl (.cons rfl .nil)))) (by decide) (fun s => ⟨rfl, rfl, rfl⟩) ?_ ?_
  · rintro k _ H' hk ⟨hacc, rfl⟩
    rw [List.length_map] at hk
    obtain ⟨id, p, hia, hat⟩ := hx.ia (H' := H') (i := k) (e := l[k].cells) (by simp [hk]) .i64
    rw [List.drop_eq_getElem_cons hk] at hacc
    simp only [idxF] at hacc
    simp only [s_skip, s_region, s_draw, s_seq, s_cond, s_block, s_exit, s_scope, s_ret, s_nil, s_cons, s_done, s_op, s_fork, s_kops, s_ktree, s_kseq_n, s_kseq_r, s_kseq_e, s_kblock_n, s_kblock_r, s_kblock_e, s_kscope_n, s_kscope_r, s_kscope_e, s_kcond_t, s_kcond_f, s_ex, s_call, s_callv, s_guard, s_kguard_t, s_kguard_f, s_kexec, s_kres, s_kcall, s_kcallv, s_kret, s_put, s_putn, s_get, s_evs, s_evk, s_evnil, s_evcons, s_evC, s_g, s_gb, s_gu, s_kround_n, s_kround_r, s_kround_e, s_kloop_n, s_kloop_r, s_kloop_e, x_mov, x_konst, x_pick, x_nilck, x_add, x_sub, x_lss, x_leq, x_gtr, x_geq, x_eql, x_neq, x_not, x_fa, x_ext, x_mkfn, if_true, if_false, decide_true, decide_false, Bool.not_true, Bool.not_false, Bool.true_beq, Bool.false_beq, beq_true, beq_false, Int.reduceEq, Int.reduceLT, Int.reduceLE, Int.reduceGT, Int.reduceGE, reduceCtorEq, Nat.reduceEqDiff, s_kendr, s_kendn, s_kfin, s_resnil, s_rescons, s_rest, s_resca, s_resV1, s_resV0, s_resV2, s_ffrom, s_fbits, s_kffrom, s_kfbits, x_slen, List.getElem?_cons_zero, List.getElem?_cons_succ, Option.map_some, hia, hat.lda (n := 5) rfl, List.nil_append, List.cons_append]
    refine SCalls.mono (hd l[k] (List.getElem_mem hk)) ?_
    rintro v H2 ⟨rfl, rfl⟩
    cases hr : d l[k] with
    | false =>
      rw [hr, if_neg (by simp)] at hacc
      simp only [s_skip, s_region, s_draw, s_seq, s_cond, s_block, s_exit, s_scope, s_ret, s_nil, s_cons, s_done, s_op, s_fork, s_kops, s_ktree, s_kseq_n, s_kseq_r, s_kseq_e, s_kblock_n, s_kblock_r, s_kblock_e, s_kscope_n, s_kscope_r, s_kscope_e, s_kcond_t, s_kcond_f, s_ex, s_call, s_callv, s_guard, s_kguard_t, s_kguard_f, s_kexec, s_kres, s_kcall, s_kcallv, s_kret, s_put, s_putn, s_get, s_evs, s_evk, s_evnil, s_evcons, s_evC, s_g, s_gb, s_gu, s_kround_n, s_kround_r, s_kround_e, s_kloop_n, s_kloop_r, s_kloop_e, x_mov, x_konst, x_pick, x_nilck, x_add, x_sub, x_lss, x_leq, x_gtr, x_geq, x_eql, x_neq, x_not, x_fa, x_ext, x_mkfn, if_true, if_false, decide_true, decide_false, Bool.not_true, Bool.not_false, Bool.true_beq, Bool.false_beq, beq_true, beq_false, Int.reduceEq, Int.reduceLT, Int.reduceLE, Int.reduceGT, Int.reduceGE, reduceCtorEq, Nat.reduceEqDiff, s_kendr, s_kendn, s_kfin, s_resnil, s_rescons, s_rest, s_resca, s_resV1, s_resV0, s_resV2, s_ffrom, s_fbits, s_kffrom, s_kfbits, x_slen, List.getElem?_cons_zero, List.getElem?_cons_succ, Option.map_some, hr]
      exact ⟨(), ⟨hacc, by trivial⟩, .cons rfl (.cons rfl (.cons rfl (.cons rfl .nil)))⟩
    | true =>
      rw [hr, if_pos rfl] at hacc
      simp only [s_skip, s_region, s_draw, s_seq, s_cond, s_block, s_exit, s_scope, s_ret, s_nil, s_cons, s_done, s_op, s_fork, s_kops, s_ktree, s_kseq_n, s_kseq_r, s_kseq_e, s_kblock_n, s_kblock_r, s_kblock_e, s_kscope_n, s_kscope_r, s_kscope_e, s_kcond_t, s_kcond_f, s_ex, s_call, s_callv, s_guard, s_kguard_t, s_kguard_f, s_kexec, s_kres, s_kcall, s_kcallv, s_kret, s_put, s_putn, s_get, s_evs, s_evk, s_evnil, s_evcons, s_evC, s_g, s_gb, s_gu, s_kround_n, s_kround_r, s_kround_e, s_kloop_n, s_kloop_r, s_kloop_e, x_mov, x_konst, x_pick, x_nilck, x_add, x_sub, x_lss, x_leq, x_gtr, x_geq, x_eql, x_neq, x_not, x_fa, x_ext, x_mkfn, if_true, if_false, decide_true, decide_false, Bool.not_true, Bool.not_false, Bool.true_beq, Bool.false_beq, beq_true, beq_false, Int.reduceEq, Int.reduceLT, Int.reduceLE, Int.reduceGT, Int.reduceGE, reduceCtorEq, Nat.reduceEqDiff, s_kendr, s_kendn, s_kfin, s_resnil, s_rescons, s_rest, s_resca, s_resV1, s_resV0, s_resV2, s_ffrom, s_fbits, s_kffrom, s_kfbits, x_slen, List.getElem?_cons_zero, List.getElem?_cons_succ, Option.map_some, hr]
      exact ⟨Ext.refl _, congrArg (V.int .i64) hacc, rfl⟩
  · rintro _ H' ⟨hacc, rfl⟩
    simp only [s_skip, s_region, s_draw, s_seq, s_cond, s_block, s_exit, s_scope, s_ret, s_nil, s_cons, s_done, s_op, s_fork, s_kops, s_ktree, s_kseq_n, s_kseq_r, s_kseq_e, s_kblock_n, s_kblock_r, s_kblock_e, s_kscope_n, s_kscope_r, s_kscope_e, s_kcond_t, s_kcond_f, s_ex, s_call, s_callv, s_guard, s_kguard_t, s_kguard_f, s_kexec, s_kres, s_kcall, s_kcallv, s_kret, s_put, s_putn, s_get, s_evs, s_evk, s_evnil, s_evcons, s_evC, s_g, s_gb, s_gu, s_kround_n, s_kround_r, s_kround_e, s_kloop_n, s_kloop_r, s_kloop_e, x_mov, x_konst, x_pick, x_nilck, x_add, x_sub, x_lss, x_leq, x_gtr, x_geq, x_eql, x_neq, x_not, x_fa, x_ext, x_mkfn, if_true, if_false, decide_true, decide_false, Bool.not_true, Bool.not_false, Bool.true_beq, Bool.false_beq, beq_true, beq_false, Int.reduceEq, Int.reduceLT, Int.reduceLE, Int.reduceGT, Int.reduceGE, reduceCtorEq, Nat.reduceEqDiff, s_kendr, s_kendn, s_kfin, s_resnil, s_rescons, s_rest, s_resca, s_resV1, s_resV0, s_resV2, s_ffrom, s_fbits, s_kffrom, s_kfbits, x_slen, List.getElem?_cons_zero, List.getElem?_cons_succ, Option.map_some]
    rw [List.length_map, List.drop_length] at hacc
    exact ⟨Ext.refl _, congrArg (V.int .i64) hacc, rfl⟩

def keepN (d : AttrA → Bool) : List AttrA → Nat
  | [] => 0
  | a :: l => (if d a then 0 else 1) + keepN d l
theorem idx_keep (d : AttrA → Bool) : ∀ (l : List AttrA) (k : Nat), (idxF d k l = -1 ∧ keepN d l = l.length) ∨ ∃ i, idxF d k l = ((k + i : Nat) : Int) ∧ i < l.length ∧ keepN d l = i + keepN d (l.drop (i + 1))
  | [], k => .inl ⟨rfl, rfl⟩
  | a :: l, k => by
    cases ha : d a with
    | true => exact .inr ⟨0, by simp [idxF, ha], by simp, by simp [keepN, ha]⟩
    | false =>
      rcases idx_keep d l (k + 1) with ⟨h1, h2⟩ | ⟨i, h1, h2, h3⟩
      · exact .inl ⟨by simp [idxF, ha, h1], by simp [keepN, ha, h2]; omega⟩
      · exact .inr ⟨i + 1, by simp [idxF, ha, h1]; omega, by simp; omega, by simp [keepN, ha, h3]; omega⟩

theorem set_flat {sz : Nat} : ∀ {es : List (List V)} (_ : ∀ e ∈ es, e.length = sz) {i : Nat} {e : List V}, i < es.length → e.length = sz → splice es.flatten (i * sz) e = (es.set i e).flatten
  | [], h, i, e, hi, he => by simp at hi
  | x :: es, h, 0, e, hi, he => by
    have hx := h x (by simp)
    simp only [splice, Nat.zero_mul, List.take_zero, List.nil_append, Nat.zero_add, List.flatten_cons, List.set_cons_zero]
    rw [List.drop_append_of_le_length (by omega), List.drop_of_length_le (by omega)]
    rfl
  | x :: es, h, i + 1, e, hi, he => by
    have hx := h x (by simp)
    have ih := set_flat (es := es) (fun y hy => h y (List.mem_cons_of_mem _ hy)) (i := i) (e := e) (by simpa using hi) he
    rw [List.set_cons_succ, show (x :: es.set i e).flatten = x ++ (es.set i e).flatten from List.flatten_cons, ← ih]
    simp only [splice, List.flatten_cons]
    have e1 : (i + 1) * sz = x.length + i * sz := by rw [Nat.add_mul, hx]; omega
    rw [e1, List.take_append, List.take_of_length_le (by omega), show x.length + i * sz + e.length = x.length + (i * sz + e.length) by omega, List.drop_append, List.drop_of_length_le (l := x) (by omega)]
    simp [List.append_assoc]

theorem Own.store {H : Heap} {id sz : Nat} {es : List (List V)} (h : Own H id sz es) {i : Nat} (hi : i < es.length) {e : List V} (he : e.length = sz) (ho : e.all V.one = true) :
    ∃ H', exec (.st sz) [.ptr id (0 + i * sz), .agg e] H = some (.undef, H') ∧ H' = H.set id (.row false sz (es.set i e).flatten) ∧ Own H' id sz (es.set i e) := by
  refine ⟨_, ?_, rfl, h.lt, set_get' _ _ _, fun y hy => ?_⟩
  · have hf := flatLen fun e he => (h.len e he).1
    have : (i + 1) * sz ≤ es.length * sz := Nat.mul_le_mul_right _ (by omega)
    rw [Nat.add_mul] at this
    have hwr : writeAt H id (0 + i * sz) e = some (H.set id (.row false sz (es.set i e).flatten)) := by
      unfold writeAt
      rw [h.get]
      simp only
      rw [if_pos ⟨by omega, ho⟩, Nat.zero_add, set_flat (fun e he => (h.len e he).1) hi he]
    show (if e.length = sz then (writeAt H id (0 + i * sz) e).map (V.undef, ·) else none) = _
    rw [if_pos he, hwr]
    rfl
  · rcases List.mem_or_eq_of_mem_set hy with hy | rfl
    · exact h.len y hy
    · exact ⟨he, ho⟩

theorem flatRep {sz : Nat} {z : List V} (hz : z.length = sz) (n : Nat) : (List.replicate n z).flatten.length = n * sz := by
  rw [flatLen (sz := sz) fun e he => by rw [List.eq_of_mem_replicate he]; exact hz, List.length_replicate]

theorem Own.ext {H H' : Heap} {id sz : Nat} {es : List (List V)} (h : Own H id sz es) (k : Ext H H') : Own H' id sz es :=
  ⟨Nat.lt_of_lt_of_le h.lt k.next, by rw [k.get id h.lt]; exact h.get, h.len⟩
theorem x_iax {H : Heap} {id n i sz : Nat} (hi : i < n) : exec (.ia sz) [.slice id 0 n none, .int .i64 i] H = some (.ptr id (0 + i * sz), H) := by
  simp only [exec]
  rw [if_pos ⟨by omega, by omega⟩]
  rfl
theorem x_slc_lo {H : Heap} {id n i sz : Nat} {cells : List V} (hg : H.get id = some (.row false sz cells)) (hi : i ≤ n) : exec (.slc sz true false false) [.slice id 0 n none, .int .i64 i] H = some (.slice id (0 + i * sz) (n - i) none, H) := by
  have hb : bounds3 true false false n ((none : Option Nat).getD n) [V.int .i64 i] = some (i, n, n) := by
    simp [bounds3, natV]
  simp only [exec, hb]
  rw [if_pos ⟨hi, Nat.le_refl _, Nat.le_refl _, by simp [slcOk, hg]⟩]
theorem x_slc_hi {H : Heap} {id n i sz : Nat} {cells : List V} (hg : H.get id = some (.row false sz cells)) (hi : i ≤ n) : exec (.slc sz false true false) [.slice id 0 n none, .int .i64 i] H = some (.slice id (0 + 0 * sz) (i - 0) none, H) := by
  have hb : bounds3 false true false n ((none : Option Nat).getD n) [V.int .i64 i] = some (0, i, n) := by
    simp [bounds3, natV]
  simp only [exec, hb]
  rw [if_pos ⟨Nat.zero_le _, hi, Nat.le_refl _, by simp [slcOk, hg]⟩]
theorem x_clear {H : Heap} {id off m sz : Nat} {cells z : List V} (hg : H.get id = some (.row false sz cells)) (hz : z.length = sz) (hzo : z.all V.one = true) (hm : off + m * sz ≤ cells.length) :
    ∃ H', exec (.clear z) [.slice id off m none] H = some (.undef, H') ∧ (H' = H ∨ ∃ cs, H' = H.set id (.row false sz cs)) := by
  cases m with
  | zero => exact ⟨H, rfl, .inl rfl⟩
  | succ m =>
    refine ⟨H.set id (.row false sz (splice cells off (List.replicate (m + 1) z).flatten)), ?_, .inr ⟨_, rfl⟩⟩
    show (writeAt H id off (List.replicate (m + 1) z).flatten).map (V.undef, ·) = _
    unfold writeAt
    rw [hg]
    simp only
    rw [if_pos ⟨by rw [flatRep hz]; exact hm, flatAll fun e he => by rw [List.eq_of_mem_replicate he]; exact hzo⟩]
    rfl

set_option maxRecDepth 20000 in
set_option maxHeartbeats 1000000 in
theorem deleteFunc_calls {x c1 c2 : V} {G H : Heap} {l : List AttrA} {d : AttrA → Bool} (hG : Ext G H) (hwf : WF H) (hl : l.length ≤ big)
    (hx : (l = [] ∧ SL H x 5 (l.map AttrA.cells)) ∨ ∃ id, x = .slice id 0 (l.map AttrA.cells).length none ∧ G.next ≤ id ∧ Own H id 5 (l.map AttrA.cells))
    (hd : ∀ H', Ext G H' → ∀ a ∈ l, SCalls PP 61 [.agg a.cells, c1, c2] H' fun r H'' => H'' = H' ∧ r = .bool (d a)) :
    SCalls PP 59 [x, .fn (.func 61) [] [c1, c2]] H fun r H' => Ext G H' ∧ WF H' ∧ ∀ H'', exec .len [r] H'' = some (.int .i64 (keepN d l), H'') := by
  have hsl : SL H x 5 (l.map AttrA.cells) := by
    rcases hx with ⟨_, h⟩ | ⟨id, rfl, _, ho⟩
    · exact h
    · exact ho.sl none
  refine SCalls.go c59 (by simp [fn59]) fun hw => ?_
  simp only [fn59, enterFr, List.length, List.range, List.range.loop, List.zip, List.zipWith, s_skip, s_region, s_draw, s_seq, s_cond, s_block, s_exit, s_scope, s_ret, s_nil, s_cons, s_done, s_op, s_fork, s_kops, s_ktree, s_kseq_n, s_kseq_r, s_kseq_e, s_kblock_n, s_kblock_r, s_kblock_e, s_kscope_n, s_kscope_r, s_kscope_e, s_kcond_t, s_kcond_f, s_ex, s_call, s_callv, s_guard, s_kguard_t, s_kguard_f, s_kexec, s_kres, s_kcall, s_kcallv, s_kret, s_put, s_putn, s_get, s_evs, s_evk, s_evnil, s_evcons, s_evC, s_g, s_gb, s_gu, s_kround_n, s_kround_r, s_kround_e, s_kloop_n, s_kloop_r, s_kloop_e, x_mov, x_konst, x_pick, x_nilck, x_add, x_sub, x_lss, x_leq, x_gtr, x_geq, x_eql, x_neq, x_not, x_fa, x_ext, x_mkfn, if_true, if_false, decide_true, decide_false, Bool.not_true, Bool.not_false, Bool.true_beq, Bool.false_beq, beq_true, beq_false, Int.reduceEq, Int.reduceLT, Int.reduceLE, Int.reduceGT, Int.reduceGE, reduceCtorEq, Nat.reduceEqDiff, s_kendr, s_kendn, s_kfin, s_resnil, s_rescons, s_rest, s_resca, s_resV1, s_resV0, s_resV2, s_ffrom, s_fbits, s_kffrom, s_kfbits, x_slen, List.getElem?_cons_zero, List.getElem?_cons_succ, Option.map_some]
  refine SCalls.mono (indexFuncA_calls hsl hl (hd H hG)) ?_
  rintro r H1 ⟨rfl, rfl⟩
  rcases idx_keep d l 0 with ⟨h1, h2⟩ | ⟨i0, h1, h2, h3⟩
  · simp only [s_skip, s_region, s_draw, s_seq, s_cond, s_block, s_exit, s_scope, s_ret, s_nil, s_cons, s_done, s_op, s_fork, s_kops, s_ktree, s_kseq_n, s_kseq_r, s_kseq_e, s_kblock_n, s_kblock_r, s_kblock_e, s_kscope_n, s_kscope_r, s_kscope_e, s_kcond_t, s_kcond_f, s_ex, s_call, s_callv, s_guard, s_kguard_t, s_kguard_f, s_kexec, s_kres, s_kcall, s_kcallv, s_kret, s_put, s_putn, s_get, s_evs, s_evk, s_evnil, s_evcons, s_evC, s_g, s_gb, s_gu, s_kround_n, s_kround_r, s_kround_e, s_kloop_n, s_kloop_r, s_kloop_e, x_mov, x_konst, x_pick, x_nilck, x_add, x_sub, x_lss, x_leq, x_gtr, x_geq, x_eql, x_neq, x_not, x_fa, x_ext, x_mkfn, if_true, if_false, decide_true, decide_false, Bool.not_true, Bool.not_false, Bool.true_beq, Bool.false_beq, beq_true, beq_false, Int.reduceEq, Int.reduceLT, Int.reduceLE, Int.reduceGT, Int.reduceGE, reduceCtorEq, Nat.reduceEqDiff, s_kendr, s_kendn, s_kfin, s_resnil, s_rescons, s_rest, s_resca, s_resV1, s_resV0, s_resV2, s_ffrom, s_fbits, s_kffrom, s_kfbits, x_slen, List.getElem?_cons_zero, List.getElem?_cons_succ, Option.map_some, h1]
    refine ⟨hG, hwf, fun H'' => ?_⟩
    rw [hsl.len, List.length_map, h2]
  · rcases hx with ⟨rfl, _⟩ | ⟨id, rfl, hid, ho⟩
    · simp at h2
    unfold big at hl
    have hne : ¬ (((0 + i0 : Nat) : Int) = -1) := by omega
    have hw1 : IntKind.i64.wrap (((0 + i0 : Nat) : Int) + 1) = ((i0 + 1 : Nat) : Int) := by rw [wrap_i64 (by omega) (by omega)]; omega
    simp only [s_skip, s_region, s_draw, s_seq, s_cond, s_block, s_exit, s_scope, s_ret, s_nil, s_cons, s_done, s_op, s_fork, s_kops, s_ktree, s_kseq_n, s_kseq_r, s_kseq_e, s_kblock_n, s_kblock_r, s_kblock_e, s_kscope_n, s_kscope_r, s_kscope_e, s_kcond_t, s_kcond_f, s_ex, s_call, s_callv, s_guard, s_kguard_t, s_kguard_f, s_kexec, s_kres, s_kcall, s_kcallv, s_kret, s_put, s_putn, s_get, s_evs, s_evk, s_evnil, s_evcons, s_evC, s_g, s_gb, s_gu, s_kround_n, s_kround_r, s_kround_e, s_kloop_n, s_kloop_r, s_kloop_e, x_mov, x_konst, x_pick, x_nilck, x_add, x_sub, x_lss, x_leq, x_gtr, x_geq, x_eql, x_neq, x_not, x_fa, x_ext, x_mkfn, if_true, if_false, decide_true, decide_false, Bool.not_true, Bool.not_false, Bool.true_beq, Bool.false_beq, beq_true, beq_false, Int.reduceEq, Int.reduceLT, Int.reduceLE, Int.reduceGT, Int.reduceGE, reduceCtorEq, Nat.reduceEqDiff, s_kendr, s_kendn, s_kfin, s_resnil, s_rescons, s_rest, s_resca, s_resV1, s_resV0, s_resV2, s_ffrom, s_fbits, s_kffrom, s_kfbits, x_slen, List.getElem?_cons_zero, List.getElem?_cons_succ, Option.map_some, h1, hne, hw1, Bool.false_eq_true]
    have hnl : (l.map AttrA.cells).length = l.length := List.length_map ..
    rw [hnl]
    refine wp_loopI (fun m fr H' => ∃ (j i : Nat) (cur : List (List V)), m = l.length - j ∧ j ≤ l.length ∧ i < j ∧ cur.length = l.length ∧ Own H' id 5 cur ∧ (∀ q, j ≤ q → cur[q]? = (l.map AttrA.cells)[q]?) ∧ keepN d l = i + keepN d (l.drop j) ∧ Ext G H' ∧ WF H' ∧
      FrSub [(5, .int .i64 i), (6, .int .i64 j), (0, .slice id 0 l.length none), (1, .fn (.func 61) [] [c1, c2])] fr) (l.length - (i0 + 1))
      ⟨i0 + 1, 0 + i0, l.map AttrA.cells, rfl, by omega, by omega, hnl, ho, fun q _ => rfl, by omega, hG, hwf, .cons rfl (.cons rfl (.cons rfl (.cons rfl .nil)))⟩ ?_
    rintro m fr H' ⟨j, i, cur, rfl, hj, hij, hcl, hown, hcur, hkeep, hext, hwf', hsub⟩
    refine ⟨_, hsub, ?_⟩
    have hlen : exec .len [.slice id 0 l.length none] H' = some (.int .i64 l.length, H') := rfl
    by_cases hlt : j < l.length
    · have hlt' : (j : Int) < (l.length : Int) := by omega
      have hsl' := hown.sl none
      rw [hcl] at hsl'
      have hcj : cur[j]? = some l[j].cells := by rw [hcur j (Nat.le_refl _)]; simp [hlt]
      have hia := x_iax (H := H') (id := id) (n := l.length) (sz := 5) hlt
      obtain ⟨_, _, hia2, hat⟩ := hsl'.ia (H' := H') hcj .i64
      rw [hia] at hia2
      cases hia2
      obtain ⟨H2, hx2, hw2, ha2, hal, hst⟩ := x_copy (Ext.refl H') hwf' (z := [V.int .i64 0, .int .u8 0, .int .i64 0, .int .u64 0, .str ⟨#[]⟩]) (e := l[j].cells) (n := 5) rfl rfl rfl rfl
      have la := ha2.lda (n := 5) rfl
      have hown2 := hown.ext hx2
      have hGx := hext.trans hx2
      have hwj : IntKind.i64.wrap ((j : Int) + 1) = ((j + 1 : Nat) : Int) := by rw [wrap_i64 (by omega) (by omega)]; omega
      have hwi : IntKind.i64.wrap ((i : Int) + 1) = ((i + 1 : Nat) : Int) := by rw [wrap_i64 (by omega) (by omega)]; omega
      rw [List.drop_eq_getElem_cons hlt] at hkeep
      simp only [keepN] at hkeep
      simp only [s_skip, s_region, s_draw, s_seq, s_cond, s_block, s_exit, s_scope, s_ret, s_nil, s_cons, s_done, s_op, s_fork, s_kops, s_ktree, s_kseq_n, s_kseq_r, s_kseq_e, s_kblock_n, s_kblock_r, s_kblock_e, s_kscope_n, s_kscope_r, s_kscope_e, s_kcond_t, s_kcond_f, s_ex, s_call, s_callv, s_guard, s_kguard_t, s_kguard_f, s_kexec, s_kres, s_kcall, s_kcallv, s_kret, s_put, s_putn, s_get, s_evs, s_evk, s_evnil, s_evcons, s_evC, s_g, s_gb, s_gu, s_kround_n, s_kround_r, s_kround_e, s_kloop_n, s_kloop_r, s_kloop_e, x_mov, x_konst, x_pick, x_nilck, x_add, x_sub, x_lss, x_leq, x_gtr, x_geq, x_eql, x_neq, x_not, x_fa, x_ext, x_mkfn, if_true, if_false, decide_true, decide_false, Bool.not_true, Bool.not_false, Bool.true_beq, Bool.false_beq, beq_true, beq_false, Int.reduceEq, Int.reduceLT, Int.reduceLE, Int.reduceGT, Int.reduceGE, reduceCtorEq, Nat.reduceEqDiff, s_kendr, s_kendn, s_kfin, s_resnil, s_rescons, s_rest, s_resca, s_resV1, s_resV0, s_resV2, s_ffrom, s_fbits, s_kffrom, s_kfbits, x_slen, List.getElem?_cons_zero, List.getElem?_cons_succ, Option.map_some, hlen, hlt', hia, hat.lda (n := 5) rfl, hal, hst, la, List.nil_append, List.cons_append]
      refine SCalls.mono (hd H2 hGx l[j] (List.getElem_mem hlt)) ?_
      rintro r H3 ⟨rfl, rfl⟩
      cases hr : d l[j] with
      | true =>
        rw [hr, if_pos rfl] at hkeep
        simp only [s_skip, s_region, s_draw, s_seq, s_cond, s_block, s_exit, s_scope, s_ret, s_nil, s_cons, s_done, s_op, s_fork, s_kops, s_ktree, s_kseq_n, s_kseq_r, s_kseq_e, s_kblock_n, s_kblock_r, s_kblock_e, s_kscope_n, s_kscope_r, s_kscope_e, s_kcond_t, s_kcond_f, s_ex, s_call, s_callv, s_guard, s_kguard_t, s_kguard_f, s_kexec, s_kres, s_kcall, s_kcallv, s_kret, s_put, s_putn, s_get, s_evs, s_evk, s_evnil, s_evcons, s_evC, s_g, s_gb, s_gu, s_kround_n, s_kround_r, s_kround_e, s_kloop_n, s_kloop_r, s_kloop_e, x_mov, x_konst, x_pick, x_nilck, x_add, x_sub, x_lss, x_leq, x_gtr, x_geq, x_eql, x_neq, x_not, x_fa, x_ext, x_mkfn, if_true, if_false, decide_true, decide_false, Bool.not_true, Bool.not_false, Bool.true_beq, Bool.false_beq, beq_true, beq_false, Int.reduceEq, Int.reduceLT, Int.reduceLE, Int.reduceGT, Int.reduceGE, reduceCtorEq, Nat.reduceEqDiff, s_kendr, s_kendn, s_kfin, s_resnil, s_rescons, s_rest, s_resca, s_resV1, s_resV0, s_resV2, s_ffrom, s_fbits, s_kffrom, s_kfbits, x_slen, List.getElem?_cons_zero, List.getElem?_cons_succ, Option.map_some, hr, hwj]
        exact ⟨l.length - (j + 1), by omega, j + 1, i, cur, rfl, by omega, by omega, hcl, hown2, fun q hq => hcur q (by omega), by omega, hGx, hw2, .cons rfl (.cons rfl (.cons rfl (.cons rfl .nil)))⟩
      | false =>
        rw [hr, if_neg (by simp)] at hkeep
        have hii := x_iax (H := H3) (id := id) (n := l.length) (sz := 5) (i := i) (by omega)
        obtain ⟨H4, hst4, rfl, hown4⟩ := hown2.store (i := i) (by omega) (e := l[j].cells) rfl rfl
        simp only [s_skip, s_region, s_draw, s_seq, s_cond, s_block, s_exit, s_scope, s_ret, s_nil, s_cons, s_done, s_op, s_fork, s_kops, s_ktree, s_kseq_n, s_kseq_r, s_kseq_e, s_kblock_n, s_kblock_r, s_kblock_e, s_kscope_n, s_kscope_r, s_kscope_e, s_kcond_t, s_kcond_f, s_ex, s_call, s_callv, s_guard, s_kguard_t, s_kguard_f, s_kexec, s_kres, s_kcall, s_kcallv, s_kret, s_put, s_putn, s_get, s_evs, s_evk, s_evnil, s_evcons, s_evC, s_g, s_gb, s_gu, s_kround_n, s_kround_r, s_kround_e, s_kloop_n, s_kloop_r, s_kloop_e, x_mov, x_konst, x_pick, x_nilck, x_add, x_sub, x_lss, x_leq, x_gtr, x_geq, x_eql, x_neq, x_not, x_fa, x_ext, x_mkfn, if_true, if_false, decide_true, decide_false, Bool.not_true, Bool.not_false, Bool.true_beq, Bool.false_beq, beq_true, beq_false, Int.reduceEq, Int.reduceLT, Int.reduceLE, Int.reduceGT, Int.reduceGE, reduceCtorEq, Nat.reduceEqDiff, s_kendr, s_kendn, s_kfin, s_resnil, s_rescons, s_rest, s_resca, s_resV1, s_resV0, s_resV2, s_ffrom, s_fbits, s_kffrom, s_kfbits, x_slen, List.getElem?_cons_zero, List.getElem?_cons_succ, Option.map_some, hr, la, hii, hst4, hwj, hwi]
        exact ⟨l.length - (j + 1), by omega, j + 1, i + 1, _, rfl, by omega, by omega, by rw [List.length_set]; exact hcl, hown4, fun q hq => by rw [List.getElem?_set_ne (by omega)]; exact hcur q (by omega), by omega, hGx.set hid _, hw2.set hown2.get _, .cons rfl (.cons rfl (.cons rfl (.cons rfl .nil)))⟩
    · have hlt' : ¬ (j : Int) < (l.length : Int) := by omega
      obtain rfl : j = l.length := by omega
      rw [List.drop_length] at hkeep
      simp only [keepN] at hkeep
      have hlo := x_slc_lo (H := H') (n := l.length) (i := i) hown.get (by omega)
      have hfl := flatLen fun e he => (hown.len e he).1
      obtain ⟨H2, hcl2, hH2⟩ := x_clear (H := H') (off := 0 + i * 5) (m := l.length - i) (z := [V.int .i64 0, .int .u8 0, .int .i64 0, .int .u64 0, .str ⟨#[]⟩]) hown.get rfl rfl (by rw [hfl, hcl]; omega)
      have hg2 : ∃ cs, H2.get id = some (.row false 5 cs) := by
        rcases hH2 with rfl | ⟨cs, rfl⟩
        · exact ⟨_, hown.get⟩
        · exact ⟨cs, set_get' _ _ _⟩
      obtain ⟨cs, hg2⟩ := hg2
      have hxx : Ext G H2 ∧ WF H2 := by
        rcases hH2 with rfl | ⟨cs, rfl⟩
        · exact ⟨hext, hwf'⟩
        · exact ⟨hext.set hid _, hwf'.set hown.get _⟩
      have hhi := x_slc_hi (H := H2) (n := l.length) (i := i) hg2 (by omega)
      simp only [s_skip, s_region, s_draw, s_seq, s_cond, s_block, s_exit, s_scope, s_ret, s_nil, s_cons, s_done, s_op, s_fork, s_kops, s_ktree, s_kseq_n, s_kseq_r, s_kseq_e, s_kblock_n, s_kblock_r, s_kblock_e, s_kscope_n, s_kscope_r, s_kscope_e, s_kcond_t, s_kcond_f, s_ex, s_call, s_callv, s_guard, s_kguard_t, s_kguard_f, s_kexec, s_kres, s_kcall, s_kcallv, s_kret, s_put, s_putn, s_get, s_evs, s_evk, s_evnil, s_evcons, s_evC, s_g, s_gb, s_gu, s_kround_n, s_kround_r, s_kround_e, s_kloop_n, s_kloop_r, s_kloop_e, x_mov, x_konst, x_pick, x_nilck, x_add, x_sub, x_lss, x_leq, x_gtr, x_geq, x_eql, x_neq, x_not, x_fa, x_ext, x_mkfn, if_true, if_false, decide_true, decide_false, Bool.not_true, Bool.not_false, Bool.true_beq, Bool.false_beq, beq_true, beq_false, Int.reduceEq, Int.reduceLT, Int.reduceLE, Int.reduceGT, Int.reduceGE, reduceCtorEq, Nat.reduceEqDiff, s_kendr, s_kendn, s_kfin, s_resnil, s_rescons, s_rest, s_resca, s_resV1, s_resV0, s_resV2, s_ffrom, s_fbits, s_kffrom, s_kfbits, x_slen, List.getElem?_cons_zero, List.getElem?_cons_succ, Option.map_some, hlen, hlt', hlo, hcl2, hhi]
      exact ⟨hxx.1, hxx.2, fun H'' => by rw [show keepN d l = i - 0 by omega]; rfl⟩
end Go.Proofs.YtbadbkdpnbacnaaDoor.Fw

/- What functions of the program answer: whether inserts are in place. No condition. -/
namespace Go.Proofs.YtbadbkdpnbacnaaDoor.Fw
open Go
set_option linter.unusedSimpArgs false
set_option linter.unusedVariables false

theorem part_calls {s x : V} {H : Heap} {ks : List KeyA} {l : List AttrA} (hs : Sch H s ks) (hx : SL H x 5 (l.map AttrA.cells)) (hl : l.length ≤ big) (b : Bool) :
    SCalls PP 32 [s, x, .bool b] H fun r H' => Ext H H' ∧ WF H' ∧ ∀ H'', exec .len [r] H'' = some (.int .i64 (keepN (outA ks b) l), H'') := by
  refine SCalls.go c32 (by simp [fn32]) fun hw => ?_
  have hso : s.one = true := by obtain ⟨p, sl, mid, rfl, _⟩ := hs.is; rfl
  have hsc : s.cells = [s] := by obtain ⟨p, sl, mid, rfl, _⟩ := hs.is; rfl
  have hb1 : exec .box [s] H = some (.ptr H.next 0, H.new (.row false 1 [s])) := by
    have := x_box H s (by rw [hsc]; simp [hso])
    rw [hsc] at this; exact this
  have hx1 : Ext H (H.new (.row false 1 [s])) := (Ext.refl H).new _
  have hw1 : WF (H.new (.row false 1 [s])) := hw.new _
  have ha1 : At (H.new (.row false 1 [s])) H.next 0 [s] := ⟨Nat.lt_succ_self _, false, 1, [s], new_get _ _, by simp, fun j v hj => by rw [Nat.zero_add]; exact hj⟩
  generalize hG : H.new (.row false 1 [s]) = G1 at *
  have hb2 : exec .box [.bool b] G1 = some (.ptr G1.next 0, G1.new (.row false 1 [.bool b])) := rfl
  have hx2 : Ext G1 (G1.new (.row false 1 [.bool b])) := (Ext.refl G1).new _
  have hw2 : WF (G1.new (.row false 1 [.bool b])) := hw1.new _
  have ha2 : At (G1.new (.row false 1 [.bool b])) G1.next 0 [.bool b] := ⟨Nat.lt_succ_self _, false, 1, [.bool b], new_get _ _, by simp, fun j v hj => by rw [Nat.zero_add]; exact hj⟩
  generalize hG2 : G1.new (.row false 1 [.bool b]) = G2 at *
  have hxx := hx1.trans hx2
  simp only [fn32, enterFr, List.length, List.range, List.range.loop, List.zip, List.zipWith, s_skip, s_region, s_draw, s_seq, s_cond, s_block, s_exit, s_scope, s_ret, s_nil, s_cons, s_done, s_op, s_fork, s_kops, s_ktree, s_kseq_n, s_kseq_r, s_kseq_e, s_kblock_n, s_kblock_r, s_kblock_e, s_kscope_n, s_kscope_r, s_kscope_e, s_kcond_t, s_kcond_f, s_ex, s_call, s_callv, s_guard, s_kguard_t, s_kguard_f, s_kexec, s_kres, s_kcall, s_kcallv, s_kret, s_put, s_putn, s_get, s_evs, s_evk, s_evnil, s_evcons, s_evC, s_g, s_gb, s_gu, s_kround_n, s_kround_r, s_kround_e, s_kloop_n, s_kloop_r, s_kloop_e, x_mov, x_konst, x_pick, x_nilck, x_add, x_sub, x_lss, x_leq, x_gtr, x_geq, x_eql, x_neq, x_not, x_fa, x_ext, x_mkfn, if_true, if_false, decide_true, decide_false, Bool.not_true, Bool.not_false, Bool.true_beq, Bool.false_beq, beq_true, beq_false, Int.reduceEq, Int.reduceLT, Int.reduceLE, Int.reduceGT, Int.reduceGE, reduceCtorEq, Nat.reduceEqDiff, s_kendr, s_kendn, s_kfin, s_resnil, s_rescons, s_rest, s_resca, s_resV1, s_resV0, s_resV2, s_ffrom, s_fbits, s_kffrom, s_kfbits, x_slen, List.getElem?_cons_zero, List.getElem?_cons_succ, Option.map_some, hb1, hb2, hG, hG2]
  refine SCalls.mono (cloneA_calls (hx.ext hxx) (by rw [List.length_map]; exact hl)) ?_
  rintro r H3 ⟨hx3, hw3, hr⟩
  simp only [s_skip, s_region, s_draw, s_seq, s_cond, s_block, s_exit, s_scope, s_ret, s_nil, s_cons, s_done, s_op, s_fork, s_kops, s_ktree, s_kseq_n, s_kseq_r, s_kseq_e, s_kblock_n, s_kblock_r, s_kblock_e, s_kscope_n, s_kscope_r, s_kscope_e, s_kcond_t, s_kcond_f, s_ex, s_call, s_callv, s_guard, s_kguard_t, s_kguard_f, s_kexec, s_kres, s_kcall, s_kcallv, s_kret, s_put, s_putn, s_get, s_evs, s_evk, s_evnil, s_evcons, s_evC, s_g, s_gb, s_gu, s_kround_n, s_kround_r, s_kround_e, s_kloop_n, s_kloop_r, s_kloop_e, x_mov, x_konst, x_pick, x_nilck, x_add, x_sub, x_lss, x_leq, x_gtr, x_geq, x_eql, x_neq, x_not, x_fa, x_ext, x_mkfn, if_true, if_false, decide_true, decide_false, Bool.not_true, Bool.not_false, Bool.true_beq, Bool.false_beq, beq_true, beq_false, Int.reduceEq, Int.reduceLT, Int.reduceLE, Int.reduceGT, Int.reduceGE, reduceCtorEq, Nat.reduceEqDiff, s_kendr, s_kendn, s_kfin, s_resnil, s_rescons, s_rest, s_resca, s_resV1, s_resV0, s_resV2, s_ffrom, s_fbits, s_kffrom, s_kfbits, x_slen, List.getElem?_cons_zero, List.getElem?_cons_succ, Option.map_some, List.take_zero, List.drop_zero]
  have hdel := deleteFunc_calls (x := r) (c1 := .ptr H.next 0) (c2 := .ptr G1.next 0) (G := G2) (H := H3) (l := l) (d := outA ks b) hx3 hw3 hl (by
    rcases hr with ⟨h1, h2⟩ | ⟨id, h1, h2, h3⟩
    · exact .inl ⟨List.map_eq_nil_iff.1 h1, h2⟩
    · exact .inr ⟨id, h1, h2, h3⟩) (fun H' hH' a _ => part1_calls ((hs.ext hxx).ext hH') ((ha1.ext hx2).ext hH') (ha2.ext hH') a)
  refine SCalls.mono hdel ?_
  rintro r2 H4 ⟨g1, g2, g3⟩
  simp only [s_skip, s_region, s_draw, s_seq, s_cond, s_block, s_exit, s_scope, s_ret, s_nil, s_cons, s_done, s_op, s_fork, s_kops, s_ktree, s_kseq_n, s_kseq_r, s_kseq_e, s_kblock_n, s_kblock_r, s_kblock_e, s_kscope_n, s_kscope_r, s_kscope_e, s_kcond_t, s_kcond_f, s_ex, s_call, s_callv, s_guard, s_kguard_t, s_kguard_f, s_kexec, s_kres, s_kcall, s_kcallv, s_kret, s_put, s_putn, s_get, s_evs, s_evk, s_evnil, s_evcons, s_evC, s_g, s_gb, s_gu, s_kround_n, s_kround_r, s_kround_e, s_kloop_n, s_kloop_r, s_kloop_e, x_mov, x_konst, x_pick, x_nilck, x_add, x_sub, x_lss, x_leq, x_gtr, x_geq, x_eql, x_neq, x_not, x_fa, x_ext, x_mkfn, if_true, if_false, decide_true, decide_false, Bool.not_true, Bool.not_false, Bool.true_beq, Bool.false_beq, beq_true, beq_false, Int.reduceEq, Int.reduceLT, Int.reduceLE, Int.reduceGT, Int.reduceGE, reduceCtorEq, Nat.reduceEqDiff, s_kendr, s_kendn, s_kfin, s_resnil, s_rescons, s_rest, s_resca, s_resV1, s_resV0, s_resV2, s_ffrom, s_fbits, s_kffrom, s_kfbits, x_slen, List.getElem?_cons_zero, List.getElem?_cons_succ, Option.map_some]
  exact ⟨hxx.trans g1, g2, g3⟩

/-- Whether an op is in place. -/
def placeO (ks : List KeyA) (o : OpA) : Bool :=
  if o.kind ≠ 2 then true
  else if o.ats.length = 0 then true
  else !((decide (0 < keepN (outA ks true) o.ats) || decide (0 < nlF 0 o.rs)) && (decide (keepN (outA ks true) o.ats < o.ats.length) || decide (nlF 0 o.rs < o.rs.length)))
def placeF (ks : List KeyA) : List OpA → Bool
  | [] => true
  | o :: os => placeO ks o && placeF ks os

set_option maxRecDepth 20000 in
set_option maxHeartbeats 2000000 in
theorem inPlace_calls {s x : V} {H : Heap} {ks : List KeyA} {os : List OpA} (hs : Sch H s ks) (hx : OpsIn H x os) : SCalls PP 14 [s, x] H fun r H' => H' = H ∧ r = .bool (placeF ks os) := by
  refine SCalls.keep (R := fun r => r = .bool (placeF ks os)) (SCalls.go c14 (by simp [fn14]) fun hw => ?_)
  have hb := hx.len
  simp only [fn14, enterFr, List.length, List.range, List.range.loop, List.zip, List.zipWith, s_skip, s_region, s_draw, s_seq, s_cond, s_block, s_exit, s_scope, s_ret, s_nil, s_cons, s_done, s_op, s_fork, s_kops, s_ktree, s_kseq_n, s_kseq_r, s_kseq_e, s_kblock_n, s_kblock_r, s_kblock_e, s_kscope_n, s_kscope_r, s_kscope_e, s_kcond_t, s_kcond_f, s_ex, s_call, s_callv, s_guard, s_kguard_t, s_kguard_f, s_kexec, s_kres, s_kcall, s_kcallv, s_kret, s_put, s_putn, s_get, s_evs, s_evk, s_evnil, s_evcons, s_evC, s_g, s_gb, s_gu, s_kround_n, s_kround_r, s_kround_e, s_kloop_n, s_kloop_r, s_kloop_e, x_mov, x_konst, x_pick, x_nilck, x_add, x_sub, x_lss, x_leq, x_gtr, x_geq, x_eql, x_neq, x_not, x_fa, x_ext, x_mkfn, if_true, if_false, decide_true, decide_false, Bool.not_true, Bool.not_false, Bool.true_beq, Bool.false_beq, beq_true, beq_false, Int.reduceEq, Int.reduceLT, Int.reduceLE, Int.reduceGT, Int.reduceGE, reduceCtorEq, Nat.reduceEqDiff, s_kendr, s_kendn, s_kfin, s_resnil, s_rescons, s_rest, s_resca, s_resV1, s_resV0, s_resV2, s_ffrom, s_fbits, s_kffrom, s_kfbits, x_slen, List.getElem?_cons_zero, List.getElem?_cons_succ, Option.map_some, hx.sl.len]
  refine wp_range SCalls.scMono (by simp only [List.length_map]; unfold big at hb; omega) (fun _ : Unit => [(9, x), (0, s)]) (fun k _ H' => placeF ks (os.drop k) = placeF ks os ∧ Ext H H' ∧ WF H') () ⟨rfl, Ext.refl H, hw⟩
    (.cons rfl (.cons rfl (.cons rfl (.cons rfl .nil)))) (by decide) (fun s => ⟨rfl, rfl, rfl⟩) ?_ ?_
  · rintro k _ H' hk ⟨hacc, hext, hwf⟩
    rw [List.length_map] at hk
    simp only [s_seq, s_region]
    refine wp_elem hx.sl hext hwf (k := k) (e := os[k].cells) (by simp [hk]) rfl rfl rfl rfl (by decide) fun q id o H2 hx2 hw2 ha2 _ => ?_
    have hin := (hx.ins _ (List.getElem_mem hk)).ext hx2
    have l0 := ha2.ld (j := 0) (v := .int .u8 os[k].kind) rfl 1
    have l2 := ha2.ld (j := 2) (v := os[k].runes) rfl 1
    have l3 := ha2.ld (j := 3) (v := os[k].set) rfl 1
    have n3 : ∀ H, exec .len [os[k].set] H = some (.int .i64 os[k].ats.length, H) := fun H => by have := hin.set.len (H' := H); rwa [List.length_map] at this
    have n2 : ∀ H, exec .len [os[k].runes] H = some (.int .i64 os[k].rs.length, H) := fun H => by have := hin.runes.len (H' := H); rwa [List.length_map] at this
    rw [List.drop_eq_getElem_cons hk] at hacc
    simp only [placeF] at hacc
    have stay : placeO ks os[k] = true → placeF ks (os.drop (k + 1)) = placeF ks os := fun h => by rw [h, Bool.true_and] at hacc; exact hacc
    have stop : placeO ks os[k] = false → false = placeF ks os := fun h => by rw [h, Bool.false_and] at hacc; exact hacc
    by_cases k2 : os[k].kind = 2
    · by_cases a0 : (os[k].ats.length : Int) = 0
      · have a0' : os[k].ats.length = 0 := by omega
        simp only [s_skip, s_region, s_draw, s_seq, s_cond, s_block, s_exit, s_scope, s_ret, s_nil, s_cons, s_done, s_op, s_fork, s_kops, s_ktree, s_kseq_n, s_kseq_r, s_kseq_e, s_kblock_n, s_kblock_r, s_kblock_e, s_kscope_n, s_kscope_r, s_kscope_e, s_kcond_t, s_kcond_f, s_ex, s_call, s_callv, s_guard, s_kguard_t, s_kguard_f, s_kexec, s_kres, s_kcall, s_kcallv, s_kret, s_put, s_putn, s_get, s_evs, s_evk, s_evnil, s_evcons, s_evC, s_g, s_gb, s_gu, s_kround_n, s_kround_r, s_kround_e, s_kloop_n, s_kloop_r, s_kloop_e, x_mov, x_konst, x_pick, x_nilck, x_add, x_sub, x_lss, x_leq, x_gtr, x_geq, x_eql, x_neq, x_not, x_fa, x_ext, x_mkfn, if_true, if_false, decide_true, decide_false, Bool.not_true, Bool.not_false, Bool.true_beq, Bool.false_beq, beq_true, beq_false, Int.reduceEq, Int.reduceLT, Int.reduceLE, Int.reduceGT, Int.reduceGE, reduceCtorEq, Nat.reduceEqDiff, s_kendr, s_kendn, s_kfin, s_resnil, s_rescons, s_rest, s_resca, s_resV1, s_resV0, s_resV2, s_ffrom, s_fbits, s_kffrom, s_kfbits, x_slen, List.getElem?_cons_zero, List.getElem?_cons_succ, Option.map_some, l0, l3, n3, k2, a0, Bool.false_eq_true]
        exact ⟨(), ⟨stay (by simp [placeO, a0']), hx2, hw2⟩, .cons rfl (.cons rfl (.cons rfl (.cons rfl .nil)))⟩
      · have a0' : ¬ os[k].ats.length = 0 := by omega
        have hP : placeO ks os[k] = !((decide (0 < keepN (outA ks true) os[k].ats) || decide (0 < nlF 0 os[k].rs)) && (decide (keepN (outA ks true) os[k].ats < os[k].ats.length) || decide (nlF 0 os[k].rs < os[k].rs.length))) := by
          unfold placeO; rw [if_neg (by simp [k2]), if_neg a0']
        have tail : ∀ (H3 : Heap), Ext H H3 → WF H3 → Ext H2 H3 → True := fun _ _ _ _ => trivial
        simp only [s_skip, s_region, s_draw, s_seq, s_cond, s_block, s_exit, s_scope, s_ret, s_nil, s_cons, s_done, s_op, s_fork, s_kops, s_ktree, s_kseq_n, s_kseq_r, s_kseq_e, s_kblock_n, s_kblock_r, s_kblock_e, s_kscope_n, s_kscope_r, s_kscope_e, s_kcond_t, s_kcond_f, s_ex, s_call, s_callv, s_guard, s_kguard_t, s_kguard_f, s_kexec, s_kres, s_kcall, s_kcallv, s_kret, s_put, s_putn, s_get, s_evs, s_evk, s_evnil, s_evcons, s_evC, s_g, s_gb, s_gu, s_kround_n, s_kround_r, s_kround_e, s_kloop_n, s_kloop_r, s_kloop_e, x_mov, x_konst, x_pick, x_nilck, x_add, x_sub, x_lss, x_leq, x_gtr, x_geq, x_eql, x_neq, x_not, x_fa, x_ext, x_mkfn, if_true, if_false, decide_true, decide_false, Bool.not_true, Bool.not_false, Bool.true_beq, Bool.false_beq, beq_true, beq_false, Int.reduceEq, Int.reduceLT, Int.reduceLE, Int.reduceGT, Int.reduceGE, reduceCtorEq, Nat.reduceEqDiff, s_kendr, s_kendn, s_kfin, s_resnil, s_rescons, s_rest, s_resca, s_resV1, s_resV0, s_resV2, s_ffrom, s_fbits, s_kffrom, s_kfbits, x_slen, List.getElem?_cons_zero, List.getElem?_cons_succ, Option.map_some, l0, l2, l3, n3, k2, a0, Bool.false_eq_true]
        constructor
        · refine SCalls.mono (part_calls (hs.ext hx2) hin.set hin.al true) ?_
          rintro r H3 ⟨g1, g2, g3⟩
          have hin3 := hin.ext g1
          have l23 := (ha2.ext g1).ld (j := 2) (v := os[k].runes) rfl 1
          have l33 := (ha2.ext g1).ld (j := 3) (v := os[k].set) rfl 1
          simp only [s_skip, s_region, s_draw, s_seq, s_cond, s_block, s_exit, s_scope, s_ret, s_nil, s_cons, s_done, s_op, s_fork, s_kops, s_ktree, s_kseq_n, s_kseq_r, s_kseq_e, s_kblock_n, s_kblock_r, s_kblock_e, s_kscope_n, s_kscope_r, s_kscope_e, s_kcond_t, s_kcond_f, s_ex, s_call, s_callv, s_guard, s_kguard_t, s_kguard_f, s_kexec, s_kres, s_kcall, s_kcallv, s_kret, s_put, s_putn, s_get, s_evs, s_evk, s_evnil, s_evcons, s_evC, s_g, s_gb, s_gu, s_kround_n, s_kround_r, s_kround_e, s_kloop_n, s_kloop_r, s_kloop_e, x_mov, x_konst, x_pick, x_nilck, x_add, x_sub, x_lss, x_leq, x_gtr, x_geq, x_eql, x_neq, x_not, x_fa, x_ext, x_mkfn, if_true, if_false, decide_true, decide_false, Bool.not_true, Bool.not_false, Bool.true_beq, Bool.false_beq, beq_true, beq_false, Int.reduceEq, Int.reduceLT, Int.reduceLE, Int.reduceGT, Int.reduceGE, reduceCtorEq, Nat.reduceEqDiff, s_kendr, s_kendn, s_kfin, s_resnil, s_rescons, s_rest, s_resca, s_resV1, s_resV0, s_resV2, s_ffrom, s_fbits, s_kffrom, s_kfbits, x_slen, List.getElem?_cons_zero, List.getElem?_cons_succ, Option.map_some, g3, l23]
          refine SCalls.mono (newlines_calls hin3.runes hin.rl) ?_
          rintro r4 H4 ⟨rfl, rfl⟩
          generalize keepN (outA ks true) os[k].ats = kn at *
          generalize nlF 0 os[k].rs = nl at *
          by_cases p1 : (kn : Int) > 0 <;> by_cases p2 : nl > 0 <;> by_cases p3 : (kn : Int) < (os[k].ats.length : Int) <;> by_cases p4 : nl < (os[k].rs.length : Int)
          all_goals
            simp only [s_skip, s_region, s_draw, s_seq, s_cond, s_block, s_exit, s_scope, s_ret, s_nil, s_cons, s_done, s_op, s_fork, s_kops, s_ktree, s_kseq_n, s_kseq_r, s_kseq_e, s_kblock_n, s_kblock_r, s_kblock_e, s_kscope_n, s_kscope_r, s_kscope_e, s_kcond_t, s_kcond_f, s_ex, s_call, s_callv, s_guard, s_kguard_t, s_kguard_f, s_kexec, s_kres, s_kcall, s_kcallv, s_kret, s_put, s_putn, s_get, s_evs, s_evk, s_evnil, s_evcons, s_evC, s_g, s_gb, s_gu, s_kround_n, s_kround_r, s_kround_e, s_kloop_n, s_kloop_r, s_kloop_e, x_mov, x_konst, x_pick, x_nilck, x_add, x_sub, x_lss, x_leq, x_gtr, x_geq, x_eql, x_neq, x_not, x_fa, x_ext, x_mkfn, if_true, if_false, decide_true, decide_false, Bool.not_true, Bool.not_false, Bool.true_beq, Bool.false_beq, beq_true, beq_false, Int.reduceEq, Int.reduceLT, Int.reduceLE, Int.reduceGT, Int.reduceGE, reduceCtorEq, Nat.reduceEqDiff, s_kendr, s_kendn, s_kfin, s_resnil, s_rescons, s_rest, s_resca, s_resV1, s_resV0, s_resV2, s_ffrom, s_fbits, s_kffrom, s_kfbits, x_slen, List.getElem?_cons_zero, List.getElem?_cons_succ, Option.map_some, p1, p2, p3, p4, l33, l23, n3, n2, Bool.false_eq_true]
            first
              | exact ⟨(), ⟨stay (by rw [hP]; simp; omega), hx2.trans g1, g2⟩, .cons rfl (.cons rfl (.cons rfl (.cons rfl .nil)))⟩
              | exact ⟨hx2.trans g1, congrArg V.bool (stop (by rw [hP]; simp; omega)), rfl⟩
        · refine SCalls.mono (part_calls (hs.ext hx2) hin.set hin.al true) ?_
          rintro r H3 ⟨g1, g2, g3⟩
          have hin3 := hin.ext g1
          have l23 := (ha2.ext g1).ld (j := 2) (v := os[k].runes) rfl 1
          have l33 := (ha2.ext g1).ld (j := 3) (v := os[k].set) rfl 1
          simp only [s_skip, s_region, s_draw, s_seq, s_cond, s_block, s_exit, s_scope, s_ret, s_nil, s_cons, s_done, s_op, s_fork, s_kops, s_ktree, s_kseq_n, s_kseq_r, s_kseq_e, s_kblock_n, s_kblock_r, s_kblock_e, s_kscope_n, s_kscope_r, s_kscope_e, s_kcond_t, s_kcond_f, s_ex, s_call, s_callv, s_guard, s_kguard_t, s_kguard_f, s_kexec, s_kres, s_kcall, s_kcallv, s_kret, s_put, s_putn, s_get, s_evs, s_evk, s_evnil, s_evcons, s_evC, s_g, s_gb, s_gu, s_kround_n, s_kround_r, s_kround_e, s_kloop_n, s_kloop_r, s_kloop_e, x_mov, x_konst, x_pick, x_nilck, x_add, x_sub, x_lss, x_leq, x_gtr, x_geq, x_eql, x_neq, x_not, x_fa, x_ext, x_mkfn, if_true, if_false, decide_true, decide_false, Bool.not_true, Bool.not_false, Bool.true_beq, Bool.false_beq, beq_true, beq_false, Int.reduceEq, Int.reduceLT, Int.reduceLE, Int.reduceGT, Int.reduceGE, reduceCtorEq, Nat.reduceEqDiff, s_kendr, s_kendn, s_kfin, s_resnil, s_rescons, s_rest, s_resca, s_resV1, s_resV0, s_resV2, s_ffrom, s_fbits, s_kffrom, s_kfbits, x_slen, List.getElem?_cons_zero, List.getElem?_cons_succ, Option.map_some, g3, l23]
          refine SCalls.mono (newlines_calls hin3.runes hin.rl) ?_
          rintro r4 H4 ⟨rfl, rfl⟩
          generalize keepN (outA ks true) os[k].ats = kn at *
          generalize nlF 0 os[k].rs = nl at *
          by_cases p1 : (kn : Int) > 0 <;> by_cases p2 : nl > 0 <;> by_cases p3 : (kn : Int) < (os[k].ats.length : Int) <;> by_cases p4 : nl < (os[k].rs.length : Int)
          all_goals
            simp only [s_skip, s_region, s_draw, s_seq, s_cond, s_block, s_exit, s_scope, s_ret, s_nil, s_cons, s_done, s_op, s_fork, s_kops, s_ktree, s_kseq_n, s_kseq_r, s_kseq_e, s_kblock_n, s_kblock_r, s_kblock_e, s_kscope_n, s_kscope_r, s_kscope_e, s_kcond_t, s_kcond_f, s_ex, s_call, s_callv, s_guard, s_kguard_t, s_kguard_f, s_kexec, s_kres, s_kcall, s_kcallv, s_kret, s_put, s_putn, s_get, s_evs, s_evk, s_evnil, s_evcons, s_evC, s_g, s_gb, s_gu, s_kround_n, s_kround_r, s_kround_e, s_kloop_n, s_kloop_r, s_kloop_e, x_mov, x_konst, x_pick, x_nilck, x_add, x_sub, x_lss, x_leq, x_gtr, x_geq, x_eql, x_neq, x_not, x_fa, x_ext, x_mkfn, if_true, if_false, decide_true, decide_false, Bool.not_true, Bool.not_false, Bool.true_beq, Bool.false_beq, beq_true, beq_false, Int.reduceEq, Int.reduceLT, Int.reduceLE, Int.reduceGT, Int.reduceGE, reduceCtorEq, Nat.reduceEqDiff, s_kendr, s_kendn, s_kfin, s_resnil, s_rescons, s_rest, s_resca, s_resV1, s_resV0, s_resV2, s_ffrom, s_fbits, s_kffrom, s_kfbits, x_slen, List.getElem?_cons_zero, List.getElem?_cons_succ, Option.map_some, p1, p2, p3, p4, l33, l23, n3, n2, Bool.false_eq_true]
            first
              | exact ⟨(), ⟨stay (by rw [hP]; simp; omega), hx2.trans g1, g2⟩, .cons rfl (.cons rfl (.cons rfl (.cons rfl .nil)))⟩
              | exact ⟨hx2.trans g1, congrArg V.bool (stop (by rw [hP]; simp; omega)), rfl⟩
    · simp only [s_skip, s_region, s_draw, s_seq, s_cond, s_block, s_exit, s_scope, s_ret, s_nil, s_cons, s_done, s_op, s_fork, s_kops, s_ktree, s_kseq_n, s_kseq_r, s_kseq_e, s_kblock_n, s_kblock_r, s_kblock_e, s_kscope_n, s_kscope_r, s_kscope_e, s_kcond_t, s_kcond_f, s_ex, s_call, s_callv, s_guard, s_kguard_t, s_kguard_f, s_kexec, s_kres, s_kcall, s_kcallv, s_kret, s_put, s_putn, s_get, s_evs, s_evk, s_evnil, s_evcons, s_evC, s_g, s_gb, s_gu, s_kround_n, s_kround_r, s_kround_e, s_kloop_n, s_kloop_r, s_kloop_e, x_mov, x_konst, x_pick, x_nilck, x_add, x_sub, x_lss, x_leq, x_gtr, x_geq, x_eql, x_neq, x_not, x_fa, x_ext, x_mkfn, if_true, if_false, decide_true, decide_false, Bool.not_true, Bool.not_false, Bool.true_beq, Bool.false_beq, beq_true, beq_false, Int.reduceEq, Int.reduceLT, Int.reduceLE, Int.reduceGT, Int.reduceGE, reduceCtorEq, Nat.reduceEqDiff, s_kendr, s_kendn, s_kfin, s_resnil, s_rescons, s_rest, s_resca, s_resV1, s_resV0, s_resV2, s_ffrom, s_fbits, s_kffrom, s_kfbits, x_slen, List.getElem?_cons_zero, List.getElem?_cons_succ, Option.map_some, l0, k2, Bool.false_eq_true]
      exact ⟨(), ⟨stay (by simp [placeO, k2]), hx2, hw2⟩, .cons rfl (.cons rfl (.cons rfl (.cons rfl .nil)))⟩
  · rintro _ H' ⟨hacc, hext, hwf⟩
    simp only [s_skip, s_region, s_draw, s_seq, s_cond, s_block, s_exit, s_scope, s_ret, s_nil, s_cons, s_done, s_op, s_fork, s_kops, s_ktree, s_kseq_n, s_kseq_r, s_kseq_e, s_kblock_n, s_kblock_r, s_kblock_e, s_kscope_n, s_kscope_r, s_kscope_e, s_kcond_t, s_kcond_f, s_ex, s_call, s_callv, s_guard, s_kguard_t, s_kguard_f, s_kexec, s_kres, s_kcall, s_kcallv, s_kret, s_put, s_putn, s_get, s_evs, s_evk, s_evnil, s_evcons, s_evC, s_g, s_gb, s_gu, s_kround_n, s_kround_r, s_kround_e, s_kloop_n, s_kloop_r, s_kloop_e, x_mov, x_konst, x_pick, x_nilck, x_add, x_sub, x_lss, x_leq, x_gtr, x_geq, x_eql, x_neq, x_not, x_fa, x_ext, x_mkfn, if_true, if_false, decide_true, decide_false, Bool.not_true, Bool.not_false, Bool.true_beq, Bool.false_beq, beq_true, beq_false, Int.reduceEq, Int.reduceLT, Int.reduceLE, Int.reduceGT, Int.reduceGE, reduceCtorEq, Nat.reduceEqDiff, s_kendr, s_kendn, s_kfin, s_resnil, s_rescons, s_rest, s_resca, s_resV1, s_resV0, s_resV2, s_ffrom, s_fbits, s_kffrom, s_kfbits, x_slen, List.getElem?_cons_zero, List.getElem?_cons_succ, Option.map_some]
    rw [List.length_map, List.drop_length] at hacc
    exact ⟨hext, congrArg V.bool hacc, rfl⟩
end Go.Proofs.YtbadbkdpnbacnaaDoor.Fw

/- What functions of the program answer: sizes (that they end, and leave all as it was). No condition. -/
namespace Go.Proofs.YtbadbkdpnbacnaaDoor.Fw
open Go
set_option linter.unusedSimpArgs false
set_option linter.unusedVariables false

set_option maxRecDepth 20000 in
set_option maxHeartbeats 2000000 in
theorem refSize_calls {x : V} {H : Heap} {os : List OpA} (hx : OpsIn H x os) : SCalls PP 23 [x] H fun r H' => H' = H ∧ ∃ n, r = .int .i64 n := by
  refine SCalls.go c23 (by simp [fn23]) fun hw => ?_
  have hb := hx.len
  unfold big at hb
  simp only [fn23, enterFr, List.length, List.range, List.range.loop, List.zip, List.zipWith, s_skip, s_region, s_draw, s_seq, s_cond, s_block, s_exit, s_scope, s_ret, s_nil, s_cons, s_done, s_op, s_fork, s_kops, s_ktree, s_kseq_n, s_kseq_r, s_kseq_e, s_kblock_n, s_kblock_r, s_kblock_e, s_kscope_n, s_kscope_r, s_kscope_e, s_kcond_t, s_kcond_f, s_ex, s_call, s_callv, s_guard, s_kguard_t, s_kguard_f, s_kexec, s_kres, s_kcall, s_kcallv, s_kret, s_put, s_putn, s_get, s_evs, s_evk, s_evnil, s_evcons, s_evC, s_g, s_gb, s_gu, s_kround_n, s_kround_r, s_kround_e, s_kloop_n, s_kloop_r, s_kloop_e, x_mov, x_konst, x_pick, x_nilck, x_add, x_sub, x_lss, x_leq, x_gtr, x_geq, x_eql, x_neq, x_not, x_fa, x_ext, x_mkfn, if_true, if_false, decide_true, decide_false, Bool.not_true, Bool.not_false, Bool.true_beq, Bool.false_beq, beq_true, beq_false, Int.reduceEq, Int.reduceLT, Int.reduceLE, Int.reduceGT, Int.reduceGE, reduceCtorEq, Nat.reduceEqDiff, s_kendr, s_kendn, s_kfin, s_resnil, s_rescons, s_rest, s_resca, s_resV1, s_resV0, s_resV2, s_ffrom, s_fbits, s_kffrom, s_kfbits, x_slen, List.getElem?_cons_zero, List.getElem?_cons_succ, Option.map_some]
  refine wp_loopI (fun m fr H' => ∃ (k : Nat) (n : Int), k ≤ os.length ∧ m = os.length - k ∧ H' = H ∧ FrSub [(3, .int .i64 n), (4, .int .i64 k), (0, x)] fr) os.length ⟨0, 0, Nat.zero_le _, rfl, rfl, .cons rfl (.cons rfl (.cons rfl .nil))⟩ ?_
  rintro m fr H' ⟨k, n, hk, rfl, rfl, hsub⟩
  refine ⟨_, hsub, ?_⟩
  have hlen : exec .len [x] H' = some (.int .i64 os.length, H') := by have := hx.sl.len (H' := H'); rwa [List.length_map] at this
  by_cases hlt : k < os.length
  · have hlt' : (k : Int) < (os.length : Int) := by omega
    have hwk : IntKind.i64.wrap ((k : Int) + 1) = ((k + 1 : Nat) : Int) := by rw [wrap_i64 (by omega) (by omega)]; omega
    obtain ⟨id, o, hia, hat⟩ := hx.sl.ia (H' := H') (i := k) (e := os[k].cells) (by simp [hlt]) .i64
    have hin := hx.ins _ (List.getElem_mem hlt)
    have l2 := hat.ld (j := 2) (v := os[k].runes) rfl 1
    have l3 := hat.ld (j := 3) (v := os[k].set) rfl 1
    have l4 := hat.ld (j := 4) (v := os[k].patch) rfl 1
    have n2 : exec .len [os[k].runes] H' = some (.int .i64 os[k].rs.length, H') := by have := hin.runes.len (H' := H'); rwa [List.length_map] at this
    have n3 : exec .len [os[k].set] H' = some (.int .i64 os[k].ats.length, H') := by have := hin.set.len (H' := H'); rwa [List.length_map] at this
    have n4 : exec .len [os[k].patch] H' = some (.int .i64 os[k].chs.length, H') := by have := hin.patch.len (H' := H'); rwa [List.length_map] at this
    have hal := hin.al
    have hcl := hin.cl
    unfold big at hal hcl
    simp only [s_skip, s_region, s_draw, s_seq, s_cond, s_block, s_exit, s_scope, s_ret, s_nil, s_cons, s_done, s_op, s_fork, s_kops, s_ktree, s_kseq_n, s_kseq_r, s_kseq_e, s_kblock_n, s_kblock_r, s_kblock_e, s_kscope_n, s_kscope_r, s_kscope_e, s_kcond_t, s_kcond_f, s_ex, s_call, s_callv, s_guard, s_kguard_t, s_kguard_f, s_kexec, s_kres, s_kcall, s_kcallv, s_kret, s_put, s_putn, s_get, s_evs, s_evk, s_evnil, s_evcons, s_evC, s_g, s_gb, s_gu, s_kround_n, s_kround_r, s_kround_e, s_kloop_n, s_kloop_r, s_kloop_e, x_mov, x_konst, x_pick, x_nilck, x_add, x_sub, x_lss, x_leq, x_gtr, x_geq, x_eql, x_neq, x_not, x_fa, x_ext, x_mkfn, if_true, if_false, decide_true, decide_false, Bool.not_true, Bool.not_false, Bool.true_beq, Bool.false_beq, beq_true, beq_false, Int.reduceEq, Int.reduceLT, Int.reduceLE, Int.reduceGT, Int.reduceGE, reduceCtorEq, Nat.reduceEqDiff, s_kendr, s_kendn, s_kfin, s_resnil, s_rescons, s_rest, s_resca, s_resV1, s_resV0, s_resV2, s_ffrom, s_fbits, s_kffrom, s_kfbits, x_slen, List.getElem?_cons_zero, List.getElem?_cons_succ, Option.map_some, hlen, hlt', hia, l2, l3, l4, n2, n3, n4]
    refine wp_loopI (fun m fr G => ∃ (j : Nat) (n : Int), j ≤ os[k].ats.length ∧ m = os[k].ats.length - j ∧ G = H' ∧ FrSub [(3, .int .i64 n), (5, .int .i64 j), (4, .int .i64 k), (0, x)] fr) os[k].ats.length ⟨0, _, Nat.zero_le _, rfl, rfl, .cons rfl (.cons rfl (.cons rfl (.cons rfl .nil)))⟩ ?_
    rintro m fr1 G ⟨j, n1, hj, rfl, rfl, hsub1⟩
    refine ⟨_, hsub1, ?_⟩
    by_cases hjl : j < os[k].ats.length
    · have hjl' : (j : Int) < (os[k].ats.length : Int) := by omega
      have hwj : IntKind.i64.wrap ((j : Int) + 1) = ((j + 1 : Nat) : Int) := by rw [wrap_i64 (by omega) (by omega)]; omega
      obtain ⟨id2, o2, hia2, hat2⟩ := hin.set.ia (H' := G) (i := j) (e := os[k].ats[j].cells) (by simp [hjl]) .i64
      have hat2v : At G id2 (o2 + 1) os[k].ats[j].val.cells := At.tail (a := [.int .i64 os[k].ats[j].key]) hat2
      have ls := hat2v.ld (j := 3) (v := .str os[k].ats[j].val.s) rfl 1
      simp only [s_skip, s_region, s_draw, s_seq, s_cond, s_block, s_exit, s_scope, s_ret, s_nil, s_cons, s_done, s_op, s_fork, s_kops, s_ktree, s_kseq_n, s_kseq_r, s_kseq_e, s_kblock_n, s_kblock_r, s_kblock_e, s_kscope_n, s_kscope_r, s_kscope_e, s_kcond_t, s_kcond_f, s_ex, s_call, s_callv, s_guard, s_kguard_t, s_kguard_f, s_kexec, s_kres, s_kcall, s_kcallv, s_kret, s_put, s_putn, s_get, s_evs, s_evk, s_evnil, s_evcons, s_evC, s_g, s_gb, s_gu, s_kround_n, s_kround_r, s_kround_e, s_kloop_n, s_kloop_r, s_kloop_e, x_mov, x_konst, x_pick, x_nilck, x_add, x_sub, x_lss, x_leq, x_gtr, x_geq, x_eql, x_neq, x_not, x_fa, x_ext, x_mkfn, if_true, if_false, decide_true, decide_false, Bool.not_true, Bool.not_false, Bool.true_beq, Bool.false_beq, beq_true, beq_false, Int.reduceEq, Int.reduceLT, Int.reduceLE, Int.reduceGT, Int.reduceGE, reduceCtorEq, Nat.reduceEqDiff, s_kendr, s_kendn, s_kfin, s_resnil, s_rescons, s_rest, s_resca, s_resV1, s_resV0, s_resV2, s_ffrom, s_fbits, s_kffrom, s_kfbits, x_slen, List.getElem?_cons_zero, List.getElem?_cons_succ, Option.map_some, hia, l3, n3, hjl', hia2, ls, hwj]
      exact ⟨os[k].ats.length - (j + 1), by omega, j + 1, _, by omega, rfl, by trivial, .cons rfl (.cons rfl (.cons rfl (.cons rfl .nil)))⟩
    · have hjl' : ¬ (j : Int) < (os[k].ats.length : Int) := by omega
      simp only [s_skip, s_region, s_draw, s_seq, s_cond, s_block, s_exit, s_scope, s_ret, s_nil, s_cons, s_done, s_op, s_fork, s_kops, s_ktree, s_kseq_n, s_kseq_r, s_kseq_e, s_kblock_n, s_kblock_r, s_kblock_e, s_kscope_n, s_kscope_r, s_kscope_e, s_kcond_t, s_kcond_f, s_ex, s_call, s_callv, s_guard, s_kguard_t, s_kguard_f, s_kexec, s_kres, s_kcall, s_kcallv, s_kret, s_put, s_putn, s_get, s_evs, s_evk, s_evnil, s_evcons, s_evC, s_g, s_gb, s_gu, s_kround_n, s_kround_r, s_kround_e, s_kloop_n, s_kloop_r, s_kloop_e, x_mov, x_konst, x_pick, x_nilck, x_add, x_sub, x_lss, x_leq, x_gtr, x_geq, x_eql, x_neq, x_not, x_fa, x_ext, x_mkfn, if_true, if_false, decide_true, decide_false, Bool.not_true, Bool.not_false, Bool.true_beq, Bool.false_beq, beq_true, beq_false, Int.reduceEq, Int.reduceLT, Int.reduceLE, Int.reduceGT, Int.reduceGE, reduceCtorEq, Nat.reduceEqDiff, s_kendr, s_kendn, s_kfin, s_resnil, s_rescons, s_rest, s_resca, s_resV1, s_resV0, s_resV2, s_ffrom, s_fbits, s_kffrom, s_kfbits, x_slen, List.getElem?_cons_zero, List.getElem?_cons_succ, Option.map_some, hia, l3, n3, hjl', Bool.false_eq_true]
      refine wp_loopI (fun m fr G2 => ∃ (j : Nat) (n : Int), j ≤ os[k].chs.length ∧ m = os[k].chs.length - j ∧ G2 = G ∧ FrSub [(3, .int .i64 n), (6, .int .i64 j), (4, .int .i64 k), (0, x)] fr) os[k].chs.length ⟨0, n1, Nat.zero_le _, rfl, rfl, .cons rfl (.cons rfl (.cons rfl (.cons rfl .nil)))⟩ ?_
      rintro m fr2 G2 ⟨j2, n2', hj2, rfl, rfl, hsub2⟩
      refine ⟨_, hsub2, ?_⟩
      by_cases hjl2 : j2 < os[k].chs.length
      · have hjl2' : (j2 : Int) < (os[k].chs.length : Int) := by omega
        have hwj : IntKind.i64.wrap ((j2 : Int) + 1) = ((j2 + 1 : Nat) : Int) := by rw [wrap_i64 (by omega) (by omega)]; omega
        obtain ⟨id2, o2, hia2, hat2⟩ := hin.patch.ia (H' := G2) (i := j2) (e := os[k].chs[j2].cells) (by simp [hjl2]) .i64
        have hat2v : At G2 id2 (o2 + 2) os[k].chs[j2].val.cells := At.tail (a := [.int .i64 os[k].chs[j2].key, .bool os[k].chs[j2].gone]) hat2
        have ls := hat2v.ld (j := 3) (v := .str os[k].chs[j2].val.s) rfl 1
        simp only [s_skip, s_region, s_draw, s_seq, s_cond, s_block, s_exit, s_scope, s_ret, s_nil, s_cons, s_done, s_op, s_fork, s_kops, s_ktree, s_kseq_n, s_kseq_r, s_kseq_e, s_kblock_n, s_kblock_r, s_kblock_e, s_kscope_n, s_kscope_r, s_kscope_e, s_kcond_t, s_kcond_f, s_ex, s_call, s_callv, s_guard, s_kguard_t, s_kguard_f, s_kexec, s_kres, s_kcall, s_kcallv, s_kret, s_put, s_putn, s_get, s_evs, s_evk, s_evnil, s_evcons, s_evC, s_g, s_gb, s_gu, s_kround_n, s_kround_r, s_kround_e, s_kloop_n, s_kloop_r, s_kloop_e, x_mov, x_konst, x_pick, x_nilck, x_add, x_sub, x_lss, x_leq, x_gtr, x_geq, x_eql, x_neq, x_not, x_fa, x_ext, x_mkfn, if_true, if_false, decide_true, decide_false, Bool.not_true, Bool.not_false, Bool.true_beq, Bool.false_beq, beq_true, beq_false, Int.reduceEq, Int.reduceLT, Int.reduceLE, Int.reduceGT, Int.reduceGE, reduceCtorEq, Nat.reduceEqDiff, s_kendr, s_kendn, s_kfin, s_resnil, s_rescons, s_rest, s_resca, s_resV1, s_resV0, s_resV2, s_ffrom, s_fbits, s_kffrom, s_kfbits, x_slen, List.getElem?_cons_zero, List.getElem?_cons_succ, Option.map_some, hia, l4, n4, hjl2', hia2, ls, hwj]
        exact ⟨os[k].chs.length - (j2 + 1), by omega, j2 + 1, _, by omega, rfl, by trivial, .cons rfl (.cons rfl (.cons rfl (.cons rfl .nil)))⟩
      · have hjl2' : ¬ (j2 : Int) < (os[k].chs.length : Int) := by omega
        simp only [s_skip, s_region, s_draw, s_seq, s_cond, s_block, s_exit, s_scope, s_ret, s_nil, s_cons, s_done, s_op, s_fork, s_kops, s_ktree, s_kseq_n, s_kseq_r, s_kseq_e, s_kblock_n, s_kblock_r, s_kblock_e, s_kscope_n, s_kscope_r, s_kscope_e, s_kcond_t, s_kcond_f, s_ex, s_call, s_callv, s_guard, s_kguard_t, s_kguard_f, s_kexec, s_kres, s_kcall, s_kcallv, s_kret, s_put, s_putn, s_get, s_evs, s_evk, s_evnil, s_evcons, s_evC, s_g, s_gb, s_gu, s_kround_n, s_kround_r, s_kround_e, s_kloop_n, s_kloop_r, s_kloop_e, x_mov, x_konst, x_pick, x_nilck, x_add, x_sub, x_lss, x_leq, x_gtr, x_geq, x_eql, x_neq, x_not, x_fa, x_ext, x_mkfn, if_true, if_false, decide_true, decide_false, Bool.not_true, Bool.not_false, Bool.true_beq, Bool.false_beq, beq_true, beq_false, Int.reduceEq, Int.reduceLT, Int.reduceLE, Int.reduceGT, Int.reduceGE, reduceCtorEq, Nat.reduceEqDiff, s_kendr, s_kendn, s_kfin, s_resnil, s_rescons, s_rest, s_resca, s_resV1, s_resV0, s_resV2, s_ffrom, s_fbits, s_kffrom, s_kfbits, x_slen, List.getElem?_cons_zero, List.getElem?_cons_succ, Option.map_some, hia, l4, n4, hjl2', hwk, Bool.false_eq_true]
        exact ⟨os.length - (k + 1), by omega, k + 1, n2', by omega, rfl, by trivial, .cons rfl (.cons rfl (.cons rfl .nil))⟩
  · have hlt' : ¬ (k : Int) < (os.length : Int) := by omega
    simp only [s_skip, s_region, s_draw, s_seq, s_cond, s_block, s_exit, s_scope, s_ret, s_nil, s_cons, s_done, s_op, s_fork, s_kops, s_ktree, s_kseq_n, s_kseq_r, s_kseq_e, s_kblock_n, s_kblock_r, s_kblock_e, s_kscope_n, s_kscope_r, s_kscope_e, s_kcond_t, s_kcond_f, s_ex, s_call, s_callv, s_guard, s_kguard_t, s_kguard_f, s_kexec, s_kres, s_kcall, s_kcallv, s_kret, s_put, s_putn, s_get, s_evs, s_evk, s_evnil, s_evcons, s_evC, s_g, s_gb, s_gu, s_kround_n, s_kround_r, s_kround_e, s_kloop_n, s_kloop_r, s_kloop_e, x_mov, x_konst, x_pick, x_nilck, x_add, x_sub, x_lss, x_leq, x_gtr, x_geq, x_eql, x_neq, x_not, x_fa, x_ext, x_mkfn, if_true, if_false, decide_true, decide_false, Bool.not_true, Bool.not_false, Bool.true_beq, Bool.false_beq, beq_true, beq_false, Int.reduceEq, Int.reduceLT, Int.reduceLE, Int.reduceGT, Int.reduceGE, reduceCtorEq, Nat.reduceEqDiff, s_kendr, s_kendn, s_kfin, s_resnil, s_rescons, s_rest, s_resca, s_resV1, s_resV0, s_resV2, s_ffrom, s_fbits, s_kffrom, s_kfbits, x_slen, List.getElem?_cons_zero, List.getElem?_cons_succ, Option.map_some, hlen, hlt', Bool.false_eq_true]
    exact ⟨by trivial, n, by trivial⟩

set_option maxRecDepth 20000 in
/-- rubriclaw15.great over one delta. -/
theorem great1_calls {keys x y : V} {H : Heap} {os : List OpA} {ks : List (List V)} {szk : Nat} (hk : SL H keys szk ks) (hkl : ks.length ≤ big) (hx : OpsIn H x os) (hy : SL H y 1 [[x]]) : SCalls PP 7 [keys, y] H fun r H' => H' = H ∧ ∃ b, r = .bool b ∧ (b = false → ks.length ≤ 64) := by
  refine SCalls.go c7 (by simp [fn7]) fun hw => ?_
  unfold big at hkl
  have hwk : IntKind.i64.wrap ((ks.length : Int) - 64) = (ks.length : Int) - 64 := wrap_i64 (by omega) (by omega)
  by_cases h64 : (ks.length : Int) - 64 > 0
  · simp only [fn7, enterFr, List.length, List.range, List.range.loop, List.zip, List.zipWith, s_skip, s_region, s_draw, s_seq, s_cond, s_block, s_exit, s_scope, s_ret, s_nil, s_cons, s_done, s_op, s_fork, s_kops, s_ktree, s_kseq_n, s_kseq_r, s_kseq_e, s_kblock_n, s_kblock_r, s_kblock_e, s_kscope_n, s_kscope_r, s_kscope_e, s_kcond_t, s_kcond_f, s_ex, s_call, s_callv, s_guard, s_kguard_t, s_kguard_f, s_kexec, s_kres, s_kcall, s_kcallv, s_kret, s_put, s_putn, s_get, s_evs, s_evk, s_evnil, s_evcons, s_evC, s_g, s_gb, s_gu, s_kround_n, s_kround_r, s_kround_e, s_kloop_n, s_kloop_r, s_kloop_e, x_mov, x_konst, x_pick, x_nilck, x_add, x_sub, x_lss, x_leq, x_gtr, x_geq, x_eql, x_neq, x_not, x_fa, x_ext, x_mkfn, if_true, if_false, decide_true, decide_false, Bool.not_true, Bool.not_false, Bool.true_beq, Bool.false_beq, beq_true, beq_false, Int.reduceEq, Int.reduceLT, Int.reduceLE, Int.reduceGT, Int.reduceGE, reduceCtorEq, Nat.reduceEqDiff, s_kendr, s_kendn, s_kfin, s_resnil, s_rescons, s_rest, s_resca, s_resV1, s_resV0, s_resV2, s_ffrom, s_fbits, s_kffrom, s_kfbits, x_slen, List.getElem?_cons_zero, List.getElem?_cons_succ, Option.map_some, hk.len, hwk, h64]
    exact ⟨by trivial, true, by trivial, by simp⟩
  · simp only [fn7, enterFr, List.length, List.range, List.range.loop, List.zip, List.zipWith, s_skip, s_region, s_draw, s_seq, s_cond, s_block, s_exit, s_scope, s_ret, s_nil, s_cons, s_done, s_op, s_fork, s_kops, s_ktree, s_kseq_n, s_kseq_r, s_kseq_e, s_kblock_n, s_kblock_r, s_kblock_e, s_kscope_n, s_kscope_r, s_kscope_e, s_kcond_t, s_kcond_f, s_ex, s_call, s_callv, s_guard, s_kguard_t, s_kguard_f, s_kexec, s_kres, s_kcall, s_kcallv, s_kret, s_put, s_putn, s_get, s_evs, s_evk, s_evnil, s_evcons, s_evC, s_g, s_gb, s_gu, s_kround_n, s_kround_r, s_kround_e, s_kloop_n, s_kloop_r, s_kloop_e, x_mov, x_konst, x_pick, x_nilck, x_add, x_sub, x_lss, x_leq, x_gtr, x_geq, x_eql, x_neq, x_not, x_fa, x_ext, x_mkfn, if_true, if_false, decide_true, decide_false, Bool.not_true, Bool.not_false, Bool.true_beq, Bool.false_beq, beq_true, beq_false, Int.reduceEq, Int.reduceLT, Int.reduceLE, Int.reduceGT, Int.reduceGE, reduceCtorEq, Nat.reduceEqDiff, s_kendr, s_kendn, s_kfin, s_resnil, s_rescons, s_rest, s_resca, s_resV1, s_resV0, s_resV2, s_ffrom, s_fbits, s_kffrom, s_kfbits, x_slen, List.getElem?_cons_zero, List.getElem?_cons_succ, Option.map_some, hk.len, hwk, h64, Bool.false_eq_true, hy.len]
    refine wp_range SCalls.scMono (len := 1) (by omega) (fun n : Int => [(1, y), (5, .int .i64 n)]) (fun k n H' => H' = H) 0 rfl
      (.cons rfl (.cons rfl (.cons rfl (.cons rfl .nil)))) (by decide) (fun s => ⟨rfl, rfl, rfl⟩) ?_ ?_
    · rintro k n H' hk1 rfl
      obtain rfl : k = 0 := by omega
      obtain ⟨id, o, hia, hat⟩ := hy.ia (H' := H') (i := 0) (e := [x]) rfl .i64
      have l0 := hat.ld (j := 0) (v := x) rfl 1
      rw [Nat.add_zero] at l0
      simp only [s_skip, s_region, s_draw, s_seq, s_cond, s_block, s_exit, s_scope, s_ret, s_nil, s_cons, s_done, s_op, s_fork, s_kops, s_ktree, s_kseq_n, s_kseq_r, s_kseq_e, s_kblock_n, s_kblock_r, s_kblock_e, s_kscope_n, s_kscope_r, s_kscope_e, s_kcond_t, s_kcond_f, s_ex, s_call, s_callv, s_guard, s_kguard_t, s_kguard_f, s_kexec, s_kres, s_kcall, s_kcallv, s_kret, s_put, s_putn, s_get, s_evs, s_evk, s_evnil, s_evcons, s_evC, s_g, s_gb, s_gu, s_kround_n, s_kround_r, s_kround_e, s_kloop_n, s_kloop_r, s_kloop_e, x_mov, x_konst, x_pick, x_nilck, x_add, x_sub, x_lss, x_leq, x_gtr, x_geq, x_eql, x_neq, x_not, x_fa, x_ext, x_mkfn, if_true, if_false, decide_true, decide_false, Bool.not_true, Bool.not_false, Bool.true_beq, Bool.false_beq, beq_true, beq_false, Int.reduceEq, Int.reduceLT, Int.reduceLE, Int.reduceGT, Int.reduceGE, reduceCtorEq, Nat.reduceEqDiff, s_kendr, s_kendn, s_kfin, s_resnil, s_rescons, s_rest, s_resca, s_resV1, s_resV0, s_resV2, s_ffrom, s_fbits, s_kffrom, s_kfbits, x_slen, List.getElem?_cons_zero, List.getElem?_cons_succ, Option.map_some, hia, l0]
      refine SCalls.mono (refSize_calls hx) ?_
      rintro r H2 ⟨rfl, m, rfl⟩
      simp only [s_skip, s_region, s_draw, s_seq, s_cond, s_block, s_exit, s_scope, s_ret, s_nil, s_cons, s_done, s_op, s_fork, s_kops, s_ktree, s_kseq_n, s_kseq_r, s_kseq_e, s_kblock_n, s_kblock_r, s_kblock_e, s_kscope_n, s_kscope_r, s_kscope_e, s_kcond_t, s_kcond_f, s_ex, s_call, s_callv, s_guard, s_kguard_t, s_kguard_f, s_kexec, s_kres, s_kcall, s_kcallv, s_kret, s_put, s_putn, s_get, s_evs, s_evk, s_evnil, s_evcons, s_evC, s_g, s_gb, s_gu, s_kround_n, s_kround_r, s_kround_e, s_kloop_n, s_kloop_r, s_kloop_e, x_mov, x_konst, x_pick, x_nilck, x_add, x_sub, x_lss, x_leq, x_gtr, x_geq, x_eql, x_neq, x_not, x_fa, x_ext, x_mkfn, if_true, if_false, decide_true, decide_false, Bool.not_true, Bool.not_false, Bool.true_beq, Bool.false_beq, beq_true, beq_false, Int.reduceEq, Int.reduceLT, Int.reduceLE, Int.reduceGT, Int.reduceGE, reduceCtorEq, Nat.reduceEqDiff, s_kendr, s_kendn, s_kfin, s_resnil, s_rescons, s_rest, s_resca, s_resV1, s_resV0, s_resV2, s_ffrom, s_fbits, s_kffrom, s_kfbits, x_slen, List.getElem?_cons_zero, List.getElem?_cons_succ, Option.map_some]
      exact ⟨_, by trivial, .cons rfl (.cons rfl (.cons rfl (.cons rfl .nil)))⟩
    · rintro n H' rfl
      simp only [s_skip, s_region, s_draw, s_seq, s_cond, s_block, s_exit, s_scope, s_ret, s_nil, s_cons, s_done, s_op, s_fork, s_kops, s_ktree, s_kseq_n, s_kseq_r, s_kseq_e, s_kblock_n, s_kblock_r, s_kblock_e, s_kscope_n, s_kscope_r, s_kscope_e, s_kcond_t, s_kcond_f, s_ex, s_call, s_callv, s_guard, s_kguard_t, s_kguard_f, s_kexec, s_kres, s_kcall, s_kcallv, s_kret, s_put, s_putn, s_get, s_evs, s_evk, s_evnil, s_evcons, s_evC, s_g, s_gb, s_gu, s_kround_n, s_kround_r, s_kround_e, s_kloop_n, s_kloop_r, s_kloop_e, x_mov, x_konst, x_pick, x_nilck, x_add, x_sub, x_lss, x_leq, x_gtr, x_geq, x_eql, x_neq, x_not, x_fa, x_ext, x_mkfn, if_true, if_false, decide_true, decide_false, Bool.not_true, Bool.not_false, Bool.true_beq, Bool.false_beq, beq_true, beq_false, Int.reduceEq, Int.reduceLT, Int.reduceLE, Int.reduceGT, Int.reduceGE, reduceCtorEq, Nat.reduceEqDiff, s_kendr, s_kendn, s_kfin, s_resnil, s_rescons, s_rest, s_resca, s_resV1, s_resV0, s_resV2, s_ffrom, s_fbits, s_kffrom, s_kfbits, x_slen, List.getElem?_cons_zero, List.getElem?_cons_succ, Option.map_some]
      exact ⟨by trivial, _, rfl, fun _ => by omega⟩
end Go.Proofs.YtbadbkdpnbacnaaDoor.Fw

/- What functions of the program answer: keys and their schema. No condition but what slices.SortFunc leaves, which is a hypothesis here. -/
namespace Go.Proofs.YtbadbkdpnbacnaaDoor.Fw
open Go
set_option linter.unusedSimpArgs false
set_option linter.unusedVariables false

/-- slices.Clone of keys. -/
theorem cloneK_calls {x : V} {H : Heap} {es : List (List V)} (hx : SL H x 6 es) (hl : es.length ≤ big) : SCalls PP 24 [x] H fun r H' => Ext H H' ∧ WF H' ∧ ((es = [] ∧ SL H' r 6 es) ∨ ∃ id, r = .slice id 0 es.length none ∧ H.next ≤ id ∧ Own H' id 6 es) := by
  refine SCalls.go c24 (by simp [fn24]) fun hw => ?_
  unfold big at hl
  have hbs : exec (.bsl 6 0 [] []) [] H = some (.slice H.next 0 0 (some 0), H.new (.row false 6 [])) := rfl
  obtain ⟨hlen, ⟨rfl, rfl⟩ | ⟨id, off, cap, rfl, hid, hat⟩⟩ := id hx
  · have hn : exec (.eqnil 1 false) [.nils, .nils] H = some (.bool true, H) := rfl
    simp only [fn24, enterFr, List.length, List.range, List.range.loop, List.zip, List.zipWith, s_skip, s_region, s_draw, s_seq, s_cond, s_block, s_exit, s_scope, s_ret, s_nil, s_cons, s_done, s_op, s_fork, s_kops, s_ktree, s_kseq_n, s_kseq_r, s_kseq_e, s_kblock_n, s_kblock_r, s_kblock_e, s_kscope_n, s_kscope_r, s_kscope_e, s_kcond_t, s_kcond_f, s_ex, s_call, s_callv, s_guard, s_kguard_t, s_kguard_f, s_kexec, s_kres, s_kcall, s_kcallv, s_kret, s_put, s_putn, s_get, s_evs, s_evk, s_evnil, s_evcons, s_evC, s_g, s_gb, s_gu, s_kround_n, s_kround_r, s_kround_e, s_kloop_n, s_kloop_r, s_kloop_e, x_mov, x_konst, x_pick, x_nilck, x_add, x_sub, x_lss, x_leq, x_gtr, x_geq, x_eql, x_neq, x_not, x_fa, x_ext, x_mkfn, if_true, if_false, decide_true, decide_false, Bool.not_true, Bool.not_false, Bool.true_beq, Bool.false_beq, beq_true, beq_false, Int.reduceEq, Int.reduceLT, Int.reduceLE, Int.reduceGT, Int.reduceGE, reduceCtorEq, Nat.reduceEqDiff, s_kendr, s_kendn, s_kfin, s_resnil, s_rescons, s_rest, s_resca, s_resV1, s_resV0, s_resV2, s_ffrom, s_fbits, s_kffrom, s_kfbits, x_slen, List.getElem?_cons_zero, List.getElem?_cons_succ, Option.map_some, hn]
    exact ⟨Ext.refl H, hw, .inl ⟨by trivial, by simp, .inl ⟨rfl, rfl⟩⟩⟩
  · have hn : exec (.eqnil 1 false) [.slice id off es.length cap, .nils] H = some (.bool false, H) := rfl
    have hx1 : Ext H (H.new (.row false 6 [])) := (Ext.refl H).new _
    have hw1 : WF (H.new (.row false 6 [])) := hw.new _
    have hg1 := new_get H (.row false 6 [])
    have hsl1 := hx.ext hx1
    by_cases he : es = []
    · subst he
      have happ : exec (.app 6 24) [.slice H.next 0 0 (some 0), .slice id off 0 cap] (H.new (.row false 6 [])) = some (.slice H.next 0 0 (some 0), H.new (.row false 6 [])) := by
        simp only [exec, appendA, lenV, srcCells, readN]
        rfl
      simp only [fn24, enterFr, List.length, List.range, List.range.loop, List.zip, List.zipWith, s_skip, s_region, s_draw, s_seq, s_cond, s_block, s_exit, s_scope, s_ret, s_nil, s_cons, s_done, s_op, s_fork, s_kops, s_ktree, s_kseq_n, s_kseq_r, s_kseq_e, s_kblock_n, s_kblock_r, s_kblock_e, s_kscope_n, s_kscope_r, s_kscope_e, s_kcond_t, s_kcond_f, s_ex, s_call, s_callv, s_guard, s_kguard_t, s_kguard_f, s_kexec, s_kres, s_kcall, s_kcallv, s_kret, s_put, s_putn, s_get, s_evs, s_evk, s_evnil, s_evcons, s_evC, s_g, s_gb, s_gu, s_kround_n, s_kround_r, s_kround_e, s_kloop_n, s_kloop_r, s_kloop_e, x_mov, x_konst, x_pick, x_nilck, x_add, x_sub, x_lss, x_leq, x_gtr, x_geq, x_eql, x_neq, x_not, x_fa, x_ext, x_mkfn, if_true, if_false, decide_true, decide_false, Bool.not_true, Bool.not_false, Bool.true_beq, Bool.false_beq, beq_true, beq_false, Int.reduceEq, Int.reduceLT, Int.reduceLE, Int.reduceGT, Int.reduceGE, reduceCtorEq, Nat.reduceEqDiff, s_kendr, s_kendn, s_kfin, s_resnil, s_rescons, s_rest, s_resca, s_resV1, s_resV0, s_resV2, s_ffrom, s_fbits, s_kffrom, s_kfbits, x_slen, List.getElem?_cons_zero, List.getElem?_cons_succ, Option.map_some, hn, hbs, happ]
      refine ⟨.inr rfl, _, rfl, ?_⟩
      exact ⟨hx1, hw1, .inl ⟨by trivial, by simp, .inr ⟨H.next, 0, some 0, rfl, Nat.lt_succ_self _, by simp⟩⟩⟩
    · obtain ⟨s1, s2⟩ := hsl1.src he
      have hln : es.length ≠ 0 := fun h => he (List.length_eq_zero_iff.1 h)
      have happ : exec (.app 6 24) [.slice H.next 0 0 (some 0), .slice id off es.length cap] (H.new (.row false 6 [])) = some (.slice (H.new (.row false 6 [])).next 0 es.length none, (H.new (.row false 6 [])).new (.row false 6 es.flatten)) := by
        simp only [exec, appendA, s1, s2]
        rw [if_neg (by simp [flatLen fun e he => (hlen e he).1, flatAll fun e he => (hlen e he).2]), if_neg hln, if_neg (by simp; omega)]
        rw [if_neg (by omega)]
        simp [readN]
      simp only [fn24, enterFr, List.length, List.range, List.range.loop, List.zip, List.zipWith, s_skip, s_region, s_draw, s_seq, s_cond, s_block, s_exit, s_scope, s_ret, s_nil, s_cons, s_done, s_op, s_fork, s_kops, s_ktree, s_kseq_n, s_kseq_r, s_kseq_e, s_kblock_n, s_kblock_r, s_kblock_e, s_kscope_n, s_kscope_r, s_kscope_e, s_kcond_t, s_kcond_f, s_ex, s_call, s_callv, s_guard, s_kguard_t, s_kguard_f, s_kexec, s_kres, s_kcall, s_kcallv, s_kret, s_put, s_putn, s_get, s_evs, s_evk, s_evnil, s_evcons, s_evC, s_g, s_gb, s_gu, s_kround_n, s_kround_r, s_kround_e, s_kloop_n, s_kloop_r, s_kloop_e, x_mov, x_konst, x_pick, x_nilck, x_add, x_sub, x_lss, x_leq, x_gtr, x_geq, x_eql, x_neq, x_not, x_fa, x_ext, x_mkfn, if_true, if_false, decide_true, decide_false, Bool.not_true, Bool.not_false, Bool.true_beq, Bool.false_beq, beq_true, beq_false, Int.reduceEq, Int.reduceLT, Int.reduceLE, Int.reduceGT, Int.reduceGE, reduceCtorEq, Nat.reduceEqDiff, s_kendr, s_kendn, s_kfin, s_resnil, s_rescons, s_rest, s_resca, s_resV1, s_resV0, s_resV2, s_ffrom, s_fbits, s_kffrom, s_kfbits, x_slen, List.getElem?_cons_zero, List.getElem?_cons_succ, Option.map_some, hn, hbs, happ]
      exact ⟨hx1.new _, hw1.new _, .inr ⟨_, rfl, Nat.le_succ _, Nat.lt_succ_self _, new_get _ _, hlen⟩⟩

def keyMay (k : KeyA) : Bool :=
  if decide (k.id < 1) || decide (k.id > 1000) || decide (k.kind < 1) || decide (k.kind > 4) then false
  else if k.block then !k.before && decide (k.group ≥ 0) && decide (k.group ≤ 8) else decide (k.group = 0)
set_option maxRecDepth 20000 in
set_option maxHeartbeats 2000000 in
theorem keyMay_calls (k : KeyA) (H : Heap) : SCalls PP 25 [.agg k.cells] H fun r H' => H' = H ∧ r = .bool (keyMay k) := by
  refine SCalls.keep (R := fun r => r = .bool (keyMay k)) (SCalls.go c25 (by simp [fn25]) fun hw => ?_)
  obtain ⟨H2, hx2, hw2, ha2, hbx⟩ := x_boxed (Ext.refl H) hw (e := k.cells) rfl
  have l0 := ha2.ld (j := 0) (v := .int .i64 k.id) rfl 1
  have l1 := ha2.ld (j := 1) (v := .bool k.block) rfl 1
  have l2 := ha2.ld (j := 2) (v := .int .u8 k.kind) rfl 1
  have l4 := ha2.ld (j := 4) (v := .bool k.before) rfl 1
  have l5 := ha2.ld (j := 5) (v := .int .i64 k.group) rfl 1
  by_cases i1 : k.id < 1
  · simp only [fn25, enterFr, List.length, List.range, List.range.loop, List.zip, List.zipWith, s_skip, s_region, s_draw, s_seq, s_cond, s_block, s_exit, s_scope, s_ret, s_nil, s_cons, s_done, s_op, s_fork, s_kops, s_ktree, s_kseq_n, s_kseq_r, s_kseq_e, s_kblock_n, s_kblock_r, s_kblock_e, s_kscope_n, s_kscope_r, s_kscope_e, s_kcond_t, s_kcond_f, s_ex, s_call, s_callv, s_guard, s_kguard_t, s_kguard_f, s_kexec, s_kres, s_kcall, s_kcallv, s_kret, s_put, s_putn, s_get, s_evs, s_evk, s_evnil, s_evcons, s_evC, s_g, s_gb, s_gu, s_kround_n, s_kround_r, s_kround_e, s_kloop_n, s_kloop_r, s_kloop_e, x_mov, x_konst, x_pick, x_nilck, x_add, x_sub, x_lss, x_leq, x_gtr, x_geq, x_eql, x_neq, x_not, x_fa, x_ext, x_mkfn, if_true, if_false, decide_true, decide_false, Bool.not_true, Bool.not_false, Bool.true_beq, Bool.false_beq, beq_true, beq_false, Int.reduceEq, Int.reduceLT, Int.reduceLE, Int.reduceGT, Int.reduceGE, reduceCtorEq, Nat.reduceEqDiff, s_kendr, s_kendn, s_kfin, s_resnil, s_rescons, s_rest, s_resca, s_resV1, s_resV0, s_resV2, s_ffrom, s_fbits, s_kffrom, s_kfbits, x_slen, List.getElem?_cons_zero, List.getElem?_cons_succ, Option.map_some, hbx, l0, l1, l2, l4, l5, i1, Bool.false_eq_true]
    exact ⟨hx2, by simp [keyMay, i1], rfl⟩
  by_cases i2 : k.id > 1000
  · simp only [fn25, enterFr, List.length, List.range, List.range.loop, List.zip, List.zipWith, s_skip, s_region, s_draw, s_seq, s_cond, s_block, s_exit, s_scope, s_ret, s_nil, s_cons, s_done, s_op, s_fork, s_kops, s_ktree, s_kseq_n, s_kseq_r, s_kseq_e, s_kblock_n, s_kblock_r, s_kblock_e, s_kscope_n, s_kscope_r, s_kscope_e, s_kcond_t, s_kcond_f, s_ex, s_call, s_callv, s_guard, s_kguard_t, s_kguard_f, s_kexec, s_kres, s_kcall, s_kcallv, s_kret, s_put, s_putn, s_get, s_evs, s_evk, s_evnil, s_evcons, s_evC, s_g, s_gb, s_gu, s_kround_n, s_kround_r, s_kround_e, s_kloop_n, s_kloop_r, s_kloop_e, x_mov, x_konst, x_pick, x_nilck, x_add, x_sub, x_lss, x_leq, x_gtr, x_geq, x_eql, x_neq, x_not, x_fa, x_ext, x_mkfn, if_true, if_false, decide_true, decide_false, Bool.not_true, Bool.not_false, Bool.true_beq, Bool.false_beq, beq_true, beq_false, Int.reduceEq, Int.reduceLT, Int.reduceLE, Int.reduceGT, Int.reduceGE, reduceCtorEq, Nat.reduceEqDiff, s_kendr, s_kendn, s_kfin, s_resnil, s_rescons, s_rest, s_resca, s_resV1, s_resV0, s_resV2, s_ffrom, s_fbits, s_kffrom, s_kfbits, x_slen, List.getElem?_cons_zero, List.getElem?_cons_succ, Option.map_some, hbx, l0, l1, l2, l4, l5, i1, i2, Bool.false_eq_true]
    exact ⟨hx2, by simp [keyMay, i2], rfl⟩
  by_cases i3 : k.kind < 1
  · simp only [fn25, enterFr, List.length, List.range, List.range.loop, List.zip, List.zipWith, s_skip, s_region, s_draw, s_seq, s_cond, s_block, s_exit, s_scope, s_ret, s_nil, s_cons, s_done, s_op, s_fork, s_kops, s_ktree, s_kseq_n, s_kseq_r, s_kseq_e, s_kblock_n, s_kblock_r, s_kblock_e, s_kscope_n, s_kscope_r, s_kscope_e, s_kcond_t, s_kcond_f, s_ex, s_call, s_callv, s_guard, s_kguard_t, s_kguard_f, s_kexec, s_kres, s_kcall, s_kcallv, s_kret, s_put, s_putn, s_get, s_evs, s_evk, s_evnil, s_evcons, s_evC, s_g, s_gb, s_gu, s_kround_n, s_kround_r, s_kround_e, s_kloop_n, s_kloop_r, s_kloop_e, x_mov, x_konst, x_pick, x_nilck, x_add, x_sub, x_lss, x_leq, x_gtr, x_geq, x_eql, x_neq, x_not, x_fa, x_ext, x_mkfn, if_true, if_false, decide_true, decide_false, Bool.not_true, Bool.not_false, Bool.true_beq, Bool.false_beq, beq_true, beq_false, Int.reduceEq, Int.reduceLT, Int.reduceLE, Int.reduceGT, Int.reduceGE, reduceCtorEq, Nat.reduceEqDiff, s_kendr, s_kendn, s_kfin, s_resnil, s_rescons, s_rest, s_resca, s_resV1, s_resV0, s_resV2, s_ffrom, s_fbits, s_kffrom, s_kfbits, x_slen, List.getElem?_cons_zero, List.getElem?_cons_succ, Option.map_some, hbx, l0, l1, l2, l4, l5, i1, i2, i3, Bool.false_eq_true]
    exact ⟨hx2, by simp [keyMay, i3], rfl⟩
  by_cases i4 : k.kind > 4
  · simp only [fn25, enterFr, List.length, List.range, List.range.loop, List.zip, List.zipWith, s_skip, s_region, s_draw, s_seq, s_cond, s_block, s_exit, s_scope, s_ret, s_nil, s_cons, s_done, s_op, s_fork, s_kops, s_ktree, s_kseq_n, s_kseq_r, s_kseq_e, s_kblock_n, s_kblock_r, s_kblock_e, s_kscope_n, s_kscope_r, s_kscope_e, s_kcond_t, s_kcond_f, s_ex, s_call, s_callv, s_guard, s_kguard_t, s_kguard_f, s_kexec, s_kres, s_kcall, s_kcallv, s_kret, s_put, s_putn, s_get, s_evs, s_evk, s_evnil, s_evcons, s_evC, s_g, s_gb, s_gu, s_kround_n, s_kround_r, s_kround_e, s_kloop_n, s_kloop_r, s_kloop_e, x_mov, x_konst, x_pick, x_nilck, x_add, x_sub, x_lss, x_leq, x_gtr, x_geq, x_eql, x_neq, x_not, x_fa, x_ext, x_mkfn, if_true, if_false, decide_true, decide_false, Bool.not_true, Bool.not_false, Bool.true_beq, Bool.false_beq, beq_true, beq_false, Int.reduceEq, Int.reduceLT, Int.reduceLE, Int.reduceGT, Int.reduceGE, reduceCtorEq, Nat.reduceEqDiff, s_kendr, s_kendn, s_kfin, s_resnil, s_rescons, s_rest, s_resca, s_resV1, s_resV0, s_resV2, s_ffrom, s_fbits, s_kffrom, s_kfbits, x_slen, List.getElem?_cons_zero, List.getElem?_cons_succ, Option.map_some, hbx, l0, l1, l2, l4, l5, i1, i2, i3, i4, Bool.false_eq_true]
    exact ⟨hx2, by simp [keyMay, i4], rfl⟩
  have e0 : keyMay k = if k.block then !k.before && decide (k.group ≥ 0) && decide (k.group ≤ 8) else decide (k.group = 0) := by
    unfold keyMay; rw [if_neg (by simp [i1, i2, i3, i4])]
  cases hb : k.block with
  | false =>
    rw [hb] at l1
    simp only [fn25, enterFr, List.length, List.range, List.range.loop, List.zip, List.zipWith, s_skip, s_region, s_draw, s_seq, s_cond, s_block, s_exit, s_scope, s_ret, s_nil, s_cons, s_done, s_op, s_fork, s_kops, s_ktree, s_kseq_n, s_kseq_r, s_kseq_e, s_kblock_n, s_kblock_r, s_kblock_e, s_kscope_n, s_kscope_r, s_kscope_e, s_kcond_t, s_kcond_f, s_ex, s_call, s_callv, s_guard, s_kguard_t, s_kguard_f, s_kexec, s_kres, s_kcall, s_kcallv, s_kret, s_put, s_putn, s_get, s_evs, s_evk, s_evnil, s_evcons, s_evC, s_g, s_gb, s_gu, s_kround_n, s_kround_r, s_kround_e, s_kloop_n, s_kloop_r, s_kloop_e, x_mov, x_konst, x_pick, x_nilck, x_add, x_sub, x_lss, x_leq, x_gtr, x_geq, x_eql, x_neq, x_not, x_fa, x_ext, x_mkfn, if_true, if_false, decide_true, decide_false, Bool.not_true, Bool.not_false, Bool.true_beq, Bool.false_beq, beq_true, beq_false, Int.reduceEq, Int.reduceLT, Int.reduceLE, Int.reduceGT, Int.reduceGE, reduceCtorEq, Nat.reduceEqDiff, s_kendr, s_kendn, s_kfin, s_resnil, s_rescons, s_rest, s_resca, s_resV1, s_resV0, s_resV2, s_ffrom, s_fbits, s_kffrom, s_kfbits, x_slen, List.getElem?_cons_zero, List.getElem?_cons_succ, Option.map_some, hbx, l0, l1, l2, l4, l5, i1, i2, i3, i4, Bool.false_eq_true]
    exact ⟨hx2, by rw [e0, hb]; simp, rfl⟩
  | true =>
    rw [hb] at l1
    cases hbe : k.before with
    | true =>
      rw [hbe] at l4
      simp only [fn25, enterFr, List.length, List.range, List.range.loop, List.zip, List.zipWith, s_skip, s_region, s_draw, s_seq, s_cond, s_block, s_exit, s_scope, s_ret, s_nil, s_cons, s_done, s_op, s_fork, s_kops, s_ktree, s_kseq_n, s_kseq_r, s_kseq_e, s_kblock_n, s_kblock_r, s_kblock_e, s_kscope_n, s_kscope_r, s_kscope_e, s_kcond_t, s_kcond_f, s_ex, s_call, s_callv, s_guard, s_kguard_t, s_kguard_f, s_kexec, s_kres, s_kcall, s_kcallv, s_kret, s_put, s_putn, s_get, s_evs, s_evk, s_evnil, s_evcons, s_evC, s_g, s_gb, s_gu, s_kround_n, s_kround_r, s_kround_e, s_kloop_n, s_kloop_r, s_kloop_e, x_mov, x_konst, x_pick, x_nilck, x_add, x_sub, x_lss, x_leq, x_gtr, x_geq, x_eql, x_neq, x_not, x_fa, x_ext, x_mkfn, if_true, if_false, decide_true, decide_false, Bool.not_true, Bool.not_false, Bool.true_beq, Bool.false_beq, beq_true, beq_false, Int.reduceEq, Int.reduceLT, Int.reduceLE, Int.reduceGT, Int.reduceGE, reduceCtorEq, Nat.reduceEqDiff, s_kendr, s_kendn, s_kfin, s_resnil, s_rescons, s_rest, s_resca, s_resV1, s_resV0, s_resV2, s_ffrom, s_fbits, s_kffrom, s_kfbits, x_slen, List.getElem?_cons_zero, List.getElem?_cons_succ, Option.map_some, hbx, l0, l1, l2, l4, l5, i1, i2, i3, i4, Bool.false_eq_true]
      exact ⟨hx2, by rw [e0, hb, hbe]; simp, rfl⟩
    | false =>
      rw [hbe] at l4
      by_cases g1 : k.group ≥ 0
      · simp only [fn25, enterFr, List.length, List.range, List.range.loop, List.zip, List.zipWith, s_skip, s_region, s_draw, s_seq, s_cond, s_block, s_exit, s_scope, s_ret, s_nil, s_cons, s_done, s_op, s_fork, s_kops, s_ktree, s_kseq_n, s_kseq_r, s_kseq_e, s_kblock_n, s_kblock_r, s_kblock_e, s_kscope_n, s_kscope_r, s_kscope_e, s_kcond_t, s_kcond_f, s_ex, s_call, s_callv, s_guard, s_kguard_t, s_kguard_f, s_kexec, s_kres, s_kcall, s_kcallv, s_kret, s_put, s_putn, s_get, s_evs, s_evk, s_evnil, s_evcons, s_evC, s_g, s_gb, s_gu, s_kround_n, s_kround_r, s_kround_e, s_kloop_n, s_kloop_r, s_kloop_e, x_mov, x_konst, x_pick, x_nilck, x_add, x_sub, x_lss, x_leq, x_gtr, x_geq, x_eql, x_neq, x_not, x_fa, x_ext, x_mkfn, if_true, if_false, decide_true, decide_false, Bool.not_true, Bool.not_false, Bool.true_beq, Bool.false_beq, beq_true, beq_false, Int.reduceEq, Int.reduceLT, Int.reduceLE, Int.reduceGT, Int.reduceGE, reduceCtorEq, Nat.reduceEqDiff, s_kendr, s_kendn, s_kfin, s_resnil, s_rescons, s_rest, s_resca, s_resV1, s_resV0, s_resV2, s_ffrom, s_fbits, s_kffrom, s_kfbits, x_slen, List.getElem?_cons_zero, List.getElem?_cons_succ, Option.map_some, hbx, l0, l1, l2, l4, l5, i1, i2, i3, i4, g1, Bool.false_eq_true]
        exact ⟨hx2, by rw [e0, hb, hbe]; simp [g1], rfl⟩
      · simp only [fn25, enterFr, List.length, List.range, List.range.loop, List.zip, List.zipWith, s_skip, s_region, s_draw, s_seq, s_cond, s_block, s_exit, s_scope, s_ret, s_nil, s_cons, s_done, s_op, s_fork, s_kops, s_ktree, s_kseq_n, s_kseq_r, s_kseq_e, s_kblock_n, s_kblock_r, s_kblock_e, s_kscope_n, s_kscope_r, s_kscope_e, s_kcond_t, s_kcond_f, s_ex, s_call, s_callv, s_guard, s_kguard_t, s_kguard_f, s_kexec, s_kres, s_kcall, s_kcallv, s_kret, s_put, s_putn, s_get, s_evs, s_evk, s_evnil, s_evcons, s_evC, s_g, s_gb, s_gu, s_kround_n, s_kround_r, s_kround_e, s_kloop_n, s_kloop_r, s_kloop_e, x_mov, x_konst, x_pick, x_nilck, x_add, x_sub, x_lss, x_leq, x_gtr, x_geq, x_eql, x_neq, x_not, x_fa, x_ext, x_mkfn, if_true, if_false, decide_true, decide_false, Bool.not_true, Bool.not_false, Bool.true_beq, Bool.false_beq, beq_true, beq_false, Int.reduceEq, Int.reduceLT, Int.reduceLE, Int.reduceGT, Int.reduceGE, reduceCtorEq, Nat.reduceEqDiff, s_kendr, s_kendn, s_kfin, s_resnil, s_rescons, s_rest, s_resca, s_resV1, s_resV0, s_resV2, s_ffrom, s_fbits, s_kffrom, s_kfbits, x_slen, List.getElem?_cons_zero, List.getElem?_cons_succ, Option.map_some, hbx, l0, l1, l2, l4, l5, i1, i2, i3, i4, g1, Bool.false_eq_true]
        exact ⟨hx2, by rw [e0, hb, hbe]; simp [g1], rfl⟩
end Go.Proofs.YtbadbkdpnbacnaaDoor.Fw

/- What functions of the program answer: schema.New. No condition but what slices.SortFunc leaves, which is a hypothesis here. -/
namespace Go.Proofs.YtbadbkdpnbacnaaDoor.Fw
open Go
set_option linter.unusedSimpArgs false
set_option linter.unusedVariables false

/-- What slices.SortFunc leaves: it ends, and turns its own row alone. -/
def SortIs : Prop := ∀ (H : Heap) (v : V) (es : List (List V)), WF H → es.length ≤ 64 → (∀ e ∈ es, ∃ k : KeyA, e = k.cells) → ((es = [] ∧ SL H v 6 es) ∨ ∃ id, v = .slice id 0 es.length none ∧ Own H id 6 es) →
  SCalls PP 26 [v, .fn (.func 27) [] []] H fun r H' => H'.gn = H.gn ∧ H.next ≤ H'.next ∧ WF H' ∧ ∀ j, j < H.next → (∀ id, v = .slice id 0 es.length none → es ≠ [] → j ≠ id) → H'.get j = H.get j

theorem find_none {ks : List KeyA} {id : Int} (h : findK ks id = none) : findE 0 (.int .i64 id) (ks.map fun k => (V.int .i64 k.id, V.agg k.cells)) = some none := by
  have := find_map id ks
  cases hf : findE 0 (.int .i64 id) (ks.map fun k => (V.int .i64 k.id, V.agg k.cells)) with
  | none => rw [hf] at this; exact this.elim
  | some o =>
    rw [hf] at this
    cases o with
    | none => rfl
    | some i => obtain ⟨k, h1, _⟩ := this; rw [h] at h1; cases h1
theorem mset_new {H : Heap} {mid : Nat} {ks : List KeyA} {k : KeyA} (hg : H.get mid = some (.mapo (ks.map fun k => (.int .i64 k.id, .agg k.cells)))) (hf : findK ks k.id = none) :
    exec (.mset 0) [.map mid, .int .i64 k.id, .agg k.cells] H = some (.undef, H.set mid (.mapo ((ks ++ [k]).map fun k => (.int .i64 k.id, .agg k.cells)))) := by
  simp only [exec, hg, keyOk, if_true, find_none hf, List.map_append, List.map_cons, List.map_nil]

set_option maxRecDepth 20000 in
set_option maxHeartbeats 2000000 in
theorem new_calls (hS : SortIs) {x : V} {H : Heap} {ks : List KeyA} (hx : SL H x 6 (ks.map KeyA.cells)) (hl : ks.length ≤ big) :
    SCalls PP 9 [x] H fun r H' => Ext H H' ∧ WF H' ∧ ((∃ s, r = .tup [s, .int .i64 3]) ∨ ∃ s, r = .tup [s, .int .i64 0] ∧ Sch H' s ks) := by
  refine SCalls.go c9 (by simp [fn9]) fun hw => ?_
  unfold big at hl
  have hlen : ∀ G, exec .len [x] G = some (.int .i64 ks.length, G) := fun G => by have := hx.len (H' := G); rwa [List.length_map] at this
  by_cases h64 : (ks.length : Int) > 64
  · simp only [fn9, enterFr, List.length, List.range, List.range.loop, List.zip, List.zipWith, s_skip, s_region, s_draw, s_seq, s_cond, s_block, s_exit, s_scope, s_ret, s_nil, s_cons, s_done, s_op, s_fork, s_kops, s_ktree, s_kseq_n, s_kseq_r, s_kseq_e, s_kblock_n, s_kblock_r, s_kblock_e, s_kscope_n, s_kscope_r, s_kscope_e, s_kcond_t, s_kcond_f, s_ex, s_call, s_callv, s_guard, s_kguard_t, s_kguard_f, s_kexec, s_kres, s_kcall, s_kcallv, s_kret, s_put, s_putn, s_get, s_evs, s_evk, s_evnil, s_evcons, s_evC, s_g, s_gb, s_gu, s_kround_n, s_kround_r, s_kround_e, s_kloop_n, s_kloop_r, s_kloop_e, x_mov, x_konst, x_pick, x_nilck, x_add, x_sub, x_lss, x_leq, x_gtr, x_geq, x_eql, x_neq, x_not, x_fa, x_ext, x_mkfn, if_true, if_false, decide_true, decide_false, Bool.not_true, Bool.not_false, Bool.true_beq, Bool.false_beq, beq_true, beq_false, Int.reduceEq, Int.reduceLT, Int.reduceLE, Int.reduceGT, Int.reduceGE, reduceCtorEq, Nat.reduceEqDiff, s_kendr, s_kendn, s_kfin, s_resnil, s_rescons, s_rest, s_resca, s_resV1, s_resV0, s_resV2, s_ffrom, s_fbits, s_kffrom, s_kfbits, x_slen, List.getElem?_cons_zero, List.getElem?_cons_succ, Option.map_some, hlen, h64]
    exact ⟨Ext.refl H, hw, .inl ⟨_, rfl⟩⟩
  simp only [fn9, enterFr, List.length, List.range, List.range.loop, List.zip, List.zipWith, s_skip, s_region, s_draw, s_seq, s_cond, s_block, s_exit, s_scope, s_ret, s_nil, s_cons, s_done, s_op, s_fork, s_kops, s_ktree, s_kseq_n, s_kseq_r, s_kseq_e, s_kblock_n, s_kblock_r, s_kblock_e, s_kscope_n, s_kscope_r, s_kscope_e, s_kcond_t, s_kcond_f, s_ex, s_call, s_callv, s_guard, s_kguard_t, s_kguard_f, s_kexec, s_kres, s_kcall, s_kcallv, s_kret, s_put, s_putn, s_get, s_evs, s_evk, s_evnil, s_evcons, s_evC, s_g, s_gb, s_gu, s_kround_n, s_kround_r, s_kround_e, s_kloop_n, s_kloop_r, s_kloop_e, x_mov, x_konst, x_pick, x_nilck, x_add, x_sub, x_lss, x_leq, x_gtr, x_geq, x_eql, x_neq, x_not, x_fa, x_ext, x_mkfn, if_true, if_false, decide_true, decide_false, Bool.not_true, Bool.not_false, Bool.true_beq, Bool.false_beq, beq_true, beq_false, Int.reduceEq, Int.reduceLT, Int.reduceLE, Int.reduceGT, Int.reduceGE, reduceCtorEq, Nat.reduceEqDiff, s_kendr, s_kendn, s_kfin, s_resnil, s_rescons, s_rest, s_resca, s_resV1, s_resV0, s_resV2, s_ffrom, s_fbits, s_kffrom, s_kfbits, x_slen, List.getElem?_cons_zero, List.getElem?_cons_succ, Option.map_some, hlen, h64, Bool.false_eq_true]
  refine SCalls.mono (cloneK_calls hx (by rw [List.length_map]; unfold big; omega)) ?_
  rintro c H1 ⟨hx1, hw1, hc⟩
  have hco : c.one = true ∧ c.cells = [c] := by
    rcases hc with ⟨h0, _, ⟨rfl, _⟩ | ⟨_, _, _, rfl, _⟩⟩ | ⟨_, rfl, _⟩ <;> exact ⟨rfl, rfl⟩
  have hmk : exec .mkmap [] H1 = some (.map H1.next, H1.new (.mapo [])) := rfl
  have hx2 : Ext H1 (H1.new (.mapo [])) := (Ext.refl H1).new _
  have hw2 : WF (H1.new (.mapo [])) := hw1.new _
  have hg2 : (H1.new (.mapo [])).get H1.next = some (.mapo (([] : List KeyA).map fun k => (.int .i64 k.id, .agg k.cells))) := new_get _ _
  have hn2 : (H1.new (.mapo [])).next = H1.next + 1 := rfl
  have hbd : ∀ G, exec (.build [.nils, .nilm] [(0, 1), (1, 1)]) [c, .map H1.next] G = some (.agg [c, .map H1.next], G) := fun G => by
    show (fillA [.nils, .nilm] [((0, 1), c), ((1, 1), .map H1.next)]).map (fun cs => (V.agg cs, G)) = _
    simp only [fillA, hco.2]
    rfl
  generalize hG2 : H1.new (.mapo []) = G2 at *
  obtain ⟨H3, hx3, hw3, ha3, hbx⟩ := x_boxed (Ext.refl G2) hw2 (e := [c, .map H1.next]) (by simp only [List.all_cons, hco.1, List.all_nil]; rfl)
  have hn3 := hx3.next
  have hg3 : H3.get H1.next = some (.mapo (([] : List KeyA).map fun k => (.int .i64 k.id, .agg k.cells))) := by rw [hx3.get _ (by omega)]; exact hg2
  have hxx : Ext H H3 := (hx1.trans hx2).trans hx3
  have hH1 := hx1.next
  simp only [s_skip, s_region, s_draw, s_seq, s_cond, s_block, s_exit, s_scope, s_ret, s_nil, s_cons, s_done, s_op, s_fork, s_kops, s_ktree, s_kseq_n, s_kseq_r, s_kseq_e, s_kblock_n, s_kblock_r, s_kblock_e, s_kscope_n, s_kscope_r, s_kscope_e, s_kcond_t, s_kcond_f, s_ex, s_call, s_callv, s_guard, s_kguard_t, s_kguard_f, s_kexec, s_kres, s_kcall, s_kcallv, s_kret, s_put, s_putn, s_get, s_evs, s_evk, s_evnil, s_evcons, s_evC, s_g, s_gb, s_gu, s_kround_n, s_kround_r, s_kround_e, s_kloop_n, s_kloop_r, s_kloop_e, x_mov, x_konst, x_pick, x_nilck, x_add, x_sub, x_lss, x_leq, x_gtr, x_geq, x_eql, x_neq, x_not, x_fa, x_ext, x_mkfn, if_true, if_false, decide_true, decide_false, Bool.not_true, Bool.not_false, Bool.true_beq, Bool.false_beq, beq_true, beq_false, Int.reduceEq, Int.reduceLT, Int.reduceLE, Int.reduceGT, Int.reduceGE, reduceCtorEq, Nat.reduceEqDiff, s_kendr, s_kendn, s_kfin, s_resnil, s_rescons, s_rest, s_resca, s_resV1, s_resV0, s_resV2, s_ffrom, s_fbits, s_kffrom, s_kfbits, x_slen, List.getElem?_cons_zero, List.getElem?_cons_succ, Option.map_some, hmk, hG2, hbd, hbx, hlen]
  generalize hP : G2.next = p at *
  refine wp_range SCalls.scMono (by omega) (fun _ : Unit => [(17, x), (4, .ptr p 0)]) (fun k _ G => Ext H G ∧ WF G ∧ p < G.next ∧ At G p 0 [c, .map H1.next] ∧ G.get H1.next = some (.mapo ((ks.take k).map fun k => (.int .i64 k.id, .agg k.cells))) ∧ (∀ j, j < H3.next → j ≠ H1.next → G.get j = H3.get j) ∧ H3.next ≤ G.next) ()
    ⟨hxx, hw3, ha3.1, ha3, by simpa using hg3, fun j _ _ => rfl, Nat.le_refl _⟩ (.cons rfl (.cons rfl (.cons rfl (.cons rfl .nil)))) (by decide) (fun s => ⟨rfl, rfl, rfl⟩) ?_ ?_
  · rintro k _ G hk ⟨e1, e2, e3, e4, e5, e6, e7⟩
    have hm := hx.1 ks[k].cells (List.mem_map_of_mem (List.getElem_mem hk))
    obtain ⟨id, o, hia, hat⟩ := (hx.ext e1).ia (H' := G) (i := k) (e := ks[k].cells) (by simp [hk]) .i64
    obtain ⟨H4, hx4, hw4, ha4, hal, hst⟩ := x_copy (Ext.refl G) e2 (z := zk) (e := ks[k].cells) (n := 6) rfl rfl hm.1 hm.2
    have l0 := ha4.ld (j := 0) (v := .int .i64 ks[k].id) rfl 1
    have la := ha4.lda (n := 6) rfl
    have lm := (e4.ext hx4).ld (j := 1) (v := .map H1.next) rfl 1
    have hmid : H1.next < G.next := by omega
    have g4 : H4.get H1.next = some (.mapo ((ks.take k).map fun k => (.int .i64 k.id, .agg k.cells))) := by rw [hx4.get _ hmid]; exact e5
    have hlk := look_eq g4 ks[k].id
    obtain ⟨H5, hx5, hw5, ha5, hal5, hst5⟩ := x_copy (Ext.refl H4) hw4 (z := zk) (e := foundC (ks.take k) ks[k].id) (n := 6) rfl rfl rfl rfl
    have hx45 := hx4.trans hx5
    have la5 := (ha4.ext hx5).lda (n := 6) rfl
    have l05 := (ha4.ext hx5).ld (j := 0) (v := .int .i64 ks[k].id) rfl 1
    have lm5 := (e4.ext hx45).ld (j := 1) (v := .map H1.next) rfl 1
    have g5 : H5.get H1.next = some (.mapo ((ks.take k).map fun k => (.int .i64 k.id, .agg k.cells))) := by rw [hx45.get _ hmid]; exact e5
    cases hf : findK (ks.take k) ks[k].id with
    | some kk =>
      simp only [s_skip, s_region, s_draw, s_seq, s_cond, s_block, s_exit, s_scope, s_ret, s_nil, s_cons, s_done, s_op, s_fork, s_kops, s_ktree, s_kseq_n, s_kseq_r, s_kseq_e, s_kblock_n, s_kblock_r, s_kblock_e, s_kscope_n, s_kscope_r, s_kscope_e, s_kcond_t, s_kcond_f, s_ex, s_call, s_callv, s_guard, s_kguard_t, s_kguard_f, s_kexec, s_kres, s_kcall, s_kcallv, s_kret, s_put, s_putn, s_get, s_evs, s_evk, s_evnil, s_evcons, s_evC, s_g, s_gb, s_gu, s_kround_n, s_kround_r, s_kround_e, s_kloop_n, s_kloop_r, s_kloop_e, x_mov, x_konst, x_pick, x_nilck, x_add, x_sub, x_lss, x_leq, x_gtr, x_geq, x_eql, x_neq, x_not, x_fa, x_ext, x_mkfn, if_true, if_false, decide_true, decide_false, Bool.not_true, Bool.not_false, Bool.true_beq, Bool.false_beq, beq_true, beq_false, Int.reduceEq, Int.reduceLT, Int.reduceLE, Int.reduceGT, Int.reduceGE, reduceCtorEq, Nat.reduceEqDiff, s_kendr, s_kendn, s_kfin, s_resnil, s_rescons, s_rest, s_resca, s_resV1, s_resV0, s_resV2, s_ffrom, s_fbits, s_kffrom, s_kfbits, x_slen, List.getElem?_cons_zero, List.getElem?_cons_succ, Option.map_some, hia, hat.lda (n := 6) rfl, hal, hst, l0, lm, hlk, hal5, hst5, hf, Option.isSome_some, Bool.false_eq_true]
      exact ⟨e1.trans hx45, hw5, .inl ⟨_, rfl⟩⟩
    | none =>
      simp only [s_skip, s_region, s_draw, s_seq, s_cond, s_block, s_exit, s_scope, s_ret, s_nil, s_cons, s_done, s_op, s_fork, s_kops, s_ktree, s_kseq_n, s_kseq_r, s_kseq_e, s_kblock_n, s_kblock_r, s_kblock_e, s_kscope_n, s_kscope_r, s_kscope_e, s_kcond_t, s_kcond_f, s_ex, s_call, s_callv, s_guard, s_kguard_t, s_kguard_f, s_kexec, s_kres, s_kcall, s_kcallv, s_kret, s_put, s_putn, s_get, s_evs, s_evk, s_evnil, s_evcons, s_evC, s_g, s_gb, s_gu, s_kround_n, s_kround_r, s_kround_e, s_kloop_n, s_kloop_r, s_kloop_e, x_mov, x_konst, x_pick, x_nilck, x_add, x_sub, x_lss, x_leq, x_gtr, x_geq, x_eql, x_neq, x_not, x_fa, x_ext, x_mkfn, if_true, if_false, decide_true, decide_false, Bool.not_true, Bool.not_false, Bool.true_beq, Bool.false_beq, beq_true, beq_false, Int.reduceEq, Int.reduceLT, Int.reduceLE, Int.reduceGT, Int.reduceGE, reduceCtorEq, Nat.reduceEqDiff, s_kendr, s_kendn, s_kfin, s_resnil, s_rescons, s_rest, s_resca, s_resV1, s_resV0, s_resV2, s_ffrom, s_fbits, s_kffrom, s_kfbits, x_slen, List.getElem?_cons_zero, List.getElem?_cons_succ, Option.map_some, hia, hat.lda (n := 6) rfl, hal, hst, l0, lm, hlk, hal5, hst5, hf, Option.isSome_none, la5, Bool.false_eq_true]
      refine SCalls.mono (keyMay_calls ks[k] H5) ?_
      rintro r H6 ⟨rfl, rfl⟩
      cases hm' : keyMay ks[k] with
      | false =>
        simp only [s_skip, s_region, s_draw, s_seq, s_cond, s_block, s_exit, s_scope, s_ret, s_nil, s_cons, s_done, s_op, s_fork, s_kops, s_ktree, s_kseq_n, s_kseq_r, s_kseq_e, s_kblock_n, s_kblock_r, s_kblock_e, s_kscope_n, s_kscope_r, s_kscope_e, s_kcond_t, s_kcond_f, s_ex, s_call, s_callv, s_guard, s_kguard_t, s_kguard_f, s_kexec, s_kres, s_kcall, s_kcallv, s_kret, s_put, s_putn, s_get, s_evs, s_evk, s_evnil, s_evcons, s_evC, s_g, s_gb, s_gu, s_kround_n, s_kround_r, s_kround_e, s_kloop_n, s_kloop_r, s_kloop_e, x_mov, x_konst, x_pick, x_nilck, x_add, x_sub, x_lss, x_leq, x_gtr, x_geq, x_eql, x_neq, x_not, x_fa, x_ext, x_mkfn, if_true, if_false, decide_true, decide_false, Bool.not_true, Bool.not_false, Bool.true_beq, Bool.false_beq, beq_true, beq_false, Int.reduceEq, Int.reduceLT, Int.reduceLE, Int.reduceGT, Int.reduceGE, reduceCtorEq, Nat.reduceEqDiff, s_kendr, s_kendn, s_kfin, s_resnil, s_rescons, s_rest, s_resca, s_resV1, s_resV0, s_resV2, s_ffrom, s_fbits, s_kffrom, s_kfbits, x_slen, List.getElem?_cons_zero, List.getElem?_cons_succ, Option.map_some, hm', Bool.false_eq_true]
        exact ⟨e1.trans hx45, hw5, .inl ⟨_, rfl⟩⟩
      | true =>
        have hms := mset_new (k := ks[k]) g5 hf
        simp only [s_skip, s_region, s_draw, s_seq, s_cond, s_block, s_exit, s_scope, s_ret, s_nil, s_cons, s_done, s_op, s_fork, s_kops, s_ktree, s_kseq_n, s_kseq_r, s_kseq_e, s_kblock_n, s_kblock_r, s_kblock_e, s_kscope_n, s_kscope_r, s_kscope_e, s_kcond_t, s_kcond_f, s_ex, s_call, s_callv, s_guard, s_kguard_t, s_kguard_f, s_kexec, s_kres, s_kcall, s_kcallv, s_kret, s_put, s_putn, s_get, s_evs, s_evk, s_evnil, s_evcons, s_evC, s_g, s_gb, s_gu, s_kround_n, s_kround_r, s_kround_e, s_kloop_n, s_kloop_r, s_kloop_e, x_mov, x_konst, x_pick, x_nilck, x_add, x_sub, x_lss, x_leq, x_gtr, x_geq, x_eql, x_neq, x_not, x_fa, x_ext, x_mkfn, if_true, if_false, decide_true, decide_false, Bool.not_true, Bool.not_false, Bool.true_beq, Bool.false_beq, beq_true, beq_false, Int.reduceEq, Int.reduceLT, Int.reduceLE, Int.reduceGT, Int.reduceGE, reduceCtorEq, Nat.reduceEqDiff, s_kendr, s_kendn, s_kfin, s_resnil, s_rescons, s_rest, s_resca, s_resV1, s_resV0, s_resV2, s_ffrom, s_fbits, s_kffrom, s_kfbits, x_slen, List.getElem?_cons_zero, List.getElem?_cons_succ, Option.map_some, hm', l05, lm5, la5, hms, Bool.false_eq_true]
        have hn5 := hx45.next
        refine ⟨(), ⟨(e1.trans hx45).set (by omega) _, hw5.set g5 _, ?_, ?_, ?_, fun j hj hjm => ?_, ?_⟩, .cons rfl (.cons rfl (.cons rfl (.cons rfl .nil)))⟩
        · simp only [Heap.set_next]; omega
        · obtain ⟨b1, ro, esz, cells, b2, b3⟩ := e4.ext hx45
          refine ⟨b1, ro, esz, cells, ?_, b3⟩
          rw [Heap.set_get, if_neg (by omega)]; exact b2
        · rw [set_get', List.take_succ_eq_append_getElem hk]
        · rw [Heap.set_get, if_neg hjm, hx45.get _ (by omega)]; exact e6 j hj hjm
        · simp only [Heap.set_next]; omega
  · rintro _ G ⟨e1, e2, e3, e4, e5, e6, e7⟩
    rw [List.take_length] at e5
    have lc := e4.ld (j := 0) (v := c) rfl 1
    simp only [s_skip, s_region, s_draw, s_seq, s_cond, s_block, s_exit, s_scope, s_ret, s_nil, s_cons, s_done, s_op, s_fork, s_kops, s_ktree, s_kseq_n, s_kseq_r, s_kseq_e, s_kblock_n, s_kblock_r, s_kblock_e, s_kscope_n, s_kscope_r, s_kscope_e, s_kcond_t, s_kcond_f, s_ex, s_call, s_callv, s_guard, s_kguard_t, s_kguard_f, s_kexec, s_kres, s_kcall, s_kcallv, s_kret, s_put, s_putn, s_get, s_evs, s_evk, s_evnil, s_evcons, s_evC, s_g, s_gb, s_gu, s_kround_n, s_kround_r, s_kround_e, s_kloop_n, s_kloop_r, s_kloop_e, x_mov, x_konst, x_pick, x_nilck, x_add, x_sub, x_lss, x_leq, x_gtr, x_geq, x_eql, x_neq, x_not, x_fa, x_ext, x_mkfn, if_true, if_false, decide_true, decide_false, Bool.not_true, Bool.not_false, Bool.true_beq, Bool.false_beq, beq_true, beq_false, Int.reduceEq, Int.reduceLT, Int.reduceLE, Int.reduceGT, Int.reduceGE, reduceCtorEq, Nat.reduceEqDiff, s_kendr, s_kendn, s_kfin, s_resnil, s_rescons, s_rest, s_resca, s_resV1, s_resV0, s_resV2, s_ffrom, s_fbits, s_kffrom, s_kfbits, x_slen, List.getElem?_cons_zero, List.getElem?_cons_succ, Option.map_some, lc]
    have hcl : (ks.map KeyA.cells).length ≤ 64 := by rw [List.length_map]; omega
    have keep : ∀ j, j < H1.next → G.get j = H1.get j := fun j hj => by
      rw [e6 j (by omega) (by omega), hx3.get j (by omega), hx2.get j (by omega)]
    refine SCalls.mono (hS G c (ks.map KeyA.cells) e2 hcl (fun e he => by obtain ⟨k, _, rfl⟩ := List.mem_map.1 he; exact ⟨k, rfl⟩) ?_) ?_
    · rcases hc with ⟨h0, h1⟩ | ⟨id, rfl, hid, ho⟩
      · refine .inl ⟨h0, h1.1, ?_⟩
        rcases h1.2 with h | ⟨id, off, cap, q1, q2, q3⟩
        · exact .inl h
        · exact .inr ⟨id, off, cap, q1, by omega, fun i e he => by rw [h0] at he; simp at he⟩
      · refine .inr ⟨id, rfl, ?_, ?_, ho.len⟩
        · have := ho.lt; omega
        · rw [keep id ho.lt]; exact ho.get
    · rintro r G7 ⟨f1, f2, f3, f4⟩
      have hne : ∀ j, (j < H.next ∨ H1.next ≤ j) → ∀ id, c = .slice id 0 (ks.map KeyA.cells).length none → ks.map KeyA.cells ≠ [] → j ≠ id := by
        intro j hj id hcid hnil
        rcases hc with ⟨h0, _⟩ | ⟨id', rfl, hid, ho⟩
        · exact absurd h0 hnil
        · have := ho.lt
          simp only [V.slice.injEq] at hcid
          omega
      simp only [s_skip, s_region, s_draw, s_seq, s_cond, s_block, s_exit, s_scope, s_ret, s_nil, s_cons, s_done, s_op, s_fork, s_kops, s_ktree, s_kseq_n, s_kseq_r, s_kseq_e, s_kblock_n, s_kblock_r, s_kblock_e, s_kscope_n, s_kscope_r, s_kscope_e, s_kcond_t, s_kcond_f, s_ex, s_call, s_callv, s_guard, s_kguard_t, s_kguard_f, s_kexec, s_kres, s_kcall, s_kcallv, s_kret, s_put, s_putn, s_get, s_evs, s_evk, s_evnil, s_evcons, s_evC, s_g, s_gb, s_gu, s_kround_n, s_kround_r, s_kround_e, s_kloop_n, s_kloop_r, s_kloop_e, x_mov, x_konst, x_pick, x_nilck, x_add, x_sub, x_lss, x_leq, x_gtr, x_geq, x_eql, x_neq, x_not, x_fa, x_ext, x_mkfn, if_true, if_false, decide_true, decide_false, Bool.not_true, Bool.not_false, Bool.true_beq, Bool.false_beq, beq_true, beq_false, Int.reduceEq, Int.reduceLT, Int.reduceLE, Int.reduceGT, Int.reduceGE, reduceCtorEq, Nat.reduceEqDiff, s_kendr, s_kendn, s_kfin, s_resnil, s_rescons, s_rest, s_resca, s_resV1, s_resV0, s_resV2, s_ffrom, s_fbits, s_kffrom, s_kfbits, x_slen, List.getElem?_cons_zero, List.getElem?_cons_succ, Option.map_some]
      refine ⟨⟨f1.trans e1.gn, Nat.le_trans e1.next f2, fun j hj => ?_⟩, f3, .inr ⟨_, rfl, p, c, H1.next, rfl, ?_, by omega, ?_⟩⟩
      · have := e1.next
        rw [f4 j (by omega) (hne j (.inl hj))]; exact e1.get j hj
      · obtain ⟨b1, ro, esz, cells, b2, b3⟩ := e4
        refine ⟨by omega, ro, esz, cells, ?_, b3⟩
        rw [f4 p e3 (hne p (.inr (by omega)))]; exact b2
      · rw [f4 _ (by omega) (hne _ (.inr (Nat.le_refl _)))]; exact e5
end Go.Proofs.YtbadbkdpnbacnaaDoor.Fw

