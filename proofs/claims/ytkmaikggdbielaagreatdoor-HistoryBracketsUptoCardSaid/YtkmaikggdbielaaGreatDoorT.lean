/- The framework, part T: steps as equations, for simp. No condition. -/
import Derived.Test.YtkmaikggdbielaaGreatDoorS
namespace Go.Proofs.YtkmaikggdbielaaGreatDoor.Fw
open Go
set_option linter.unusedSimpArgs false
set_option linter.unusedVariables false

section
variable (SC : FuncId → List V → Heap → (V → Heap → Prop) → Prop)
def kseq (b : ACode) (Q : Exit → Fr → Heap → Prop) : Exit → Fr → Heap → Prop := fun e fr H => match e with
  | .normal => wpC SC b fr H Q
  | e => Q e fr H
def kblock (id : Nat) (Q : Exit → Fr → Heap → Prop) : Exit → Fr → Heap → Prop := fun e fr H => match e with
  | .exit i => if i = id then Q .normal fr H else Q (.exit i) fr H
  | e => Q e fr H
def kscope (Q : Exit → Fr → Heap → Prop) : Exit → Fr → Heap → Prop := fun e fr H => match e with
  | .goto _ => False
  | e => Q e fr H
def kops (l : List AOper) (K : Fr → Heap → Prop) : Fr → Heap → Prop := fun fr H => wpA SC l fr H K
def ktree (t : DT) (K : Fr → Heap → Prop) : Fr → Heap → Prop := fun fr H => wpT SC t fr H K
def kcond (a b : ACode) (Q : Exit → Fr → Heap → Prop) (fr : Fr) (H : Heap) : Option V → Prop
  | some (.bool true) => wpC SC a fr H Q
  | some (.bool false) => wpC SC b fr H Q
  | _ => False
def kres (d : Option Nat) (K : Fr → Heap → Prop) (fr : Fr) : Option (V × Heap) → Prop
  | some (r, H') => K (fr.put d r) H'
  | none => False
def kexec (k : AK) (d : Option Nat) (K : Fr → Heap → Prop) (fr : Fr) (H : Heap) : Option (List V) → Prop
  | some vs => kres d K fr (exec k vs H)
  | none => False
def kret (d : Option Nat) (K : Fr → Heap → Prop) (fr : Fr) : V → Heap → Prop := fun r H' => K (fr.put d r) H'
def kcall (f : FuncId) (d : Option Nat) (K : Fr → Heap → Prop) (fr : Fr) (H : Heap) : Option (List V) → Prop
  | some vs => SC f vs H (kret d K fr)
  | none => False
def kcallv (d : Option Nat) (K : Fr → Heap → Prop) (fr : Fr) (H : Heap) : Option V → Option (List V) → Prop
  | some (.fn (.func f) first caps), some vs => SC f (first ++ vs ++ caps) H (kret d K fr)
  | _, _ => False
def kguard (o : AOper) (K : Fr → Heap → Prop) (fr : Fr) (H : Heap) : Option Bool → Prop
  | some true => stepA SC ⟨o.dst, none, o.a⟩ fr H K
  | some false => K (fr.put o.dst .undef) H
  | none => False
end

section
variable {SC : FuncId → List V → Heap → (V → Heap → Prop) → Prop} {fr : Fr} {H H' : Heap} {K : Fr → Heap → Prop} {Q : Exit → Fr → Heap → Prop}
theorem s_skip : wpC SC .skip fr H Q = Q .normal fr H := rfl
theorem s_region (l : List AOper) : wpC SC (.region l) fr H Q = wpA SC l fr H (Q .normal) := rfl
theorem s_draw (t : DT) : wpC SC (.draw t) fr H Q = wpT SC t fr H (Q .normal) := rfl
theorem s_seq (a b : ACode) : wpC SC (.seq a b) fr H Q = wpC SC a fr H (kseq SC b Q) := rfl
theorem s_cond (x : X) (a b : ACode) : wpC SC (.cond x a b) fr H Q = kcond SC a b Q fr H (x.ev fr H) := by
  simp only [wpC, kcond]
  rfl
theorem s_block (id : Nat) (a : ACode) : wpC SC (.block id a) fr H Q = wpC SC a fr H (kblock id Q) := rfl
theorem s_exit (id : Nat) : wpC SC (.exit id) fr H Q = Q (.exit id) fr H := rfl
theorem s_scope (a : ACode) : wpC SC (.scope a) fr H Q = wpC SC a fr H (kscope Q) := rfl
theorem s_ret : wpC SC .ret fr H Q = Q .ret fr H := rfl
theorem s_nil : wpA SC [] fr H K = K fr H := rfl
theorem s_cons (o : AOper) (l : List AOper) : wpA SC (o :: l) fr H K = stepA SC o fr H (kops SC l K) := rfl
theorem s_done : wpT SC .done fr H K = K fr H := rfl
theorem s_op (o : AOper) (t : DT) : wpT SC (.op o t) fr H K = stepA SC o fr H (ktree SC t K) := rfl
theorem s_fork (a b : DT) : wpT SC (.fork a b) fr H K = (wpT SC a fr H K ∧ wpT SC b fr H K) := rfl
theorem s_kops (l : List AOper) : kops SC l K fr H = wpA SC l fr H K := rfl
theorem s_ktree (t : DT) : ktree SC t K fr H = wpT SC t fr H K := rfl
theorem s_kseq_n (b : ACode) : kseq SC b Q .normal fr H = wpC SC b fr H Q := rfl
theorem s_kseq_r (b : ACode) : kseq SC b Q .ret fr H = Q .ret fr H := rfl
theorem s_kseq_e (b : ACode) (i : Nat) : kseq SC b Q (.exit i) fr H = Q (.exit i) fr H := rfl
theorem s_kblock_n (i : Nat) : kblock i Q .normal fr H = Q .normal fr H := rfl
theorem s_kblock_r (i : Nat) : kblock i Q .ret fr H = Q .ret fr H := rfl
theorem s_kblock_e (i j : Nat) : kblock i Q (.exit j) fr H = if j = i then Q .normal fr H else Q (.exit j) fr H := rfl
theorem s_kscope_n : kscope Q .normal fr H = Q .normal fr H := rfl
theorem s_kscope_r : kscope Q .ret fr H = Q .ret fr H := rfl
theorem s_kscope_e (i : Nat) : kscope Q (.exit i) fr H = Q (.exit i) fr H := rfl
theorem s_kcond_t (a b : ACode) : kcond SC a b Q fr H (some (.bool true)) = wpC SC a fr H Q := rfl
theorem s_kcond_f (a b : ACode) : kcond SC a b Q fr H (some (.bool false)) = wpC SC b fr H Q := rfl
theorem s_ex (d : Option Nat) (k : AK) (xs : List X) : stepA SC ⟨d, none, .ex k xs⟩ fr H K = kexec k d K fr H (evL fr H xs) := by
  unfold stepA kexec kres
  simp only [guardA]
  cases evL fr H xs with
  | none => rfl
  | some vs =>
    simp only
    cases exec k vs H with
    | none => rfl
    | some p => rfl
theorem s_call (d : Option Nat) (f : FuncId) (xs : List X) : stepA SC ⟨d, none, .callf f xs⟩ fr H K = kcall SC f d K fr H (evL fr H xs) := by
  unfold stepA kcall
  simp only [guardA]
  cases evL fr H xs <;> rfl
theorem s_callv (d : Option Nat) (x : X) (xs : List X) : stepA SC ⟨d, none, .callv x xs⟩ fr H K = kcallv SC d K fr H (x.ev fr H) (evL fr H xs) := by
  unfold stepA kcallv
  simp only [guardA]
  rfl
theorem s_guard (d : Option Nat) (t : Nat) (b : Bool) (a : AOp) : stepA SC ⟨d, some (t, b), a⟩ fr H K = kguard SC ⟨d, none, a⟩ K fr H (guardA fr (some (t, b))) := by
  unfold stepA kguard
  simp only
  cases guardA fr (some (t, b)) with
  | none => rfl
  | some c => cases c <;> rfl
theorem s_kguard_t (d : Option Nat) (a : AOp) : kguard SC ⟨d, none, a⟩ K fr H (some true) = stepA SC ⟨d, none, a⟩ fr H K := rfl
theorem s_kguard_f (d : Option Nat) (a : AOp) : kguard SC ⟨d, none, a⟩ K fr H (some false) = K (fr.put d .undef) H := rfl
theorem s_kexec (k : AK) (d : Option Nat) (vs : List V) : kexec k d K fr H (some vs) = kres d K fr (exec k vs H) := rfl
theorem s_kres (d : Option Nat) (r : V) : kres d K fr (some (r, H')) = K (fr.put d r) H' := rfl
theorem s_kcall (f : FuncId) (d : Option Nat) (vs : List V) : kcall SC f d K fr H (some vs) = SC f vs H (kret d K fr) := rfl
theorem s_kcallv (d : Option Nat) (f : FuncId) (a b vs : List V) : kcallv SC d K fr H (some (.fn (.func f) a b)) (some vs) = SC f (a ++ vs ++ b) H (kret d K fr) := rfl
theorem s_kret (d : Option Nat) (r : V) : kret d K fr r H = K (fr.put d r) H := rfl
theorem s_put (d : Nat) (v : V) : fr.put (some d) v = (d, v) :: fr := rfl
theorem s_putn (v : V) : fr.put none v = fr := rfl
theorem s_get (t s : Nat) (v : V) : Fr.get ((s, v) :: fr) t = if s = t then some v else fr.get t := by
  simp only [Fr.get]
theorem s_evs (t : Nat) : (X.s t).ev fr H = fr.get t := rfl
theorem s_evk (v : V) : (X.k v).ev fr H = some v := rfl
def evCons : Option V → Option (List V) → Option (List V)
  | some v, some vs => some (v :: vs)
  | _, _ => none
theorem s_evnil : evL fr H [] = some [] := rfl
theorem s_evcons (x : X) (xs : List X) : evL fr H (x :: xs) = evCons (x.ev fr H) (evL fr H xs) := by
  simp only [evL, evCons]
  rfl
theorem s_evC (v : V) (vs : List V) : evCons (some v) (some vs) = some (v :: vs) := rfl
def guardV : Option V → Bool → Option Bool
  | some (.bool c), b => some (c == b)
  | some (.tup []), _ => some false
  | _, _ => none
theorem s_g (t : Nat) (b : Bool) : guardA fr (some (t, b)) = guardV (fr.get t) b := by
  simp only [guardA]
  cases fr.get t with
  | none => rfl
  | some v => cases v <;> try rfl
              rename_i vs; cases vs <;> rfl
theorem s_gb (c b : Bool) : guardV (some (.bool c)) b = some (c == b) := rfl
theorem s_gu (b : Bool) : guardV (some (.tup [])) b = some false := rfl

/-! ### Operations -/
variable (H)
theorem x_mov (v : V) : exec .mov [v] H = some (v, H) := rfl
theorem x_konst (u v : V) : exec (.konst u) [v] H = some (u, H) := rfl
theorem x_pick (c : Bool) (a b : V) : exec .pick [.bool c, a, b] H = some (if c then a else b, H) := rfl
theorem x_nilck (id off : Nat) : exec .nilck [.ptr id off] H = some (.ptr id off, H) := rfl
theorem x_add (a b : Int) : exec (.ibin .add) [.int .i64 a, .int .i64 b] H = some (.int .i64 (IntKind.i64.wrap (a + b)), H) := rfl
theorem x_sub (a b : Int) : exec (.ibin .sub) [.int .i64 a, .int .i64 b] H = some (.int .i64 (IntKind.i64.wrap (a - b)), H) := rfl
theorem x_lss (k : IntKind) (a b : Int) : exec (.ibin .lss) [.int k a, .int k b] H = some (.bool (decide (a < b)), H) := by simp [exec, ibin, intBin]
theorem x_leq (k : IntKind) (a b : Int) : exec (.ibin .leq) [.int k a, .int k b] H = some (.bool (decide (a ≤ b)), H) := by simp [exec, ibin, intBin]
theorem x_gtr (k : IntKind) (a b : Int) : exec (.ibin .gtr) [.int k a, .int k b] H = some (.bool (decide (a > b)), H) := by simp [exec, ibin, intBin]
theorem x_geq (k : IntKind) (a b : Int) : exec (.ibin .geq) [.int k a, .int k b] H = some (.bool (decide (a ≥ b)), H) := by simp [exec, ibin, intBin]
theorem x_eql (k : IntKind) (a b : Int) : exec (.ibin .eql) [.int k a, .int k b] H = some (.bool (decide (a = b)), H) := by
  simp [exec, ibin, intBin]
  rfl
theorem x_neq (k : IntKind) (a b : Int) : exec (.ibin .neq) [.int k a, .int k b] H = some (.bool (!decide (a = b)), H) := by
  simp [exec, ibin, intBin]
  rfl
theorem x_not (b : Bool) : exec .bnot [.bool b] H = some (.bool !b, H) := rfl
theorem x_fa (id off k : Nat) : exec (.fa k) [.ptr id off] H = some (.ptr id (off + k), H) := rfl
theorem x_ext (i : Nat) (ws : List V) : exec (.ext i) [.tup ws] H = (ws[i]?).map (·, H) := rfl
theorem x_mkfn (f : Fn) (n : Nat) (vs : List V) : exec (.mkfn f n) vs H = some (.fn f (vs.take n) (vs.drop n), H) := rfl
theorem x_alloc (z : List V) (hz : z.all V.one = true) : exec (.alloc z) [] H = some (.ptr H.next 0, H.new (.row false z.length z)) := by
  simp only [exec, hz, if_true]
theorem x_box (v : V) (hz : v.cells.all V.one = true) : exec .box [v] H = some (.ptr H.next 0, H.new (.row false v.cells.length v.cells)) := by
  simp only [exec, hz, if_true]
variable {H}
theorem x_st {id n esz : Nat} {cells : List V} {v : V} (hg : H.get id = some (.row false esz cells)) (hn : v.cells.length = n) (hl : cells.length = n) (ho : v.cells.all V.one = true) :
    exec (.st n) [.ptr id 0, v] H = some (.undef, H.set id (.row false esz v.cells)) := by
  simp only [exec, if_pos hn, writeAt, hg]
  rw [if_pos ⟨by omega, ho⟩]
  simp only [Option.map_some, splice]
  congr 3
  simp [hn, hl]
/-- A boxed element. -/
theorem x_boxed {G : Heap} (hx : Ext G H) (hw : WF H) {e : List V} (ho : e.all V.one = true) : ∃ H2, Ext G H2 ∧ WF H2 ∧ At H2 H.next 0 e ∧ exec .box [.agg e] H = some (.ptr H.next 0, H2) := by
  refine ⟨H.new (.row false e.length e), hx.new _, hw.new _, ⟨Nat.lt_succ_self _, false, e.length, e, by rw [Heap.new_get, if_pos rfl], by omega, fun j v hj => by rw [Nat.zero_add]; exact hj⟩, ?_⟩
  exact x_box H (.agg e) ho
/-- A copy of an element. -/
theorem x_copy {G : Heap} (hx : Ext G H) (hw : WF H) {z e : List V} {n : Nat} (hz : z.length = n) (hzo : z.all V.one = true) (hn : e.length = n) (ho : e.all V.one = true) :
    ∃ H2, Ext G H2 ∧ WF H2 ∧ At H2 H.next 0 e ∧ exec (.alloc z) [] H = some (.ptr H.next 0, H.new (.row false n z)) ∧ exec (.st n) [.ptr H.next 0, .agg e] (H.new (.row false n z)) = some (.undef, H2) := by
  have hg : (H.new (.row false n z)).get H.next = some (.row false n z) := by rw [Heap.new_get, if_pos rfl]
  refine ⟨(H.new (.row false n z)).set H.next (.row false n e), (hx.new _).set hx.next _, (hw.new _).set hg _, ?_, ?_, ?_⟩
  · refine ⟨Nat.lt_succ_self _, false, n, e, by rw [Heap.set_get, if_pos rfl], by omega, fun j v hj => by rw [Nat.zero_add]; exact hj⟩
  · rw [x_alloc _ _ hzo, hz]
  · exact x_st hg hn hz ho
end

/-! ### Floats -/
def kffrom (d : Option Nat) (K : Fr → Heap → Prop) (fr : Fr) (H : Heap) : Option V → Prop
  | some (.int .u64 n) => K (fr.put d (.float .f64 n.toNat)) H
  | _ => False
def kfbits (d : Option Nat) (K : Fr → Heap → Prop) (fr : Fr) (H : Heap) : Option V → Prop
  | some (.float .f64 b) => K (fr.put d (.int .u64 b)) H
  | _ => False
section
variable {SC : FuncId → List V → Heap → (V → Heap → Prop) → Prop} {fr : Fr} {H : Heap} {K : Fr → Heap → Prop}
theorem s_ffrom (d : Option Nat) (f : FuncId) (x : X) : stepA SC ⟨d, none, .ffrom f x⟩ fr H K = kffrom d K fr H (x.ev fr H) := by
  unfold stepA kffrom
  simp only [guardA]
  rfl
theorem s_fbits (d : Option Nat) (f : FuncId) (x : X) : stepA SC ⟨d, none, .fbits f x⟩ fr H K = kfbits d K fr H (x.ev fr H) := by
  unfold stepA kfbits
  simp only [guardA]
  rfl
theorem s_kffrom (d : Option Nat) (n : Int) : kffrom d K fr H (some (.int .u64 n)) = K (fr.put d (.float .f64 n.toNat)) H := rfl
theorem s_kfbits (d : Option Nat) (b : Nat) : kfbits d K fr H (some (.float .f64 b)) = K (fr.put d (.int .u64 b)) H := rfl
end
theorem x_slen (s : ByteArray) (H : Heap) : exec .slen [.str s] H = some (.int .i64 s.size, H) := rfl

/-! ### Appends -/
theorem x_app_nil {H : Heap} {x : V} {n sz bytes : Nat} {news : List V} (hx : lenV x = some n) (hs : srcCells H n sz x = some news) (hl : news.length = n * sz) (ho : news.all V.one = true) (hsz : sz ≠ 0) (hn : n ≠ 0)
    (hb : n * bytes ≤ 140737488355328) (hb2 : n ≤ 9223372036854775807) : exec (.app sz bytes) [.nils, x] H = some (.slice H.next 0 n none, H.new (.row false sz news)) := by
  simp only [exec, appendA, hx, hs]
  rw [if_neg (by simp [hl, ho, hsz]), if_neg hn, if_pos ⟨hb, hb2⟩]
theorem x_app_own {H : Heap} {x : V} {id len n sz bytes : Nat} {cells news : List V} (hg : H.get id = some (.row false sz cells)) (hc : cells.length = len * sz) (hco : cells.all V.one = true) (hx : lenV x = some n) (hs : srcCells H n sz x = some news)
    (hl : news.length = n * sz) (ho : news.all V.one = true) (hsz : sz ≠ 0) (hn : n ≠ 0) (hb : (len + n) * bytes ≤ 140737488355328) (hb2 : len + n ≤ 9223372036854775807) :
    exec (.app sz bytes) [.slice id 0 len none, x] H = some (.slice H.next 0 (len + n) none, (H.kill id).new (.row false sz (cells ++ news))) := by
  simp only [exec, appendA, hx, hs]
  rw [if_neg (by simp [hl, ho, hsz]), if_neg hn, if_neg (by simp [hb, hb2])]
  simp only [hg]
  rw [if_pos ⟨by trivial, by omega, hco⟩]
  congr 4
  rw [List.drop_zero, ← hc, List.take_length]

/-! ### Ends -/
/-- The function's end. -/
def kend (res : List ARes) (R : V → Heap → Prop) : Exit → Fr → Heap → Prop := fun e fr H' => (e = .normal ∨ e = .ret) ∧ ∃ rs, resAll fr H' res = some rs ∧ R (resV rs) H'
def kfin (R : V → Heap → Prop) (H : Heap) : Option (List V) → Prop
  | some rs => R (resV rs) H
  | none => False
theorem kfin_eq {res : List ARes} {R : V → Heap → Prop} {fr : Fr} {H : Heap} : (∃ rs, resAll fr H res = some rs ∧ R (resV rs) H) ↔ kfin R H (resAll fr H res) := by
  cases resAll fr H res <;> simp [kfin]
theorem s_kendr {res : List ARes} {R : V → Heap → Prop} {fr : Fr} {H : Heap} : kend res R .ret fr H = kfin R H (resAll fr H res) := by
  simp [kend, kfin_eq]
theorem s_kendn {res : List ARes} {R : V → Heap → Prop} {fr : Fr} {H : Heap} : kend res R .normal fr H = kfin R H (resAll fr H res) := by
  simp [kend, kfin_eq]
theorem s_kfin {R : V → Heap → Prop} {H : Heap} {rs : List V} : kfin R H (some rs) = R (resV rs) H := rfl
theorem s_resnil {fr : Fr} {H : Heap} : resAll fr H [] = some [] := rfl
theorem s_rescons {fr : Fr} {H : Heap} {r : ARes} {rs : List ARes} : resAll fr H (r :: rs) = evCons (resOne fr H r) (resAll fr H rs) := by
  simp only [resAll, evCons]
  rfl
theorem s_rest {fr : Fr} {H : Heap} {i : Nat} : resOne fr H (.t i) = fr.get i := rfl
def cellsAt (H : Heap) (n : Nat) : Option V → Option V
  | some (.ptr id off) => match H.get id with
    | some (.row _ _ cells) => if off + n ≤ cells.length then some (.agg ((cells.drop off).take n)) else none
    | _ => none
  | _ => none
theorem s_resca {fr : Fr} {H : Heap} {i n : Nat} : resOne fr H (.ca i n) = cellsAt H n (fr.get i) := by
  simp only [resOne, cellsAt]
  rfl
theorem At.cells {H : Heap} {id o : Nat} {e : List V} (h : At H id o e) {n : Nat} (hn : n = e.length) : cellsAt H n (some (.ptr id o)) = some (.agg e) := by
  obtain ⟨ro, esz, cells, h2, h3, h4⟩ := h.take
  subst hn
  simp only [cellsAt, h2, if_pos h3, h4]
theorem s_resV1 {v : V} : resV [v] = v := rfl
theorem s_resV0 : resV [] = .tup [] := rfl
theorem s_resV2 {v u : V} {l : List V} : resV (v :: u :: l) = .tup (v :: u :: l) := rfl

/-! ### Loops -/
section
variable {SC : FuncId → List V → Heap → (V → Heap → Prop) → Prop} {fr : Fr} {H : Heap} {Q : Exit → Fr → Heap → Prop}
/-- The end of a round. -/
def kloop (I : Nat → Fr → Heap → Prop) (k : Nat) (Q : Exit → Fr → Heap → Prop) : Exit → Fr → Heap → Prop := fun e fr H => match e with
  | .normal => ∃ k', k' < k ∧ I k' fr H
  | e => Q e fr H
theorem s_kloop_n (I : Nat → Fr → Heap → Prop) (k : Nat) : kloop I k Q .normal fr H = ∃ k', k' < k ∧ I k' fr H := rfl
theorem s_kloop_r (I : Nat → Fr → Heap → Prop) (k : Nat) : kloop I k Q .ret fr H = Q .ret fr H := rfl
theorem s_kloop_e (I : Nat → Fr → Heap → Prop) (k i : Nat) : kloop I k Q (.exit i) fr H = Q (.exit i) fr H := rfl
theorem wp_loopI {a : ACode} (I : Nat → Fr → Heap → Prop) (k : Nat) (h0 : I k fr H) (h : ∀ k fr H, I k fr H → ∃ fr', FrSub fr' fr ∧ wpC SC a fr' H (kloop I k Q)) : wpC SC (.loop a) fr H Q :=
  ⟨I, k, h0, h⟩
end
end Go.Proofs.YtkmaikggdbielaaGreatDoor.Fw
