/- The framework: all step equations under one name. No condition. Printed by mkSt.py. -/
import Derived.Test.YtkmaikggdbielaaGreatDoorV
namespace Go.Proofs.YtkmaikggdbielaaGreatDoor.Fw
open Go

theorem stp : (((((((∀ {SC : FuncId → List V → Heap → (V → Heap → Prop) → Prop} {fr : Fr} {H : Heap} {Q : Exit → Fr → Heap → Prop}, wpC SC .skip fr H Q = Q .normal fr H) ∧
 (∀ {SC : FuncId → List V → Heap → (V → Heap → Prop) → Prop} {fr : Fr} {H : Heap} {Q : Exit → Fr → Heap → Prop} (l : List AOper), wpC SC (.region l) fr H Q = wpA SC l fr H (Q .normal))) ∧
 ((∀ {SC : FuncId → List V → Heap → (V → Heap → Prop) → Prop} {fr : Fr} {H : Heap} {Q : Exit → Fr → Heap → Prop} (t : DT), wpC SC (.draw t) fr H Q = wpT SC t fr H (Q .normal)) ∧
 ((∀ {SC : FuncId → List V → Heap → (V → Heap → Prop) → Prop} {fr : Fr} {H : Heap} {Q : Exit → Fr → Heap → Prop} (a b : ACode), wpC SC (.seq a b) fr H Q = wpC SC a fr H (kseq SC b Q)) ∧
 (∀ {SC : FuncId → List V → Heap → (V → Heap → Prop) → Prop} {fr : Fr} {H : Heap} {Q : Exit → Fr → Heap → Prop} (x : X) (a b : ACode), wpC SC (.cond x a b) fr H Q = kcond SC a b Q fr H (x.ev fr H))))) ∧
 (((∀ {SC : FuncId → List V → Heap → (V → Heap → Prop) → Prop} {fr : Fr} {H : Heap} {Q : Exit → Fr → Heap → Prop} (id : Nat) (a : ACode), wpC SC (.block id a) fr H Q = wpC SC a fr H (kblock id Q)) ∧
 ((∀ {SC : FuncId → List V → Heap → (V → Heap → Prop) → Prop} {fr : Fr} {H : Heap} {Q : Exit → Fr → Heap → Prop} (id : Nat), wpC SC (.exit id) fr H Q = Q (.exit id) fr H) ∧
 (∀ {SC : FuncId → List V → Heap → (V → Heap → Prop) → Prop} {fr : Fr} {H : Heap} {Q : Exit → Fr → Heap → Prop} (a : ACode), wpC SC (.scope a) fr H Q = wpC SC a fr H (kscope Q)))) ∧
 ((∀ {SC : FuncId → List V → Heap → (V → Heap → Prop) → Prop} {fr : Fr} {H : Heap} {Q : Exit → Fr → Heap → Prop}, wpC SC .ret fr H Q = Q .ret fr H) ∧
 ((∀ {SC : FuncId → List V → Heap → (V → Heap → Prop) → Prop} {fr : Fr} {H : Heap} {K : Fr → Heap → Prop}, wpA SC [] fr H K = K fr H) ∧
 (∀ {SC : FuncId → List V → Heap → (V → Heap → Prop) → Prop} {fr : Fr} {H : Heap} {K : Fr → Heap → Prop} (o : AOper) (l : List AOper), wpA SC (o :: l) fr H K = stepA SC o fr H (kops SC l K)))))) ∧
 ((((∀ {SC : FuncId → List V → Heap → (V → Heap → Prop) → Prop} {fr : Fr} {H : Heap} {K : Fr → Heap → Prop}, wpT SC .done fr H K = K fr H) ∧
 ((∀ {SC : FuncId → List V → Heap → (V → Heap → Prop) → Prop} {fr : Fr} {H : Heap} {K : Fr → Heap → Prop} (o : AOper) (t : DT), wpT SC (.op o t) fr H K = stepA SC o fr H (ktree SC t K)) ∧
 (∀ {SC : FuncId → List V → Heap → (V → Heap → Prop) → Prop} {fr : Fr} {H : Heap} {K : Fr → Heap → Prop} (a b : DT), wpT SC (.fork a b) fr H K = (wpT SC a fr H K ∧ wpT SC b fr H K)))) ∧
 ((∀ {SC : FuncId → List V → Heap → (V → Heap → Prop) → Prop} {fr : Fr} {H : Heap} {K : Fr → Heap → Prop} (l : List AOper), kops SC l K fr H = wpA SC l fr H K) ∧
 ((∀ {SC : FuncId → List V → Heap → (V → Heap → Prop) → Prop} {fr : Fr} {H : Heap} {K : Fr → Heap → Prop} (t : DT), ktree SC t K fr H = wpT SC t fr H K) ∧
 (∀ {SC : FuncId → List V → Heap → (V → Heap → Prop) → Prop} {fr : Fr} {H : Heap} {Q : Exit → Fr → Heap → Prop} (b : ACode), kseq SC b Q .normal fr H = wpC SC b fr H Q)))) ∧
 (((∀ {SC : FuncId → List V → Heap → (V → Heap → Prop) → Prop} {fr : Fr} {H : Heap} {Q : Exit → Fr → Heap → Prop} (b : ACode), kseq SC b Q .ret fr H = Q .ret fr H) ∧
 ((∀ {SC : FuncId → List V → Heap → (V → Heap → Prop) → Prop} {fr : Fr} {H : Heap} {Q : Exit → Fr → Heap → Prop} (b : ACode) (i : Nat), kseq SC b Q (.exit i) fr H = Q (.exit i) fr H) ∧
 (∀ {fr : Fr} {H : Heap} {Q : Exit → Fr → Heap → Prop} (i : Nat), kblock i Q .normal fr H = Q .normal fr H))) ∧
 ((∀ {fr : Fr} {H : Heap} {Q : Exit → Fr → Heap → Prop} (i : Nat), kblock i Q .ret fr H = Q .ret fr H) ∧
 ((∀ {fr : Fr} {H : Heap} {Q : Exit → Fr → Heap → Prop} (i j : Nat), kblock i Q (.exit j) fr H = if j = i then Q .normal fr H else Q (.exit j) fr H) ∧
 (∀ {fr : Fr} {H : Heap} {Q : Exit → Fr → Heap → Prop}, kscope Q .normal fr H = Q .normal fr H)))))) ∧
 (((((∀ {fr : Fr} {H : Heap} {Q : Exit → Fr → Heap → Prop}, kscope Q .ret fr H = Q .ret fr H) ∧
 ((∀ {fr : Fr} {H : Heap} {Q : Exit → Fr → Heap → Prop} (i : Nat), kscope Q (.exit i) fr H = Q (.exit i) fr H) ∧
 (∀ {SC : FuncId → List V → Heap → (V → Heap → Prop) → Prop} {fr : Fr} {H : Heap} {Q : Exit → Fr → Heap → Prop} (a b : ACode), kcond SC a b Q fr H (some (.bool true)) = wpC SC a fr H Q))) ∧
 ((∀ {SC : FuncId → List V → Heap → (V → Heap → Prop) → Prop} {fr : Fr} {H : Heap} {Q : Exit → Fr → Heap → Prop} (a b : ACode), kcond SC a b Q fr H (some (.bool false)) = wpC SC b fr H Q) ∧
 ((∀ {SC : FuncId → List V → Heap → (V → Heap → Prop) → Prop} {fr : Fr} {H : Heap} {K : Fr → Heap → Prop} (d : Option Nat) (k : AK) (xs : List X), stepA SC ⟨d, none, .ex k xs⟩ fr H K = kexec k d K fr H (evL fr H xs)) ∧
 (∀ {SC : FuncId → List V → Heap → (V → Heap → Prop) → Prop} {fr : Fr} {H : Heap} {K : Fr → Heap → Prop} (d : Option Nat) (f : FuncId) (xs : List X), stepA SC ⟨d, none, .callf f xs⟩ fr H K = kcall SC f d K fr H (evL fr H xs))))) ∧
 (((∀ {SC : FuncId → List V → Heap → (V → Heap → Prop) → Prop} {fr : Fr} {H : Heap} {K : Fr → Heap → Prop} (d : Option Nat) (x : X) (xs : List X), stepA SC ⟨d, none, .callv x xs⟩ fr H K = kcallv SC d K fr H (x.ev fr H) (evL fr H xs)) ∧
 ((∀ {SC : FuncId → List V → Heap → (V → Heap → Prop) → Prop} {fr : Fr} {H : Heap} {K : Fr → Heap → Prop} (d : Option Nat) (t : Nat) (b : Bool) (a : AOp), stepA SC ⟨d, some (t, b), a⟩ fr H K = kguard SC ⟨d, none, a⟩ K fr H (guardA fr (some (t, b)))) ∧
 (∀ {SC : FuncId → List V → Heap → (V → Heap → Prop) → Prop} {fr : Fr} {H : Heap} {K : Fr → Heap → Prop} (d : Option Nat) (a : AOp), kguard SC ⟨d, none, a⟩ K fr H (some true) = stepA SC ⟨d, none, a⟩ fr H K))) ∧
 ((∀ {SC : FuncId → List V → Heap → (V → Heap → Prop) → Prop} {fr : Fr} {H : Heap} {K : Fr → Heap → Prop} (d : Option Nat) (a : AOp), kguard SC ⟨d, none, a⟩ K fr H (some false) = K (fr.put d .undef) H) ∧
 ((∀ {fr : Fr} {H : Heap} {K : Fr → Heap → Prop} (k : AK) (d : Option Nat) (vs : List V), kexec k d K fr H (some vs) = kres d K fr (exec k vs H)) ∧
 (∀ {fr : Fr} {H' : Heap} {K : Fr → Heap → Prop} (d : Option Nat) (r : V), kres d K fr (some (r, H')) = K (fr.put d r) H'))))) ∧
 ((((∀ {SC : FuncId → List V → Heap → (V → Heap → Prop) → Prop} {fr : Fr} {H : Heap} {K : Fr → Heap → Prop} (f : FuncId) (d : Option Nat) (vs : List V), kcall SC f d K fr H (some vs) = SC f vs H (kret d K fr)) ∧
 ((∀ {SC : FuncId → List V → Heap → (V → Heap → Prop) → Prop} {fr : Fr} {H : Heap} {K : Fr → Heap → Prop} (d : Option Nat) (f : FuncId) (a b vs : List V), kcallv SC d K fr H (some (.fn (.func f) a b)) (some vs) = SC f (a ++ vs ++ b) H (kret d K fr)) ∧
 (∀ {fr : Fr} {H : Heap} {K : Fr → Heap → Prop} (d : Option Nat) (r : V), kret d K fr r H = K (fr.put d r) H))) ∧
 ((∀ {fr : Fr} (d : Nat) (v : V), fr.put (some d) v = (d, v) :: fr) ∧
 ((∀ {fr : Fr} (v : V), fr.put none v = fr) ∧
 (∀ {fr : Fr} (t s : Nat) (v : V), Fr.get ((s, v) :: fr) t = if s = t then some v else fr.get t)))) ∧
 (((∀ {fr : Fr} {H : Heap} (t : Nat), (X.s t).ev fr H = fr.get t) ∧
 ((∀ {fr : Fr} {H : Heap} (v : V), (X.k v).ev fr H = some v) ∧
 (∀ {fr : Fr} {H : Heap}, evL fr H [] = some []))) ∧
 ((∀ {fr : Fr} {H : Heap} (x : X) (xs : List X), evL fr H (x :: xs) = evCons (x.ev fr H) (evL fr H xs)) ∧
 ((∀ (v : V) (vs : List V), evCons (some v) (some vs) = some (v :: vs)) ∧
 (∀ {fr : Fr} (t : Nat) (b : Bool), guardA fr (some (t, b)) = guardV (fr.get t) b))))))) ∧
 ((((((∀ (c b : Bool), guardV (some (.bool c)) b = some (c == b)) ∧
 (∀ (b : Bool), guardV (some (.tup [])) b = some false)) ∧
 ((∀ {Q : Exit → Fr → Heap → Prop} (b : Nat) (R : Fr → Heap → Prop) (fr : Fr) (H : Heap), kround b R Q .normal fr H = R fr H) ∧
 ((∀ {Q : Exit → Fr → Heap → Prop} (b : Nat) (R : Fr → Heap → Prop) (fr : Fr) (H : Heap), kround b R Q .ret fr H = Q .ret fr H) ∧
 (∀ {Q : Exit → Fr → Heap → Prop} (b j : Nat) (R : Fr → Heap → Prop) (fr : Fr) (H : Heap), kround b R Q (.exit j) fr H = if j = b then R fr H else Q (.exit j) fr H)))) ∧
 (((∀ {fr : Fr} {H : Heap} {Q : Exit → Fr → Heap → Prop} (I : Nat → Fr → Heap → Prop) (k : Nat), kloop I k Q .normal fr H = ∃ k', k' < k ∧ I k' fr H) ∧
 ((∀ {fr : Fr} {H : Heap} {Q : Exit → Fr → Heap → Prop} (I : Nat → Fr → Heap → Prop) (k : Nat), kloop I k Q .ret fr H = Q .ret fr H) ∧
 (∀ {fr : Fr} {H : Heap} {Q : Exit → Fr → Heap → Prop} (I : Nat → Fr → Heap → Prop) (k i : Nat), kloop I k Q (.exit i) fr H = Q (.exit i) fr H))) ∧
 ((∀ {H : Heap} (v : V), exec .mov [v] H = some (v, H)) ∧
 ((∀ {H : Heap} (u v : V), exec (.konst u) [v] H = some (u, H)) ∧
 (∀ {H : Heap} (c : Bool) (a b : V), exec .pick [.bool c, a, b] H = some (if c then a else b, H)))))) ∧
 ((((∀ {H : Heap} (id off : Nat), exec .nilck [.ptr id off] H = some (.ptr id off, H)) ∧
 ((∀ {H : Heap} (a b : Int), exec (.ibin .add) [.int .i64 a, .int .i64 b] H = some (.int .i64 (IntKind.i64.wrap (a + b)), H)) ∧
 (∀ {H : Heap} (a b : Int), exec (.ibin .sub) [.int .i64 a, .int .i64 b] H = some (.int .i64 (IntKind.i64.wrap (a - b)), H)))) ∧
 ((∀ {H : Heap} (k : IntKind) (a b : Int), exec (.ibin .lss) [.int k a, .int k b] H = some (.bool (decide (a < b)), H)) ∧
 ((∀ {H : Heap} (k : IntKind) (a b : Int), exec (.ibin .leq) [.int k a, .int k b] H = some (.bool (decide (a ≤ b)), H)) ∧
 (∀ {H : Heap} (k : IntKind) (a b : Int), exec (.ibin .gtr) [.int k a, .int k b] H = some (.bool (decide (a > b)), H))))) ∧
 (((∀ {H : Heap} (k : IntKind) (a b : Int), exec (.ibin .geq) [.int k a, .int k b] H = some (.bool (decide (a ≥ b)), H)) ∧
 ((∀ {H : Heap} (k : IntKind) (a b : Int), exec (.ibin .eql) [.int k a, .int k b] H = some (.bool (decide (a = b)), H)) ∧
 (∀ {H : Heap} (k : IntKind) (a b : Int), exec (.ibin .neq) [.int k a, .int k b] H = some (.bool (!decide (a = b)), H)))) ∧
 ((∀ {H : Heap} (b : Bool), exec .bnot [.bool b] H = some (.bool !b, H)) ∧
 ((∀ {H : Heap} (id off k : Nat), exec (.fa k) [.ptr id off] H = some (.ptr id (off + k), H)) ∧
 (∀ {H : Heap} (i : Nat) (ws : List V), exec (.ext i) [.tup ws] H = (ws[i]?).map (·, H))))))) ∧
 (((((∀ {H : Heap} (f : Fn) (n : Nat) (vs : List V), exec (.mkfn f n) vs H = some (.fn f (vs.take n) (vs.drop n), H)) ∧
 ((∀ (h : Decidable True), @decide True h = true) ∧
 (∀ (h : Decidable False), @decide False h = false))) ∧
 (((!true) = false) ∧
 (((!false) = true) ∧
 (∀ (b : Bool), (true == b) = b)))) ∧
 (((∀ (b : Bool), (false == b) = !b) ∧
 ((∀ (b : Bool), (b == true) = b) ∧
 (∀ (b : Bool), (b == false) = !b))) ∧
 ((∀ {res : List ARes} {R : V → Heap → Prop} {fr : Fr} {H : Heap}, kend res R .ret fr H = kfin R H (resAll fr H res)) ∧
 ((∀ {res : List ARes} {R : V → Heap → Prop} {fr : Fr} {H : Heap}, kend res R .normal fr H = kfin R H (resAll fr H res)) ∧
 (∀ {R : V → Heap → Prop} {H : Heap} {rs : List V}, kfin R H (some rs) = R (resV rs) H))))) ∧
 ((((∀ {fr : Fr} {H : Heap}, resAll fr H [] = some []) ∧
 ((∀ {fr : Fr} {H : Heap} {r : ARes} {rs : List ARes}, resAll fr H (r :: rs) = evCons (resOne fr H r) (resAll fr H rs)) ∧
 (∀ {fr : Fr} {H : Heap} {i : Nat}, resOne fr H (.t i) = fr.get i))) ∧
 ((∀ {fr : Fr} {H : Heap} {i n : Nat}, resOne fr H (.ca i n) = cellsAt H n (fr.get i)) ∧
 ((∀ {v : V}, resV [v] = v) ∧
 (resV [] = .tup [])))) ∧
 (((∀ {v u : V} {l : List V}, resV (v :: u :: l) = .tup (v :: u :: l)) ∧
 ((∀ {SC : FuncId → List V → Heap → (V → Heap → Prop) → Prop} {fr : Fr} {H : Heap} {K : Fr → Heap → Prop} (d : Option Nat) (f : FuncId) (x : X), stepA SC ⟨d, none, .ffrom f x⟩ fr H K = kffrom d K fr H (x.ev fr H)) ∧
 (∀ {SC : FuncId → List V → Heap → (V → Heap → Prop) → Prop} {fr : Fr} {H : Heap} {K : Fr → Heap → Prop} (d : Option Nat) (f : FuncId) (x : X), stepA SC ⟨d, none, .fbits f x⟩ fr H K = kfbits d K fr H (x.ev fr H)))) ∧
 ((∀ {fr : Fr} {H : Heap} {K : Fr → Heap → Prop} (d : Option Nat) (n : Int), kffrom d K fr H (some (.int .u64 n)) = K (fr.put d (.float .f64 n.toNat)) H) ∧
 ((∀ {fr : Fr} {H : Heap} {K : Fr → Heap → Prop} (d : Option Nat) (b : Nat), kfbits d K fr H (some (.float .f64 b)) = K (fr.put d (.int .u64 b)) H) ∧
 (∀ (s : ByteArray) (H : Heap), exec .slen [.str s] H = some (.int .i64 s.size, H))))))))) :=
  And.intro (And.intro (And.intro (And.intro (And.intro (And.intro (@s_skip) (@s_region)) (And.intro (@s_draw) (And.intro (@s_seq) (@s_cond)))) (And.intro (And.intro (@s_block) (And.intro (@s_exit) (@s_scope))) (And.intro (@s_ret) (And.intro (@s_nil) (@s_cons))))) (And.intro (And.intro (And.intro (@s_done) (And.intro (@s_op) (@s_fork))) (And.intro (@s_kops) (And.intro (@s_ktree) (@s_kseq_n)))) (And.intro (And.intro (@s_kseq_r) (And.intro (@s_kseq_e) (@s_kblock_n))) (And.intro (@s_kblock_r) (And.intro (@s_kblock_e) (@s_kscope_n)))))) (And.intro (And.intro (And.intro (And.intro (@s_kscope_r) (And.intro (@s_kscope_e) (@s_kcond_t))) (And.intro (@s_kcond_f) (And.intro (@s_ex) (@s_call)))) (And.intro (And.intro (@s_callv) (And.intro (@s_guard) (@s_kguard_t))) (And.intro (@s_kguard_f) (And.intro (@s_kexec) (@s_kres))))) (And.intro (And.intro (And.intro (@s_kcall) (And.intro (@s_kcallv) (@s_kret))) (And.intro (@s_put) (And.intro (@s_putn) (@s_get)))) (And.intro (And.intro (@s_evs) (And.intro (@s_evk) (@s_evnil))) (And.intro (@s_evcons) (And.intro (@s_evC) (@s_g))))))) (And.intro (And.intro (And.intro (And.intro (And.intro (@s_gb) (@s_gu)) (And.intro (@s_kround_n) (And.intro (@s_kround_r) (@s_kround_e)))) (And.intro (And.intro (@s_kloop_n) (And.intro (@s_kloop_r) (@s_kloop_e))) (And.intro (@x_mov) (And.intro (@x_konst) (@x_pick))))) (And.intro (And.intro (And.intro (@x_nilck) (And.intro (@x_add) (@x_sub))) (And.intro (@x_lss) (And.intro (@x_leq) (@x_gtr)))) (And.intro (And.intro (@x_geq) (And.intro (@x_eql) (@x_neq))) (And.intro (@x_not) (And.intro (@x_fa) (@x_ext)))))) (And.intro (And.intro (And.intro (And.intro (@x_mkfn) (And.intro (@decide_true) (@decide_false))) (And.intro (Bool.not_true) (And.intro (Bool.not_false) (@Bool.true_beq)))) (And.intro (And.intro (@Bool.false_beq) (And.intro (@beq_true) (@beq_false))) (And.intro (@s_kendr) (And.intro (@s_kendn) (@s_kfin))))) (And.intro (And.intro (And.intro (@s_resnil) (And.intro (@s_rescons) (@s_rest))) (And.intro (@s_resca) (And.intro (@s_resV1) (@s_resV0)))) (And.intro (And.intro (@s_resV2) (And.intro (@s_ffrom) (@s_fbits))) (And.intro (@s_kffrom) (And.intro (@s_kfbits) (@x_slen)))))))
end Go.Proofs.YtkmaikggdbielaaGreatDoor.Fw
