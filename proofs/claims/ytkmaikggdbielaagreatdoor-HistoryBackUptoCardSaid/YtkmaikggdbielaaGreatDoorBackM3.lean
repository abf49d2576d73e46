/- Part 3 of the proof. HistoryBack: of groups that were pushed the newest ones, at most max, are undone, the newest first, and done again, the other way round; then all is as it was; on the one condition that the arguments hold together at most 2^20 data, as the statement's own bound says. -/
import Derived.Test.YtkmaikggdbielaaGreatDoorY
import Derived.Test.YtkmaikggdbielaaGreatDoorBackM2

/- The maker's Insert. No condition. -/
namespace Go.Proofs.YtkmaikggdbielaaGreatDoor.Fw
open Go
set_option linter.unusedSimpArgs false
set_option linter.unusedVariables false

theorem flat_set {sz : Nat} (v : V) : ∀ {es : List (List V)} (_ : ∀ e ∈ es, e.length = sz) {k c : Nat} (hk : k < es.length), c < sz → es.flatten.set (k * sz + c) v = (es.set k (es[k].set c v)).flatten
  | [], h, k, c, hk, hc => by simp at hk
  | x :: es, h, 0, c, hk, hc => by
    have hx := h x (by simp)
    simp only [List.flatten_cons, Nat.zero_mul, Nat.zero_add, List.set_cons_zero, List.getElem_cons_zero]
    rw [List.set_append_left _ _ (by omega)]
  | x :: es, h, k + 1, c, hk, hc => by
    have hx := h x (by simp)
    have ih := flat_set v (es := es) (fun y hy => h y (List.mem_cons_of_mem _ hy)) (k := k) (c := c) (by simpa using hk) hc
    simp only [List.flatten_cons, List.set_cons_succ, List.getElem_cons_succ]
    rw [List.set_append_right _ _ (by rw [hx, Nat.add_mul]; omega), hx, ← ih]
    congr 2
    rw [Nat.add_mul]; omega
theorem Own.cell {H : Heap} {id sz : Nat} {es : List (List V)} (h : Own H id sz es) {k c : Nat} (hk : k < es.length) (hc : c < sz) {v : V} (hv : v.cells = [v]) (ho : v.one = true) :
    exec (.st 1) [.ptr id (0 + k * sz + c), v] H = some (.undef, H.set id (.row false sz (es.set k (es[k].set c v)).flatten)) ∧ Own (H.set id (.row false sz (es.set k (es[k].set c v)).flatten)) id sz (es.set k (es[k].set c v)) := by
  have hf := flatLen fun e he => (h.len e he).1
  have hm : (k + 1) * sz ≤ es.length * sz := Nat.mul_le_mul_right _ (by omega)
  rw [Nat.add_mul] at hm
  have h1 := st_cell (v := v) h.get (k := k * sz + c) (by omega) hv ho
  rw [Nat.zero_add, h1, flat_set v (fun e he => (h.len e he).1) hk hc]
  refine ⟨rfl, h.lt, set_get' _ _ _, fun y hy => ?_⟩
  rcases List.mem_or_eq_of_mem_set hy with hy | rfl
  · exact h.len y hy
  · obtain ⟨q1, q2⟩ := h.len es[k] (List.getElem_mem hk)
    refine ⟨by simpa using q1, List.all_eq_true.2 fun u hu => ?_⟩
    rcases List.mem_or_eq_of_mem_set hu with hu | rfl
    · exact List.all_eq_true.1 q2 u hu
    · exact ho

theorem Vec.some {H : Heap} {r : V} {sz : Nat} {es : List (List V)} {k : Option Nat} (h : Vec H r sz es k) (h0 : k = none → es = []) (hne : es ≠ []) : ∃ i, k = some i ∧ r = .slice i 0 es.length none ∧ Own H i sz es := by
  obtain ⟨_, ⟨_, e, _⟩ | ⟨_, _, _, _, e⟩ | ⟨id, e1, e2, e3⟩ | ⟨e, _⟩⟩ := h
  · exact absurd e hne
  · exact absurd (h0 e) hne
  · exact ⟨id, e3, e1, e2⟩
  · exact absurd e hne

/-- The last insert grows. -/
theorem insert_grow {H : Heap} (hw : WF H) {M : Nat → Prop} {p : Nat} {m : MkC} {dv iv : V} {dcs : List (List V)} {dk ik rk : Option Nat} {ei : List (List V)} {el : List V} (h : MkP H M p m dv iv dcs (ei ++ [el]) dk ik rk) {ci' : List OpC} {cl' : OpC} {r : Nat} (er : rk = some r)
    (ha2 : All2 (OpZ M H) ei ci') (hz : LastZ M H el cl' r) {lv : V} {ls : List Int} (hlv : SL H lv 1 (ls.map fun x => [V.int .i32 x])) (hne : ls ≠ []) (hb : cl'.rs.length + ls.length ≤ big) {i : Nat} (hiv0 : iv = .slice i 0 (ei.length + 1) none) :
    ∃ rv H1 H2 M', exec (.app 1 4) [.slice r 0 cl'.rs.length none, lv] H = some (rv, H1) ∧
      exec (.ld 1) [.ptr p (0 + 1)] H1 = some (iv, H1) ∧ exec (.st 1) [.ptr i (0 + ei.length * 5 + 2), rv] H1 = some (.undef, H2) ∧
      MkI H2 M' p ⟨m.done, ci' ++ [⟨cl'.kind, cl'.n, cl'.rs ++ ls, cl'.ats, cl'.chs⟩], m.gone⟩ ∧ ExtM M H H2 ∧ MGrow M M' H ∧ WF H2 := by
  unfold big at hb
  obtain ⟨i', hik, hiv, hio⟩ := h.ivec.some h.inn (by simp)
  rw [List.length_append] at hiv
  obtain rfl : i = i' := by
    rw [hiv0] at hiv
    simp only [V.slice.injEq] at hiv
    exact hiv.1
  have hrl := hz.own.lt
  have hrn : cl'.rs ≠ [] := hz.ne
  obtain ⟨s1, s2⟩ := hlv.src (by simpa using hne)
  rw [List.length_map] at s1 s2
  have hvr : Vec H (.slice r 0 cl'.rs.length none) 1 (cl'.rs.map fun x => [V.int .i32 x]) (some r) := ⟨hz.own.len, .inr (.inr (.inl ⟨r, by rw [List.length_map], hz.own, rfl⟩))⟩
  obtain ⟨H1, ha, hv1, ho1, hw1, hn1, hgn1, hk1⟩ := hvr.app (bytes := 4) (n := ls.length) (news := ls.map fun x => [V.int .i32 x]) hw (by decide) (by simp) (fun q => hne (List.length_eq_zero_iff.1 q)) s1 s2 hlv.1 (by rw [List.length_map]; omega) (by rw [List.length_map]; omega)
  rw [List.length_map] at ha hv1
  rw [← List.map_append] at hv1 ho1
  have hdl : ∀ j, dk = some j → j < H.next := fun j e => by have := h.dvec; rw [e] at this; exact this.lt
  have hil := hio.lt
  have hpl := h.lt
  have hri : r ≠ i := fun q => (h.mr r er).2.2 (by rw [hik, q])
  have hrp := (h.mr r er).1
  have hip : i ≠ p := (h.mi i hik).2
  have hp1 : H1.get p = some (.row false 3 [dv, iv, .int .i64 m.gone]) := by rw [hk1 p hpl (fun q => hrp (by cases q; rfl))]; exact h.at'
  have hat1 : At H1 p 0 [dv, iv, .int .i64 m.gone] := ⟨by omega, false, 3, _, hp1, by simp, fun j v hj => by rw [Nat.zero_add]; exact hj⟩
  have hio1 : Own H1 i 5 (ei ++ [el]) := ⟨by omega, by rw [hk1 i hil (fun q => hri (by cases q; rfl))]; exact hio.get, hio.len⟩
  obtain ⟨q1, q2⟩ := hio1.cell (k := ei.length) (c := 2) (by simp) (by decide) (v := .slice H.next 0 (cl'.rs.length + ls.length) none) rfl rfl
  have hset : (ei ++ [el]).set ei.length ((ei ++ [el])[ei.length].set 2 (.slice H.next 0 (cl'.rs.length + ls.length) none)) = ei ++ [el.set 2 (.slice H.next 0 (cl'.rs.length + ls.length) none)] := by simp
  rw [hset] at q1 q2
  refine ⟨_, H1, _, fun j => M j ∨ j = H.next, ha, hat1.ld (j := 1) rfl 1, q1, ?_, ?_, ?_, ?_⟩
  rotate_left
  · refine ⟨by rw [Heap.set_gn, hgn1], by rw [Heap.set_next]; omega, fun j hj hm => ?_⟩
    rw [Heap.set_get, if_neg (fun q => hm (by rw [q]; exact (h.mi i hik).1)), hk1 j hj (fun q => hm (by cases q; exact hz.mr))]
  · intro j hj
    rcases hj with q | q
    · exact .inl q
    · exact .inr (by omega)
  · exact hw1.set hio1.get _
  have hM : ExtM M H (H1.set i (.row false 5 (ei ++ [el.set 2 (.slice H.next 0 (cl'.rs.length + ls.length) none)]).flatten)) := by
    refine ⟨by rw [Heap.set_gn, hgn1], by rw [Heap.set_next]; omega, fun j hj hm => ?_⟩
    rw [Heap.set_get, if_neg (fun q => hm (by rw [q]; exact (h.mi i hik).1)), hk1 j hj (fun q => hm (by cases q; exact hz.mr))]
  have hG : MGrow M (fun j => M j ∨ j = H.next) H := fun j hj => by
    rcases hj with q | q
    · exact .inl q
    · exact .inr (by omega)
  have hxx : ∀ j, j < H1.next → j ≠ i → (H1.set i (.row false 5 (ei ++ [el.set 2 (.slice H.next 0 (cl'.rs.length + ls.length) none)]).flatten)).get j = H1.get j := fun j hj hi => by rw [Heap.set_get, if_neg hi]
  have hn2 : (H1.set i (.row false 5 (ei ++ [el.set 2 (.slice H.next 0 (cl'.rs.length + ls.length) none)]).flatten)).next = H1.next := rfl
  generalize H1.set i (.row false 5 (ei ++ [el.set 2 (.slice H.next 0 (cl'.rs.length + ls.length) none)]).flatten) = H2 at *
  refine ⟨dv, iv, dcs, ei ++ [el.set 2 (.slice H.next 0 (cl'.rs.length + ls.length) none)], dk, ik, some H.next, by omega, .inl h.mp, fun j hj => ?_, ?_, ?_, ?_, fun j e => ⟨.inl (h.md j e).1, (h.md j e).2⟩, fun j e => ⟨.inl (h.mi j e).1, (h.mi j e).2⟩, h.di, ?_, ?_, ?_, h.dn, fun e => by rw [hik] at e; cases e⟩
  · rcases hj with q | q
    · have := h.mb j q; omega
    · omega
  · rw [hxx p (by omega) (Ne.symm hip)]; exact hp1
  · refine h.dvec.keep (by omega) (fun j e => ?_) (fun e s => ?_)
    · have := hdl j e
      rw [hxx j (by omega) (fun q => h.di j e (by rw [hik, q])), hk1 j this (fun q => (h.mr r er).2.1 (by cases q; exact e))]
    · rw [h.dn e] at s ⊢
      exact s.empty (by omega)
  · exact ⟨q2.len, .inr (.inr (.inl ⟨i, by rw [hiv]; simp, q2, hik⟩))⟩
  · intro j e
    cases e
    refine ⟨by omega, fun q => ?_, fun q => ?_⟩
    · have := hdl _ q; omega
    · rw [hik] at q; cases q; omega
  · exact All2.imp (fun a b q => q.step hM hG) h.done
  · refine .inr ⟨ei, _, ci', _, H.next, rfl, rfl, rfl, All2.imp (fun a b q => q.step hM hG) ha2, ?_⟩
    obtain ⟨sv, hel, hsv⟩ := hz.sh
    refine ⟨⟨sv, by rw [hel]; simp, hsv.step hM hG⟩, ⟨by omega, by rw [hxx _ (by omega) (by omega)]; exact ho1.get, ho1.len⟩, .inr rfl, ?_, by simp [hrn], hz.is⟩
    have ok := hz.ok
    exact ⟨by rw [List.length_append]; unfold big; omega, ok.al, ok.cl, ok.sa, ok.sc, ok.nlo, ok.nhi⟩

def insLast (ins : List OpC) (ls : List Int) (ats : List AttrA) : List OpC :=
  match ins.getLast? with
  | some cl => if listEq attrEq cl.ats ats then ins.dropLast ++ [⟨cl.kind, cl.n, cl.rs ++ ls, cl.ats, cl.chs⟩] else ins ++ [⟨2, 0, ls, ats, []⟩]
  | none => ins ++ [⟨2, 0, ls, ats, []⟩]
def MkC.insert (m : MkC) (ls : List Int) (ats : List AttrA) : MkC := if ls = [] then m else ⟨m.done, insLast m.ins ls ats, m.gone⟩

def insNew : ACode :=
 (.draw (.op ⟨some 51, none, .ex (.mov) [.s 0]⟩ (.op ⟨some 52, none, .ex (.mov) [.s 0]⟩ (.op ⟨some 53, none, .ex (.nilck) [.s 52]⟩ (.op ⟨some 54, none, .ex (.fa 1) [.s 53]⟩ (.op ⟨some 56, none, .ex (.mov) [.s 1]⟩ (.op ⟨some 58, none, .ex (.mov) [.s 2]⟩ (.fork (.op ⟨some 55, none, .ex (.ld 1) [.s 54]⟩ (.op ⟨some 57, none, .callf 51 [.s 56]⟩ (.op ⟨some 59, none, .callf 52 [.s 58]⟩ (.op ⟨some 60, none, .ex (.build [(.int .u8 0), (.int .i64 0), .nils, .nils, .nils] [(0, 1), (2, 1), (3, 1)]) [.k (.int .u8 2), .s 57, .s 59]⟩ (.op ⟨some 61, none, .ex (.bsl 5 1 [(.int .u8 0), (.int .i64 0), .nils, .nils, .nils] [(0, 5)]) [.s 60]⟩ (.op ⟨some 62, none, .ex (.app 5 88) [.s 55, .s 61]⟩ (.op ⟨some 63, none, .ex (.nilck) [.s 51]⟩ (.op ⟨some 64, none, .ex (.fa 1) [.s 63]⟩ (.op ⟨none, none, .ex (.st 1) [.s 64, .s 62]⟩ .done))))))))) (.op ⟨some 57, none, .callf 51 [.s 56]⟩ (.fork (.op ⟨some 55, none, .ex (.ld 1) [.s 54]⟩ (.op ⟨some 59, none, .callf 52 [.s 58]⟩ (.op ⟨some 60, none, .ex (.build [(.int .u8 0), (.int .i64 0), .nils, .nils, .nils] [(0, 1), (2, 1), (3, 1)]) [.k (.int .u8 2), .s 57, .s 59]⟩ (.op ⟨some 61, none, .ex (.bsl 5 1 [(.int .u8 0), (.int .i64 0), .nils, .nils, .nils] [(0, 5)]) [.s 60]⟩ (.op ⟨some 62, none, .ex (.app 5 88) [.s 55, .s 61]⟩ (.op ⟨some 63, none, .ex (.nilck) [.s 51]⟩ (.op ⟨some 64, none, .ex (.fa 1) [.s 63]⟩ (.op ⟨none, none, .ex (.st 1) [.s 64, .s 62]⟩ .done)))))))) (.op ⟨some 59, none, .callf 52 [.s 58]⟩ (.op ⟨some 55, none, .ex (.ld 1) [.s 54]⟩ (.op ⟨some 60, none, .ex (.build [(.int .u8 0), (.int .i64 0), .nils, .nils, .nils] [(0, 1), (2, 1), (3, 1)]) [.k (.int .u8 2), .s 57, .s 59]⟩ (.op ⟨some 61, none, .ex (.bsl 5 1 [(.int .u8 0), (.int .i64 0), .nils, .nils, .nils] [(0, 5)]) [.s 60]⟩ (.op ⟨some 62, none, .ex (.app 5 88) [.s 55, .s 61]⟩ (.op ⟨some 63, none, .ex (.nilck) [.s 51]⟩ (.op ⟨some 64, none, .ex (.fa 1) [.s 63]⟩ (.op ⟨none, none, .ex (.st 1) [.s 64, .s 62]⟩ .done))))))))))))))))))

def fn102' : AFn := ⟨65,
 (.seq
  (.seq
   (.region [⟨some 7, none, .ex (.mov) [.s 0]⟩,
     ⟨some 8, none, .ex (.eqnil 0 false) [.s 7, .k .nilp]⟩,
     ⟨some 9, none, .ex (.mov) [.s 8]⟩,
     ⟨some 10, some (9, false), .ex (.mov) [.s 1]⟩,
     ⟨some 11, some (9, false), .ex (.len) [.s 10]⟩,
     ⟨some 12, some (9, false), .ex (.ibin .eql) [.s 11, .k (.int .i64 0)]⟩,
     ⟨some 13, none, .ex (.pick) [.s 9, .k (.bool true), .s 12]⟩])
   (.cond (.s 13)
    .ret
    .skip))
  (.seq
   (.region [⟨some 14, none, .ex (.mov) [.s 0]⟩,
     ⟨some 15, none, .ex (.nilck) [.s 14]⟩,
     ⟨some 16, none, .ex (.fa 1) [.s 15]⟩,
     ⟨some 17, none, .ex (.ld 1) [.s 16]⟩,
     ⟨some 18, none, .ex (.len) [.s 17]⟩,
     ⟨some 19, none, .ex (.ibin .sub) [.s 18, .k (.int .i64 1)]⟩,
     ⟨some 6, none, .ex (.mov) [.s 19]⟩])
   (.seq
    (.seq
     (.region [⟨some 20, none, .ex (.mov) [.s 6]⟩,
       ⟨some 21, none, .ex (.ibin .geq) [.s 20, .k (.int .i64 0)]⟩,
       ⟨some 22, none, .ex (.mov) [.s 21]⟩,
       ⟨some 23, some (22, true), .ex (.mov) [.s 0]⟩,
       ⟨some 24, some (22, true), .ex (.nilck) [.s 23]⟩,
       ⟨some 25, some (22, true), .ex (.fa 1) [.s 24]⟩,
       ⟨some 26, some (22, true), .ex (.ld 1) [.s 25]⟩,
       ⟨some 27, some (22, true), .ex (.mov) [.s 6]⟩,
       ⟨some 28, some (22, true), .ex (.ia 5) [.s 26, .s 27]⟩,
       ⟨some 29, some (22, true), .ex (.fa 3) [.s 28]⟩,
       ⟨some 30, some (22, true), .ex (.ld 1) [.s 29]⟩,
       ⟨some 31, some (22, true), .ex (.mov) [.s 2]⟩,
       ⟨some 32, some (22, true), .callf 121 [.s 30, .s 31]⟩,
       ⟨some 33, none, .ex (.pick) [.s 22, .s 32, .k (.bool false)]⟩])
     (.cond (.s 33)
      (.seq
       (.draw (.op ⟨some 34, none, .ex (.mov) [.s 0]⟩ (.op ⟨some 35, none, .ex (.nilck) [.s 34]⟩ (.op ⟨some 36, none, .ex (.fa 1) [.s 35]⟩ (.op ⟨some 38, none, .ex (.mov) [.s 6]⟩ (.op ⟨some 39, none, .ex (.mov) [.s 0]⟩ (.op ⟨some 40, none, .ex (.nilck) [.s 39]⟩ (.op ⟨some 41, none, .ex (.fa 1) [.s 40]⟩ (.op ⟨some 42, none, .ex (.ld 1) [.s 41]⟩ (.op ⟨some 43, none, .ex (.mov) [.s 6]⟩ (.op ⟨some 44, none, .ex (.ia 5) [.s 42, .s 43]⟩ (.op ⟨some 45, none, .ex (.fa 2) [.s 44]⟩ (.op ⟨some 46, none, .ex (.ld 1) [.s 45]⟩ (.op ⟨some 47, none, .ex (.mov) [.s 1]⟩ (.fork (.op ⟨some 37, none, .ex (.ld 1) [.s 36]⟩ (.op ⟨some 48, none, .ex (.app 1 4) [.s 46, .s 47]⟩ (.op ⟨some 49, none, .ex (.ia 5) [.s 37, .s 38]⟩ (.op ⟨some 50, none, .ex (.fa 2) [.s 49]⟩ (.op ⟨none, none, .ex (.st 1) [.s 50, .s 48]⟩ .done))))) (.op ⟨some 48, none, .ex (.app 1 4) [.s 46, .s 47]⟩ (.op ⟨some 37, none, .ex (.ld 1) [.s 36]⟩ (.op ⟨some 49, none, .ex (.ia 5) [.s 37, .s 38]⟩ (.op ⟨some 50, none, .ex (.fa 2) [.s 49]⟩ (.op ⟨none, none, .ex (.st 1) [.s 50, .s 48]⟩ .done))))))))))))))))))))
       .ret)
      .skip))
    insNew))),
 []⟩
theorem c102' : compFn Go.Proofs.Tryz.prog 102 = some fn102' := c102

theorem x_buildI {rv sv : V} (hr : rv.cells = [rv]) (hs : sv.cells = [sv]) (H : Heap) : exec (.build [.int .u8 0, .int .i64 0, .nils, .nils, .nils] [(0, 1), (2, 1), (3, 1)]) [.int .u8 2, rv, sv] H = some (.agg [.int .u8 2, .int .i64 0, rv, sv, .nils], H) := by
  have hf : fillA [V.int .u8 0, .int .i64 0, .nils, .nils, .nils] [((0, 1), .int .u8 2), ((2, 1), rv), ((3, 1), sv)] = some [.int .u8 2, .int .i64 0, rv, sv, .nils] := by
    simp only [fillA, hr, hs]
    rfl
  show (fillA [V.int .u8 0, .int .i64 0, .nils, .nils, .nils] [((0, 1), .int .u8 2), ((2, 1), rv), ((3, 1), sv)]).map (fun cs => (V.agg cs, H)) = _
  rw [hf]
  rfl
theorem cloneR_calls {x : V} {H : Heap} {rs : List Int} (hx : SL H x 1 (rs.map fun r => [V.int .i32 r])) (hl : rs.length ≤ big) :
    SCalls PP 51 [x] H fun r H' => Ext H H' ∧ WF H' ∧ ∃ k, Vec H' r 1 (rs.map fun r => [V.int .i32 r]) k ∧ (∀ j, k = some j → H.next ≤ j) ∧ (rs.map (fun r => [V.int .i32 r]) ≠ [] → ∃ j, k = some j ∧ Own H' j 1 (rs.map fun r => [V.int .i32 r]) ∧ r = .slice j 0 (rs.map fun r => [V.int .i32 r]).length none) ∧ (k = none → rs.map (fun r => [V.int .i32 r]) = []) :=
  clone_gen (show compFn PP 51 = some (cloneFn 1 4) from c51) (by decide) (by decide) hx (by simpa using hl)
theorem attrsCopy_calls {x : V} {H : Heap} {ats : List AttrA} (hx : SL H x 5 (ats.map AttrA.cells)) (hl : ats.length ≤ big) :
    SCalls PP 52 [x] H fun r H' => Ext H H' ∧ WF H' ∧ ∃ k, Vec H' r 5 (ats.map AttrA.cells) k ∧ (∀ j, k = some j → H.next ≤ j) ∧ (k = none → ats = []) := by
  refine SCalls.go c52 (by simp [fn52]) fun hw => ?_
  simp (maxSteps := 1000000) (implicitDefEqProofs := false) only [stp, if_true, if_false, Int.reduceEq, Int.reduceLT, Int.reduceLE, Int.reduceGT, Int.reduceGE, reduceCtorEq, Nat.reduceEqDiff, List.getElem?_cons_zero, List.getElem?_cons_succ, Option.map_some, fn52, enterFr, List.length, List.range, List.range.loop, List.zip, List.zipWith]
  refine SCalls.mono (clone_gen (show compFn PP 72 = some (cloneFn 5 48) from c72) (by decide) (by decide) hx (by simpa using hl)) ?_
  rintro r H' ⟨h1, h2, k, h3, h4, _, h5⟩
  simp (maxSteps := 1000000) (implicitDefEqProofs := false) only [stp, if_true, if_false, Int.reduceEq, Int.reduceLT, Int.reduceLE, Int.reduceGT, Int.reduceGE, reduceCtorEq, Nat.reduceEqDiff, List.getElem?_cons_zero, List.getElem?_cons_succ, Option.map_some, if_true]
  exact ⟨h1, h2, k, h3, h4, fun e => by simpa using h5 e⟩

set_option maxRecDepth 20000 in
set_option maxHeartbeats 4000000 in
theorem insert_calls {H : Heap} {M : Nat → Prop} {p : Nat} {m : MkC} (h : MkI H M p m) {lv sv : V} {ls : List Int} {ats : List AttrA} (hlv : SL H lv 1 (ls.map fun x => [V.int .i32 x])) (hsv : SL H sv 5 (ats.map AttrA.cells))
    (hll : ls.length ≤ big) (hal : ats.length ≤ big) (hsa : ∀ a ∈ ats, a.val.s.size ≤ big) (hin : m.ins.length + 1 ≤ big) (hrb : ∀ c ∈ m.ins, c.rs.length + ls.length ≤ big) :
    SCalls PP 102 [.ptr p 0, lv, sv] H fun _ H' => ∃ M', MkI H' M' p (m.insert ls ats) ∧ ExtM M H H' ∧ MGrow M M' H ∧ WF H' := by
  refine SCalls.go c102' (by simp [fn102']) fun hw => ?_
  obtain ⟨dv, iv, dcs, ics, dk, ik, rk, h⟩ := h
  have hnp : exec (.eqnil 0 false) [.ptr p 0, .nilp] H = some (.bool false, H) := rfl
  have hlen : ∀ G, exec .len [lv] G = some (.int .i64 ls.length, G) := fun G => by have := hlv.len (H' := G); rwa [List.length_map] at this
  have l1 := h.at3.ld (j := 1) (v := iv) rfl 1
  have hivl := h.ivec.len H
  by_cases hl0 : ls = []
  · subst hl0
    simp (maxSteps := 1000000) (implicitDefEqProofs := false) only [stp, if_true, if_false, Int.reduceEq, Int.reduceLT, Int.reduceLE, Int.reduceGT, Int.reduceGE, reduceCtorEq, Nat.reduceEqDiff, List.getElem?_cons_zero, List.getElem?_cons_succ, Option.map_some, fn102', enterFr, List.length, List.range, List.range.loop, List.zip, List.zipWith, hnp, hlen, List.length_nil, Int.natCast_zero]
    exact ⟨M, by simpa [MkC.insert] using ⟨dv, iv, dcs, ics, dk, ik, rk, h⟩, ExtM.refl M H, MGrow.refl M H, hw⟩
  have hl0' : ¬ ((ls.length : Int) = 0) := fun q => hl0 (List.length_eq_zero_iff.1 (by omega))
  have hil : ics.length = m.ins.length := by
    rcases h.ins with ⟨rfl, e, _⟩ | ⟨ei, el', ci, cl, r, rfl, e, _, ha, _⟩
    · rw [e]; rfl
    · rw [e, List.length_append, List.length_append, ha.length]; rfl
  unfold big at hin
  have hw1 : IntKind.i64.wrap ((ics.length : Int) - 1) = (ics.length : Int) - 1 := wrap_i64 (by omega) (by omega)
  -- a new insert
  have tail : insLast m.ins ls ats = m.ins ++ [⟨2, 0, ls, ats, []⟩] → ∀ (G : Heap) (rj : Nat) (sv' : V) (sk : Option Nat), Ext H G → WF G → Own G rj 1 (ls.map fun x => [V.int .i32 x]) → H.next ≤ rj → Vec G sv' 5 (ats.map AttrA.cells) sk → (sk = none → ats = []) → (∀ j, sk = some j → H.next ≤ j ∧ j ≠ rj) →
      ∃ iv' H3 H4 H5, exec (.bsl 5 1 [.int .u8 0, .int .i64 0, .nils, .nils, .nils] [(0, 5)]) [.agg [.int .u8 2, .int .i64 0, .slice rj 0 ls.length none, sv', .nils]] G = some (.slice G.next 0 1 (some 1), H3) ∧
        exec (.app 5 88) [iv, .slice G.next 0 1 (some 1)] H3 = some (iv', H4) ∧ exec (.st 1) [.ptr p (0 + 1), iv'] H4 = some (.undef, H5) ∧ ∃ M', MkI H5 M' p (m.insert ls ats) ∧ ExtM M H H5 ∧ MGrow M M' H ∧ WF H5 := by
    intro hil2 G rj sv' sk hx hwG hr hrj hs hs0 hsj
    obtain ⟨iv', H3, H4, H5, M', e1, e2, e3, e4, e5⟩ := insert_new h hx hwG hr hrj hs hs0 hsj hl0 ⟨hll, hal, by simp, hsa, by simp, by simp, by simp⟩ (by unfold big; omega)
    refine ⟨iv', H3, H4, H5, e1, e2, e3, M', ?_, e5⟩
    rw [MkC.insert, if_neg hl0, hil2]
    exact e4
  have new12 : ∀ (G1 G2 : Heap) (rv sv' : V) (sk : Option Nat) (rj : Nat), insLast m.ins ls ats = m.ins ++ [⟨2, 0, ls, ats, []⟩] → Ext H G2 → WF G2 → Own G2 rj 1 (ls.map fun x => [V.int .i32 x]) → rv = .slice rj 0 ls.length none → H.next ≤ rj → Vec G2 sv' 5 (ats.map AttrA.cells) sk → (sk = none → ats = []) → (∀ j, sk = some j → H.next ≤ j ∧ j ≠ rj) →
      ∃ iv' H3 H4 H5, exec (.build [.int .u8 0, .int .i64 0, .nils, .nils, .nils] [(0, 1), (2, 1), (3, 1)]) [.int .u8 2, rv, sv'] G2 = some (.agg [.int .u8 2, .int .i64 0, rv, sv', .nils], G2) ∧ exec (.bsl 5 1 [.int .u8 0, .int .i64 0, .nils, .nils, .nils] [(0, 5)]) [.agg [.int .u8 2, .int .i64 0, rv, sv', .nils]] G2 = some (.slice G2.next 0 1 (some 1), H3) ∧
        exec (.app 5 88) [iv, .slice G2.next 0 1 (some 1)] H3 = some (iv', H4) ∧ exec (.st 1) [.ptr p (0 + 1), iv'] H4 = some (.undef, H5) ∧ ∃ M', MkI H5 M' p (m.insert ls ats) ∧ ExtM M H H5 ∧ MGrow M M' H ∧ WF H5 := by
    intro G1 G2 rv sv' sk rj hi hx hwG hr hrv hrj hs hs0 hsj
    subst hrv
    obtain ⟨iv', H3, H4, H5, e1, e2, e3, e4⟩ := tail hi G2 rj sv' sk hx hwG hr hrj hs hs0 hsj
    exact ⟨iv', H3, H4, H5, x_buildI rfl hs.one.2 _, e1, e2, e3, e4⟩
  have ldx : ∀ G, Ext H G → exec (.ld 1) [.ptr p (0 + 1)] G = some (iv, G) := fun G hx => (h.at3.ext hx).ld (j := 1) (v := iv) rfl 1
  have finish : insLast m.ins ls ats = m.ins ++ [⟨2, 0, ls, ats, []⟩] → ∀ fr : Fr, fr.get 0 = some (.ptr p 0) → fr.get 1 = some lv → fr.get 2 = some sv →
      wpC (SCalls PP) insNew fr H (kend [] fun _ H' => ∃ M', MkI H' M' p (m.insert ls ats) ∧ ExtM M H H' ∧ MGrow M M' H ∧ WF H') := by
    intro hi fr g0 g1 g2
    have crs : ∀ G, Ext H G → WF G → SCalls PP 51 [lv] G fun r H' => ∃ rj, Ext G H' ∧ WF H' ∧ Own H' rj 1 (ls.map fun x => [V.int .i32 x]) ∧ r = .slice rj 0 ls.length none ∧ G.next ≤ rj := fun G hx hwG =>
      SCalls.mono (cloneR_calls (hlv.ext hx) hll) fun r H' ⟨q1, q2, k, q3, q4, q5, _⟩ => by
        obtain ⟨j, e1, e2, e3⟩ := q5 (by simpa using hl0)
        exact ⟨j, q1, q2, e2, by rw [e3, List.length_map], q4 j e1⟩
    have cas : ∀ G, Ext H G → SCalls PP 52 [sv] G fun r H' => Ext G H' ∧ WF H' ∧ ∃ k, Vec H' r 5 (ats.map AttrA.cells) k ∧ (∀ j, k = some j → G.next ≤ j) ∧ (k = none → ats = []) := fun G hx => attrsCopy_calls (hsv.ext hx) hal
    have l0 := ldx H (Ext.refl H)
    simp (maxSteps := 1000000) (implicitDefEqProofs := false) only [stp, if_true, if_false, Int.reduceEq, Int.reduceLT, Int.reduceLE, Int.reduceGT, Int.reduceGE, reduceCtorEq, Nat.reduceEqDiff, List.getElem?_cons_zero, List.getElem?_cons_succ, Option.map_some, insNew, g0, g1, g2, l0]
    refine ⟨?_, ?_⟩
    · refine SCalls.mono (crs H (Ext.refl H) hw) ?_
      rintro rv G1 ⟨rj, hx1, hw1', hro, hrv, hrj⟩
      have hrlt := hro.lt
      simp (maxSteps := 1000000) (implicitDefEqProofs := false) only [stp, if_true, if_false, Int.reduceEq, Int.reduceLT, Int.reduceLE, Int.reduceGT, Int.reduceGE, reduceCtorEq, Nat.reduceEqDiff, List.getElem?_cons_zero, List.getElem?_cons_succ, Option.map_some, g0, g1, g2]
      refine SCalls.mono (cas G1 hx1) ?_
      rintro sv' G2 ⟨hx2, hw2, sk, hs, hsk, hs0⟩
      obtain ⟨iv', H3, H4, H5, e0, e1, e2, e3, e4⟩ := new12 G1 G2 rv sv' sk rj hi (hx1.trans hx2) hw2 (hro.ext hx2) hrv hrj hs hs0 (fun j e => by have := hsk j e; have := hx1.next; omega)
      simp (maxSteps := 1000000) (implicitDefEqProofs := false) only [stp, if_true, if_false, Int.reduceEq, Int.reduceLT, Int.reduceLE, Int.reduceGT, Int.reduceGE, reduceCtorEq, Nat.reduceEqDiff, List.getElem?_cons_zero, List.getElem?_cons_succ, Option.map_some, g0, e0, e1, e2, e3]
      exact e4
    · refine SCalls.mono (crs H (Ext.refl H) hw) ?_
      rintro rv G1 ⟨rj, hx1, hw1', hro, hrv, hrj⟩
      have hrlt := hro.lt
      have l1' := ldx G1 hx1
      simp (maxSteps := 1000000) (implicitDefEqProofs := false) only [stp, if_true, if_false, Int.reduceEq, Int.reduceLT, Int.reduceLE, Int.reduceGT, Int.reduceGE, reduceCtorEq, Nat.reduceEqDiff, List.getElem?_cons_zero, List.getElem?_cons_succ, Option.map_some, g0, g1, g2, l1']
      refine ⟨?_, ?_⟩
      all_goals
        refine SCalls.mono (cas G1 hx1) ?_
        rintro sv' G2 ⟨hx2, hw2, sk, hs, hsk, hs0⟩
        obtain ⟨iv', H3, H4, H5, e0, e1, e2, e3, e4⟩ := new12 G1 G2 rv sv' sk rj hi (hx1.trans hx2) hw2 (hro.ext hx2) hrv hrj hs hs0 (fun j e => by have := hsk j e; have := hx1.next; omega)
        have l2' := ldx G2 (hx1.trans hx2)
        simp (maxSteps := 1000000) (implicitDefEqProofs := false) only [stp, if_true, if_false, Int.reduceEq, Int.reduceLT, Int.reduceLE, Int.reduceGT, Int.reduceGE, reduceCtorEq, Nat.reduceEqDiff, List.getElem?_cons_zero, List.getElem?_cons_succ, Option.map_some, g0, l2', e0, e1, e2, e3]
        exact e4
  rcases hins : h.ins with ⟨hie, hne, _⟩ | ⟨ei, el, ci, cl, r, hie, hne, hrk, ha2, hz⟩
  · subst hie
    have hlt : ¬ ((([] : List (List V)).length : Int) - 1 ≥ 0) := by simp
    simp only [List.length_nil, Int.natCast_zero] at hlt hw1 hivl
    simp (maxSteps := 1000000) (implicitDefEqProofs := false) only [stp, if_true, if_false, Int.reduceEq, Int.reduceLT, Int.reduceLE, Int.reduceGT, Int.reduceGE, reduceCtorEq, Nat.reduceEqDiff, List.getElem?_cons_zero, List.getElem?_cons_succ, Option.map_some, fn102', enterFr, List.length, List.range, List.range.loop, List.zip, List.zipWith, hnp, hlen, hl0', l1, hivl, hw1, hlt]
    refine finish (by rw [hne]; rfl) _ ?_ ?_ ?_ <;> rfl
  · obtain ⟨i, hik, hiv, hio⟩ := h.ivec.some h.inn (by rw [hie]; simp)
    have hicl : ics.length = ei.length + 1 := by rw [hie, List.length_append]; rfl
    have hw1' : IntKind.i64.wrap ((ics.length : Int) - 1) = ((ei.length : Nat) : Int) := by rw [hw1]; omega
    have hge : ((ei.length : Nat) : Int) ≥ 0 := by omega
    have hia := x_iax (H := H) (id := i) (n := ics.length) (i := ei.length) (sz := 5) (by omega)
    rw [← hiv] at hia
    have hat : At H i (0 + ei.length * 5) el := by
      have hs := h.ivec.sl
      rw [hie] at hs
      obtain ⟨_, ⟨e, _⟩ | ⟨id', off', cap', e1, e2, e3⟩⟩ := hs
      · rw [hiv] at e; cases e
      · rw [hiv] at e1
        simp only [V.slice.injEq] at e1
        obtain ⟨rfl, rfl, _, _⟩ := e1
        exact e3 ei.length el (by simp)
    obtain ⟨o, ho1, ho2, ho3⟩ := hz.sl
    have l3 := hat.ld (j := 3) (v := o.set) (by rw [ho1]; rfl) 1
    have l2 := hat.ld (j := 2) (v := o.runes) (by rw [ho1]; rfl) 1
    have hoa : o.ats = cl.ats := by rw [← ho2]; rfl
    simp (maxSteps := 1000000) (implicitDefEqProofs := false) only [stp, if_true, if_false, Int.reduceEq, Int.reduceLT, Int.reduceLE, Int.reduceGT, Int.reduceGE, reduceCtorEq, Nat.reduceEqDiff, List.getElem?_cons_zero, List.getElem?_cons_succ, Option.map_some, fn102', enterFr, List.length, List.range, List.range.loop, List.zip, List.zipWith, hnp, hlen, hl0', l1, hivl, hw1', hge, hia, l3]
    refine SCalls.mono (attrsSame_calls ho3.set hsv (by rw [hoa]; exact hz.ok.al)) ?_
    rintro r' H' ⟨rfl, rfl⟩
    rw [hoa]
    have hgl : m.ins.getLast? = some cl := by rw [hne]; simp
    cases heq : listEq attrEq cl.ats ats with
    | false =>
      simp (maxSteps := 1000000) (implicitDefEqProofs := false) only [stp, if_true, if_false, Int.reduceEq, Int.reduceLT, Int.reduceLE, Int.reduceGT, Int.reduceGE, reduceCtorEq, Nat.reduceEqDiff, List.getElem?_cons_zero, List.getElem?_cons_succ, Option.map_some, heq]
      refine finish (by rw [insLast, hgl]; simp [heq]) _ ?_ ?_ ?_ <;> rfl
    | true =>
      have hil2 : insLast m.ins ls ats = ci ++ [⟨cl.kind, cl.n, cl.rs ++ ls, cl.ats, cl.chs⟩] := by
        rw [insLast, hgl]
        simp only [heq, if_true]
        rw [hne, List.dropLast_concat]
      subst hie
      obtain ⟨rv, H1, H2, M', f1, f3, f4, f5⟩ := insert_grow hw h hrk ha2 hz hlv hl0 (hrb cl (by rw [hne]; simp)) (by rw [hiv, hicl])
      have hrun : o.runes = .slice r 0 cl.rs.length none := by
        obtain ⟨sv2, hs2, _⟩ := hz.sh
        rw [ho1] at hs2
        simp [OpA.cells] at hs2
        exact hs2.2.2.1
      rw [hrun] at l2
      have hia1 := x_iax (H := H1) (id := i) (n := (ei ++ [el]).length) (i := ei.length) (sz := 5) (by omega)
      rw [← hiv] at hia1
      simp (maxSteps := 1000000) (implicitDefEqProofs := false) only [stp, if_true, if_false, Int.reduceEq, Int.reduceLT, Int.reduceLE, Int.reduceGT, Int.reduceGE, reduceCtorEq, Nat.reduceEqDiff, List.getElem?_cons_zero, List.getElem?_cons_succ, Option.map_some, heq, l1, hia, l2, f1]
      refine ⟨?_, ?_⟩
      all_goals
        simp (maxSteps := 1000000) (implicitDefEqProofs := false) only [stp, if_true, if_false, Int.reduceEq, Int.reduceLT, Int.reduceLE, Int.reduceGT, Int.reduceGE, reduceCtorEq, Nat.reduceEqDiff, List.getElem?_cons_zero, List.getElem?_cons_succ, Option.map_some, f1, f3, hia1, f4]
        exact ⟨M', by rw [MkC.insert, if_neg hl0, hil2]; exact f5.1, f5.2⟩
end Go.Proofs.YtkmaikggdbielaaGreatDoor.Fw

/- The maker's gap and Retain. No condition. -/
namespace Go.Proofs.YtkmaikggdbielaaGreatDoor.Fw
open Go
set_option linter.unusedSimpArgs false
set_option linter.unusedVariables false

abbrev zo : List V := [.int .u8 0, .int .i64 0, .nils, .nils, .nils]
theorem wrap_bd (n : Int) : -9223372036854775808 ≤ IntKind.i64.wrap n ∧ IntKind.i64.wrap n ≤ 9223372036854775807 := by
  simp only [IntKind.wrap, IntKind.bits, IntKind.signed, Bool.true_and]
  split
  · rename_i e; simp at e; omega
  · rename_i e; simp at e; omega
/-- The gap's delete. -/
def delO (g : Int) : List OpC := if g > 0 then [⟨3, g, [], [], []⟩] else []
def delC (g : Int) : List (List V) := if g > 0 then [[.int .u8 3, .int .i64 g, .nils, .nils, .nils]] else []
theorem cloneO_calls {x : V} {H : Heap} {es : List (List V)} (hx : SL H x 5 es) (hl : es.length ≤ big) :
    SCalls PP 50 [x] H fun r H' => Ext H H' ∧ WF H' ∧ ∃ k, Vec H' r 5 es k ∧ (∀ j, k = some j → H.next ≤ j) ∧ (es ≠ [] → ∃ j, k = some j ∧ Own H' j 5 es ∧ r = .slice j 0 es.length none) ∧ (k = none → es = []) :=
  clone_gen (show compFn PP 50 = some (cloneFn 5 88) from c50) (by decide) (by decide) hx hl
theorem bsl1 {H : Heap} {e : List V} (he : e.length = 5) (ho : e.all V.one = true) : ∃ H', exec (.bsl 5 1 zo [(0, 5)]) [.agg e] H = some (.slice H.next 0 1 (some 1), H') ∧ Ext H H' ∧ (WF H → WF H') ∧ SL H' (.slice H.next 0 1 (some 1)) 5 [e] ∧ H'.next = H.next + 1 := by
  refine ⟨H.new (.row false 5 e), ?_, (Ext.refl H).new _, fun hw => hw.new _, ?_, rfl⟩
  · match e, he with
    | [a, b, c, d, f], _ =>
      have hf : fillA zo [((0, 5), .agg [a, b, c, d, f])] = some [a, b, c, d, f] := by
        simp only [fillA]
        rfl
      simp only [exec, List.length_cons, List.length_nil, if_true, List.zip_cons_cons, List.zip_nil_right, hf, Option.bind_some, ho]
  · have ow : Own (H.new (.row false 5 e)) H.next 5 [e] := ⟨Nat.lt_succ_self _, by rw [new_get]; simp, by simpa using ⟨he, by simpa using ho⟩⟩
    exact ow.sl (some 1)
theorem app1 {H : Heap} (hw : WF H) {r : V} {es : List (List V)} {k : Option Nat} (h : Vec H r 5 es k) {x : V} {e : List V} (hx : SL H x 5 [e]) (hl : es.length + 1 ≤ big) :
    ∃ H', exec (.app 5 88) [r, x] H = some (.slice H.next 0 (es.length + 1) none, H') ∧ Vec H' (.slice H.next 0 (es.length + 1) none) 5 (es ++ [e]) (some H.next) ∧ Own H' H.next 5 (es ++ [e]) ∧
      WF H' ∧ H'.next = H.next + 1 ∧ H'.gn = H.gn ∧ ∀ j, j < H.next → k ≠ some j → H'.get j = H.get j := by
  unfold big at hl
  obtain ⟨s1, s2⟩ := hx.src (by simp)
  exact h.app (bytes := 88) (n := 1) (news := [e]) hw (by decide) rfl (by decide) (by simpa using s1) (by simpa using s2) hx.1 (by omega) (by omega)
theorem x_buildD (k : Int) (kk : Int) (H : Heap) : exec (.build [.int .u8 0, .int .i64 0, .nils, .nils, .nils] [(0, 1), (1, 1)]) [.int .u8 kk, .int .i64 k] H = some (.agg [.int .u8 kk, .int .i64 k, .nils, .nils, .nils], H) := rfl

set_option maxRecDepth 20000 in
set_option maxHeartbeats 1000000 in
theorem gap_calls {H : Heap} {M : Nat → Prop} {p : Nat} {m : MkC} {dv iv : V} {dcs ics : List (List V)} {dk ik rk : Option Nat} (h : MkP H M p m dv iv dcs ics dk ik rk) (hl : ics.length + 1 ≤ big) :
    SCalls PP 108 [.ptr p 0] H fun r H' => Ext H H' ∧ WF H' ∧ ∃ k, Vec H' r 5 (ics ++ delC m.gone) k ∧ (∀ j, k = some j → H.next ≤ j) ∧ (k = none → ics ++ delC m.gone = []) := by
  refine SCalls.go c108 (by simp [fn108]) fun hw => ?_
  have l1 := h.at3.ld (j := 1) (v := iv) rfl 1
  simp (maxSteps := 1000000) (implicitDefEqProofs := false) only [stp, if_true, if_false, Int.reduceEq, Int.reduceLT, Int.reduceLE, Int.reduceGT, Int.reduceGE, reduceCtorEq, Nat.reduceEqDiff, List.getElem?_cons_zero, List.getElem?_cons_succ, Option.map_some, fn108, enterFr, List.length, List.range, List.range.loop, List.zip, List.zipWith, l1]
  refine SCalls.mono (cloneO_calls h.ivec.sl (by omega)) ?_
  rintro r G ⟨hx, hwG, k, hv, hk, _, h0⟩
  have l2 := (h.at3.ext hx).ld (j := 2) (v := .int .i64 m.gone) rfl 1
  by_cases hg : m.gone > 0
  · obtain ⟨G2, b1, b2, b3, b4, b5⟩ := bsl1 (H := G) (e := [.int .u8 3, .int .i64 m.gone, .nils, .nils, .nils]) rfl rfl
    obtain ⟨G3, a1, a2, a3, a4, a5, a6, a7⟩ := app1 (b3 hwG) (hv.ext b2) b4 hl
    simp (maxSteps := 1000000) (implicitDefEqProofs := false) only [stp, if_true, if_false, Int.reduceEq, Int.reduceLT, Int.reduceLE, Int.reduceGT, Int.reduceGE, reduceCtorEq, Nat.reduceEqDiff, List.getElem?_cons_zero, List.getElem?_cons_succ, Option.map_some, l2, hg, x_buildD, b1, a1]
    have hn := hx.next
    have hn2 := b2.next
    refine ⟨⟨by rw [a6, b2.gn, hx.gn], by omega, fun j hj => ?_⟩, a4, _, by rw [delC, if_pos hg]; exact a2, fun j e => by cases e; omega, fun e => by cases e⟩
    rw [a7 j (by omega) (fun q => by have := hk j q; omega), b2.get j (by omega), hx.get j hj]
  · simp (maxSteps := 1000000) (implicitDefEqProofs := false) only [stp, if_true, if_false, Int.reduceEq, Int.reduceLT, Int.reduceLE, Int.reduceGT, Int.reduceGE, reduceCtorEq, Nat.reduceEqDiff, List.getElem?_cons_zero, List.getElem?_cons_succ, Option.map_some, l2, hg]
    refine ⟨hx, hwG, k, by rw [delC, if_neg hg, List.append_nil]; exact hv, hk, fun e => by rw [delC, if_neg hg, List.append_nil]; exact h0 e⟩

/-- Stores into the maker. -/
theorem mk_st {H : Heap} {p : Nat} {a b c : V} (hg : H.get p = some (.row false 3 [a, b, c])) {k : Nat} (hk : k < 3) {v : V} (hv : v.cells = [v]) (ho : v.one = true) : exec (.st 1) [.ptr p (0 + k), v] H = some (.undef, H.set p (.row false 3 ([a, b, c].set k v))) := by
  rw [Nat.zero_add]
  exact st_cell hg (by simpa using hk) hv ho
theorem set_set (H : Heap) (p : Nat) (a b : Ob) : (H.set p a).set p b = H.set p b := by
  unfold Heap.set
  congr 1
  funext j
  by_cases h : j = p <;> simp [h]

theorem delO_z (M : Nat → Prop) (H : Heap) (g : Int) (hg : g ≤ 9223372036854775807) : All2 (OpZ M H) (delC g) (delO g) := by
  unfold delC delO
  split
  · exact ⟨⟨⟨3, g, .nils, .nils, .nils, [], [], []⟩, rfl, rfl, fun H' _ => ⟨⟨by simp, .inl ⟨rfl, rfl⟩⟩, ⟨by simp, .inl ⟨rfl, rfl⟩⟩, ⟨by simp, .inl ⟨rfl, rfl⟩⟩, by simp, by simp, by simp, by simp, by simp, by simp only; omega, hg⟩⟩, trivial⟩
  · trivial
theorem InsZ.len {M : Nat → Prop} {H : Heap} {ics : List (List V)} {ins : List OpC} {rk : Option Nat} (h : InsZ M H ics ins rk) : ics.length = ins.length := by
  rcases h with ⟨rfl, rfl, _⟩ | ⟨ei, el', ci, cl, r, rfl, rfl, _, ha, _⟩
  · rfl
  · rw [List.length_append, List.length_append, ha.length]; rfl
/-- The gap's inserts, once they no longer grow. -/
theorem InsZ.to {M M' : Nat → Prop} {H : Heap} {ics : List (List V)} {ins : List OpC} {rk : Option Nat} (h : InsZ M H ics ins rk) (hm : MGrow M M' H) (hr : ∀ j, rk = some j → ¬ M' j) : All2 (OpZ M' H) ics ins := by
  rcases h with ⟨rfl, rfl, _⟩ | ⟨ei, el, ci, cl, r, rfl, rfl, q, ha, hz⟩
  · trivial
  · exact All2.append (All2.imp (fun a b z => z.step (ExtM.refl M H) hm) ha) ⟨hz.to hm (hr r q), trivial⟩

/-- What was told ahead of the gap: all of it done. -/
theorem flush {H G : Heap} {M : Nat → Prop} {p : Nat} {m : MkC} {dv iv : V} {dcs ics : List (List V)} {dk ik rk : Option Nat} (h : MkP H M p m dv iv dcs ics dk ik rk) (hx : Ext H G) (hwG : WF G) {gv : V} {gcs : List (List V)} {gk : Option Nat} (hg : Vec G gv 5 gcs gk)
    (hgc : gcs = ics ++ delC m.gone) (hb : dcs.length + gcs.length ≤ big) (hgo : m.gone ≤ 9223372036854775807) :
    ∃ dv' dk' H1 H2 H3 H4 M', exec (.app 5 88) [dv, gv] G = some (dv', H1) ∧ exec (.st 1) [.ptr p (0 + 0), dv'] H1 = some (.undef, H2) ∧ exec (.st 1) [.ptr p (0 + 1), .nils] H2 = some (.undef, H3) ∧ exec (.st 1) [.ptr p (0 + 2), .int .i64 0] H3 = some (.undef, H4) ∧
      MkP H4 M' p ⟨m.done ++ (m.ins ++ delO m.gone), [], 0⟩ dv' .nils (dcs ++ gcs) [] dk' none none ∧ ExtM M H H4 ∧ MGrow M M' H ∧ WF H4 := by
  unfold big at hb
  have hpl := h.lt
  have hdl : ∀ j, dk = some j → j < H.next := fun j e => by have := h.dvec; rw [e] at this; exact this.lt
  have hrl' : ∀ j, rk = some j → j < H.next := fun j e => by
    rcases h.ins with ⟨_, _, q⟩ | ⟨_, _, _, _, r, _, _, q, _, hz⟩
    · rw [q] at e; cases e
    · rw [q] at e; cases e; exact hz.own.lt
  have hxn := hx.next
  -- the append
  have hap : ∃ dv' dk' H1, exec (.app 5 88) [dv, gv] G = some (dv', H1) ∧ Vec H1 dv' 5 (dcs ++ gcs) dk' ∧ WF H1 ∧ G.next ≤ H1.next ∧ H1.gn = G.gn ∧ (∀ j, j < G.next → dk ≠ some j → H1.get j = G.get j) ∧ (dk' = dk ∧ H1 = G ∨ dk' = some G.next ∧ G.next < H1.next) ∧ (dk' = none → dcs ++ gcs = []) := by
    by_cases hz : gcs = []
    · subst hz
      obtain ⟨s1, s2⟩ := hg.sl.src0
      exact ⟨dv, dk, G, x_app0 h.dvec.shape s1 s2 (by decide), by rw [List.append_nil]; exact h.dvec.ext hx, hwG, Nat.le_refl _, rfl, fun _ _ _ => rfl, .inl ⟨rfl, rfl⟩, fun e => by rw [List.append_nil]; exact h.dn e⟩
    · obtain ⟨s1, s2⟩ := hg.sl.src hz
      obtain ⟨H1, a1, a2, a3, a4, a5, a6, a7⟩ := (h.dvec.ext hx).app (bytes := 88) (n := gcs.length) (news := gcs) hwG (by decide) rfl (fun q => hz (List.length_eq_zero_iff.1 q)) s1 s2 hg.1 (by omega) (by omega)
      exact ⟨_, _, H1, a1, a2, a4, by omega, a6, a7, .inr ⟨rfl, by omega⟩, fun e => by cases e⟩
  obtain ⟨dv', dk', H1, a1, a2, a4, a5, a6, a7, a8, a9⟩ := hap
  have hp1 : H1.get p = some (.row false 3 [dv, iv, .int .i64 m.gone]) := by
    rw [a7 p (by omega) (fun e => (h.md p e).2 rfl), hx.get p hpl]; exact h.at'
  have e1 := mk_st (k := 0) hp1 (by decide) a2.one.2 a2.one.1
  have g2 : (H1.set p (.row false 3 ([dv, iv, .int .i64 m.gone].set 0 dv'))).get p = some (.row false 3 [dv', iv, .int .i64 m.gone]) := set_get' _ _ _
  have e2 := mk_st (k := 1) g2 (by decide) (v := .nils) rfl rfl
  have g3 : ((H1.set p (.row false 3 ([dv, iv, .int .i64 m.gone].set 0 dv'))).set p (.row false 3 ([dv', iv, .int .i64 m.gone].set 1 .nils))).get p = some (.row false 3 [dv', .nils, .int .i64 m.gone]) := set_get' _ _ _
  have e3 := mk_st (k := 2) g3 (by decide) (v := .int .i64 0) rfl rfl
  rw [set_set, set_set] at e3
  rw [set_set] at e2
  have hp4 : (H1.set p (.row false 3 ([dv', .nils, .int .i64 m.gone].set 2 (.int .i64 0)))).get p = some (.row false 3 [dv', .nils, .int .i64 0]) := set_get' _ _ _
  have hxx : ∀ j, j < G.next → dk ≠ some j → j ≠ p → (H1.set p (.row false 3 ([dv', .nils, .int .i64 m.gone].set 2 (.int .i64 0)))).get j = G.get j := fun j hj h1 h2 => by
    rw [Heap.set_get, if_neg h2, a7 j hj h1]
  have hn4 : (H1.set p (.row false 3 ([dv', .nils, .int .i64 m.gone].set 2 (.int .i64 0)))).next = H1.next := rfl
  have hM : ExtM M H (H1.set p (.row false 3 ([dv', .nils, .int .i64 m.gone].set 2 (.int .i64 0)))) := by
    refine ⟨by rw [Heap.set_gn, a6, hx.gn], by rw [Heap.set_next]; omega, fun j hj hm => ?_⟩
    rw [hxx j (by omega) (fun e => hm (h.md j e).1) (fun e => hm (by rw [e]; exact h.mp))]
    exact hx.get j hj
  have hG : MGrow M (fun j => (M j ∧ rk ≠ some j) ∨ (dk' = some j)) H := fun j hj => by
    rcases hj with ⟨q, _⟩ | q
    · exact .inl q
    · rcases a8 with ⟨e, _⟩ | ⟨e, _⟩
      · rw [e] at q; exact .inl (h.md j q).1
      · rw [e] at q; cases q; exact .inr (by omega)
  have hwf4 := a4.set hp1 (.row false 3 ([dv', .nils, .int .i64 m.gone].set 2 (.int .i64 0)))
  have hdk5 : ∀ j, dk' = some j → j ≠ p ∧ j < H1.next ∧ (H1.set p (.row false 3 ([dv', .nils, .int .i64 m.gone].set 2 (.int .i64 0)))).get j = H1.get j := fun j q => by
    have hjp : j ≠ p := by
      rcases a8 with ⟨e, _⟩ | ⟨e, _⟩
      · rw [e] at q; exact (h.md j q).2
      · rw [e] at q; cases q; omega
    exact ⟨hjp, by have := a2; rw [q] at this; exact this.lt, by rw [Heap.set_get, if_neg hjp]⟩
  refine ⟨dv', dk', H1, _, _, _, fun j => (M j ∧ rk ≠ some j) ∨ (dk' = some j), a1, e1, e2, e3, ?_, hM, hG, hwf4⟩
  generalize H1.set p (.row false 3 ([dv', .nils, .int .i64 m.gone].set 2 (.int .i64 0))) = H4 at *
  have hrd : ∀ j, rk = some j → dk' ≠ some j := fun j e q => by
    rcases a8 with ⟨e', _⟩ | ⟨e', _⟩
    · rw [e'] at q; exact (h.mr j e).2.1 q
    · rw [e'] at q; cases q; have := hrl' _ e; omega
  refine ⟨by omega, .inl ⟨h.mp, fun e => (h.mr p e).1 rfl⟩, fun j hj => ?_, hp4, ?_, Vec.nil _ _, fun j e => ⟨.inr e, (hdk5 j e).1⟩, fun j e => (by cases e), fun j _ q => (by cases q), fun j e => (by cases e), ?_, .inl ⟨rfl, rfl, rfl⟩, a9, fun _ => rfl⟩
  · rcases hj with ⟨q, _⟩ | q
    · have := h.mb j q; omega
    · have := (hdk5 j q).2.1; omega
  · refine a2.keep (by omega) (fun j e => (hdk5 j e).2.2) (fun e s => ?_)
    rw [a9 e] at s ⊢
    exact s.empty (by omega)
  · refine All2.append (All2.imp (fun a b q => q.step hM hG) h.done) ?_
    rw [hgc]
    refine All2.append ?_ (delO_z _ _ _ hgo)
    have hz := h.ins.to (M' := fun j => M j ∧ rk ≠ some j) (fun j hj => .inl hj.1) (fun j e q => q.2 e)
    refine All2.imp (fun a b q => q.step ⟨hM.gn, hM.next, fun j hj hm => ?_⟩ (fun j hj => ?_)) hz
    · by_cases hjr : rk = some j
      · rw [hxx j (by omega) (h.mr j hjr).2.1 (h.mr j hjr).1]
        exact hx.get j hj
      · exact hM.get j hj fun q => hm ⟨q, hjr⟩
    · rcases hj with q | q
      · exact .inl q
      · rcases a8 with ⟨e, _⟩ | ⟨e, _⟩
        · rw [e] at q; exact .inl ⟨(h.md j q).1, fun q2 => (h.mr j q2).2.1 q⟩
        · rw [e] at q; cases q; exact .inr (by omega)

def isRetain (c : OpC) (ps : List ChgA) : Bool := decide (c.kind = 1) && listEq chgEq c.chs ps
/-- A retain is told. -/
def retainDone (done : List OpC) (n : Int) (ps : List ChgA) : List OpC :=
  match done.getLast? with
  | some c => if isRetain c ps then done.dropLast ++ [⟨c.kind, IntKind.i64.wrap (c.n + n), c.rs, c.ats, c.chs⟩] else done ++ [⟨1, n, [], [], ps⟩]
  | none => done ++ [⟨1, n, [], [], ps⟩]
def MkC.retain (m : MkC) (n : Int) (ps : List ChgA) : MkC := if n < 1 then m else ⟨retainDone (m.done ++ (m.ins ++ delO m.gone)) n ps, [], 0⟩

/-- The last done op grows. -/
theorem grow_done {H : Heap} (hw : WF H) {M : Nat → Prop} {p : Nat} {m : MkC} {dv iv : V} {dcs : List (List V)} {dk ik rk : Option Nat} {ei : List (List V)} {el : List V} (h : MkP H M p m dv iv (ei ++ [el]) dcs dk ik rk) {cd : List OpC} {c : OpC} (hd : m.done = cd ++ [c]) (n : Int) :
    ∃ i, dv = .slice i 0 (ei.length + 1) none ∧ At H i (0 + ei.length * 5) el ∧ OpZ M H el c ∧ ∃ H1, exec (.st 1) [.ptr i (0 + ei.length * 5 + 1), .int .i64 (IntKind.i64.wrap n)] H = some (.undef, H1) ∧
      MkI H1 M p ⟨cd ++ [⟨c.kind, IntKind.i64.wrap n, c.rs, c.ats, c.chs⟩], m.ins, m.gone⟩ ∧ ExtM M H H1 ∧ WF H1 := by
  obtain ⟨i, hdk, hdv, hio⟩ := h.dvec.some h.dn (by simp)
  rw [List.length_append] at hdv
  have hat : At H i (0 + ei.length * 5) el := by
    have hs := hio.sl none
    obtain ⟨_, ⟨e, _⟩ | ⟨id', off', cap', e1, e2, e3⟩⟩ := hs
    · cases e
    · simp only [V.slice.injEq] at e1
      obtain ⟨rfl, rfl, _, _⟩ := e1
      exact e3 ei.length el (by simp)
  have hall : ∀ {l : List (List V)} {k : List OpC} {x : List V} {y : OpC}, All2 (OpZ M H) (l ++ [x]) (k ++ [y]) → All2 (OpZ M H) l k ∧ OpZ M H x y := by
    intro l
    induction l with
    | nil =>
      intro k x y h
      cases k with
      | nil => exact ⟨trivial, h.1⟩
      | cons b k => cases k <;> exact h.2.elim
    | cons a l ih =>
      intro k x y h
      cases k with
      | nil => cases l <;> exact h.2.elim
      | cons b k =>
        obtain ⟨h1, h2⟩ := h
        obtain ⟨q1, q2⟩ := ih h2
        exact ⟨⟨h1, q1⟩, q2⟩
  have hdz := h.done
  rw [hd] at hdz
  obtain ⟨z1, z2⟩ := hall hdz
  obtain ⟨q1, q2⟩ := hio.cell (k := ei.length) (c := 1) (by simp) (by decide) (v := .int .i64 (IntKind.i64.wrap n)) rfl rfl
  have hset : (ei ++ [el]).set ei.length ((ei ++ [el])[ei.length].set 1 (.int .i64 (IntKind.i64.wrap n))) = ei ++ [el.set 1 (.int .i64 (IntKind.i64.wrap n))] := by simp
  rw [hset] at q1 q2
  have hip : i ≠ p := (h.md i hdk).2
  have hM : ExtM M H (H.set i (.row false 5 (ei ++ [el.set 1 (.int .i64 (IntKind.i64.wrap n))]).flatten)) :=
    ⟨rfl, Nat.le_refl _, fun j hj hm => by rw [Heap.set_get, if_neg (fun q => hm (by rw [q]; exact (h.md i hdk).1))]⟩
  refine ⟨i, hdv, hat, z2, _, q1, ?_, hM, hw.set hio.get _⟩
  have hxx : ∀ j, j ≠ i → (H.set i (.row false 5 (ei ++ [el.set 1 (.int .i64 (IntKind.i64.wrap n))]).flatten)).get j = H.get j := fun j hj => by rw [Heap.set_get, if_neg hj]
  have hn1 : (H.set i (.row false 5 (ei ++ [el.set 1 (.int .i64 (IntKind.i64.wrap n))]).flatten)).next = H.next := rfl
  generalize H.set i (.row false 5 (ei ++ [el.set 1 (.int .i64 (IntKind.i64.wrap n))]).flatten) = H1 at *
  have hstep : ∀ a b, OpZ M H a b → OpZ M H1 a b := fun a b q => q.step hM (MGrow.refl M H)
  have hil' : ∀ j, ik = some j → j ≠ i := fun j e q => by rw [q] at e; exact h.di i hdk e
  refine ⟨dv, iv, ei ++ [el.set 1 (.int .i64 (IntKind.i64.wrap n))], dcs, dk, ik, rk, by rw [hn1]; exact h.lt, h.mp, fun j hj => by rw [hn1]; exact h.mb j hj, by rw [hxx p (Ne.symm hip)]; exact h.at', ?_, ?_, h.md, h.mi, h.di, h.mr, ?_, ?_, fun e => (by rw [hdk] at e; cases e), h.inn⟩
  · exact ⟨q2.len, .inr (.inr (.inl ⟨i, by rw [hdv]; simp, q2, hdk⟩))⟩
  · refine h.ivec.keep (by omega) (fun j e => hxx j (hil' j e)) (fun e s => ?_)
    rw [h.inn e] at s ⊢
    exact s.empty (by omega)
  · refine All2.append (All2.imp hstep z1) ⟨?_, trivial⟩
    obtain ⟨o, ho1, ho2, ho3⟩ := hstep _ _ z2
    refine ⟨⟨o.kind, IntKind.i64.wrap n, o.runes, o.set, o.patch, o.rs, o.ats, o.chs⟩, by rw [ho1]; rfl, by rw [← ho2]; rfl, fun H' hx => ?_⟩
    have q := ho3 H' hx
    exact ⟨q.runes, q.set, q.patch, q.rl, q.al, q.cl, q.sa, q.sc, (wrap_bd n).1, (wrap_bd n).2⟩
  · rcases h.ins with q | ⟨e1, e2, e3, e4, r, q1, q2, q3, q4, q5⟩
    · exact .inl q
    · exact .inr ⟨e1, e2, e3, e4, r, q1, q2, q3, All2.imp hstep q4, q5.step hM (MGrow.refl M H) (hxx r (fun q => (h.mr r q3).2.1 (by rw [hdk, q]))) q5.mr⟩
end Go.Proofs.YtkmaikggdbielaaGreatDoor.Fw

/- The maker's Retain. No condition. Parts printed. -/
namespace Go.Proofs.YtkmaikggdbielaaGreatDoor.Fw
open Go
set_option linter.unusedSimpArgs false
set_option linter.unusedVariables false

def retNew : ACode :=
 (.draw (.op ⟨some 72, none, .ex (.mov) [.s 0]⟩ (.op ⟨some 73, none, .ex (.mov) [.s 0]⟩ (.op ⟨some 74, none, .ex (.nilck) [.s 73]⟩ (.op ⟨some 75, none, .ex (.fa 0) [.s 74]⟩ (.op ⟨some 77, none, .ex (.mov) [.s 1]⟩ (.op ⟨some 78, none, .ex (.mov) [.s 2]⟩ (.fork (.op ⟨some 76, none, .ex (.ld 1) [.s 75]⟩ (.op ⟨some 79, none, .callf 53 [.s 78]⟩ (.op ⟨some 80, none, .ex (.build [(.int .u8 0), (.int .i64 0), .nils, .nils, .nils] [(0, 1), (1, 1), (4, 1)]) [.k (.int .u8 1), .s 77, .s 79]⟩ (.op ⟨some 81, none, .ex (.bsl 5 1 [(.int .u8 0), (.int .i64 0), .nils, .nils, .nils] [(0, 5)]) [.s 80]⟩ (.op ⟨some 82, none, .ex (.app 5 88) [.s 76, .s 81]⟩ (.op ⟨some 83, none, .ex (.nilck) [.s 72]⟩ (.op ⟨some 84, none, .ex (.fa 0) [.s 83]⟩ (.op ⟨none, none, .ex (.st 1) [.s 84, .s 82]⟩ .done)))))))) (.op ⟨some 79, none, .callf 53 [.s 78]⟩ (.op ⟨some 76, none, .ex (.ld 1) [.s 75]⟩ (.op ⟨some 80, none, .ex (.build [(.int .u8 0), (.int .i64 0), .nils, .nils, .nils] [(0, 1), (1, 1), (4, 1)]) [.k (.int .u8 1), .s 77, .s 79]⟩ (.op ⟨some 81, none, .ex (.bsl 5 1 [(.int .u8 0), (.int .i64 0), .nils, .nils, .nils] [(0, 5)]) [.s 80]⟩ (.op ⟨some 82, none, .ex (.app 5 88) [.s 76, .s 81]⟩ (.op ⟨some 83, none, .ex (.nilck) [.s 72]⟩ (.op ⟨some 84, none, .ex (.fa 0) [.s 83]⟩ (.op ⟨none, none, .ex (.st 1) [.s 84, .s 82]⟩ .done))))))))))))))))
def retTail : ACode :=
 (.seq
     (.region [⟨some 29, none, .ex (.mov) [.s 0]⟩,
       ⟨some 30, none, .ex (.nilck) [.s 29]⟩,
       ⟨some 31, none, .ex (.fa 0) [.s 30]⟩,
       ⟨some 32, none, .ex (.ld 1) [.s 31]⟩,
       ⟨some 33, none, .ex (.len) [.s 32]⟩,
       ⟨some 34, none, .ex (.ibin .sub) [.s 33, .k (.int .i64 1)]⟩,
       ⟨some 6, none, .ex (.mov) [.s 34]⟩])
     (.seq
      (.seq
       (.region [⟨some 35, none, .ex (.mov) [.s 6]⟩,
         ⟨some 36, none, .ex (.ibin .geq) [.s 35, .k (.int .i64 0)]⟩,
         ⟨some 37, none, .ex (.mov) [.s 36]⟩,
         ⟨some 38, some (37, true), .ex (.mov) [.s 0]⟩,
         ⟨some 39, some (37, true), .ex (.nilck) [.s 38]⟩,
         ⟨some 40, some (37, true), .ex (.fa 0) [.s 39]⟩,
         ⟨some 41, some (37, true), .ex (.ld 1) [.s 40]⟩,
         ⟨some 42, some (37, true), .ex (.mov) [.s 6]⟩,
         ⟨some 43, some (37, true), .ex (.ia 5) [.s 41, .s 42]⟩,
         ⟨some 44, some (37, true), .ex (.fa 0) [.s 43]⟩,
         ⟨some 45, some (37, true), .ex (.ld 1) [.s 44]⟩,
         ⟨some 46, some (37, true), .ex (.ibin .eql) [.s 45, .k (.int .u8 1)]⟩,
         ⟨some 47, none, .ex (.pick) [.s 37, .s 46, .k (.bool false)]⟩,
         ⟨some 48, none, .ex (.mov) [.s 47]⟩,
         ⟨some 49, some (48, true), .ex (.mov) [.s 0]⟩,
         ⟨some 50, some (48, true), .ex (.nilck) [.s 49]⟩,
         ⟨some 51, some (48, true), .ex (.fa 0) [.s 50]⟩,
         ⟨some 52, some (48, true), .ex (.ld 1) [.s 51]⟩,
         ⟨some 53, some (48, true), .ex (.mov) [.s 6]⟩,
         ⟨some 54, some (48, true), .ex (.ia 5) [.s 52, .s 53]⟩,
         ⟨some 55, some (48, true), .ex (.fa 4) [.s 54]⟩,
         ⟨some 56, some (48, true), .ex (.ld 1) [.s 55]⟩,
         ⟨some 57, some (48, true), .ex (.mov) [.s 2]⟩,
         ⟨some 58, some (48, true), .callf 120 [.s 56, .s 57]⟩,
         ⟨some 59, none, .ex (.pick) [.s 48, .s 58, .k (.bool false)]⟩])
       (.cond (.s 59)
        (.seq
         (.region [⟨some 60, none, .ex (.mov) [.s 0]⟩,
           ⟨some 61, none, .ex (.nilck) [.s 60]⟩,
           ⟨some 62, none, .ex (.fa 0) [.s 61]⟩,
           ⟨some 63, none, .ex (.ld 1) [.s 62]⟩,
           ⟨some 64, none, .ex (.mov) [.s 6]⟩,
           ⟨some 65, none, .ex (.ia 5) [.s 63, .s 64]⟩,
           ⟨some 66, none, .ex (.fa 1) [.s 65]⟩,
           ⟨some 67, none, .ex (.ld 1) [.s 66]⟩,
           ⟨some 68, none, .ex (.mov) [.s 1]⟩,
           ⟨some 69, none, .ex (.ibin .add) [.s 67, .s 68]⟩,
           ⟨some 70, none, .ex (.ia 5) [.s 63, .s 64]⟩,
           ⟨some 71, none, .ex (.fa 1) [.s 70]⟩,
           ⟨none, none, .ex (.st 1) [.s 71, .s 69]⟩])
         .ret)
        .skip))
      retNew))
def fn101' : AFn := ⟨85,
 (.seq
  (.seq
   (.region [⟨some 7, none, .ex (.mov) [.s 0]⟩,
     ⟨some 8, none, .ex (.eqnil 0 false) [.s 7, .k .nilp]⟩,
     ⟨some 9, none, .ex (.mov) [.s 8]⟩,
     ⟨some 10, some (9, false), .ex (.mov) [.s 1]⟩,
     ⟨some 11, some (9, false), .ex (.ibin .lss) [.s 10, .k (.int .i64 1)]⟩,
     ⟨some 12, none, .ex (.pick) [.s 9, .k (.bool true), .s 11]⟩])
   (.cond (.s 12)
    .ret
    .skip))
  (.seq
   (.draw (.op ⟨some 13, none, .ex (.mov) [.s 0]⟩ (.op ⟨some 14, none, .ex (.mov) [.s 0]⟩ (.op ⟨some 15, none, .ex (.nilck) [.s 14]⟩ (.op ⟨some 16, none, .ex (.fa 0) [.s 15]⟩ (.op ⟨some 18, none, .ex (.mov) [.s 0]⟩ (.fork (.op ⟨some 17, none, .ex (.ld 1) [.s 16]⟩ (.op ⟨some 19, none, .callf 108 [.s 18]⟩ (.op ⟨some 20, none, .ex (.app 5 88) [.s 17, .s 19]⟩ (.op ⟨some 21, none, .ex (.nilck) [.s 13]⟩ (.op ⟨some 22, none, .ex (.fa 0) [.s 21]⟩ (.op ⟨none, none, .ex (.st 1) [.s 22, .s 20]⟩ .done)))))) (.op ⟨some 19, none, .callf 108 [.s 18]⟩ (.op ⟨some 17, none, .ex (.ld 1) [.s 16]⟩ (.op ⟨some 20, none, .ex (.app 5 88) [.s 17, .s 19]⟩ (.op ⟨some 21, none, .ex (.nilck) [.s 13]⟩ (.op ⟨some 22, none, .ex (.fa 0) [.s 21]⟩ (.op ⟨none, none, .ex (.st 1) [.s 22, .s 20]⟩ .done)))))))))))))
   (.seq
    (.region [⟨some 23, none, .ex (.mov) [.s 0]⟩,
      ⟨some 24, none, .ex (.mov) [.s 0]⟩,
      ⟨some 25, none, .ex (.nilck) [.s 23]⟩,
      ⟨some 26, none, .ex (.fa 1) [.s 25]⟩,
      ⟨none, none, .ex (.st 1) [.s 26, .k .nils]⟩,
      ⟨some 27, none, .ex (.nilck) [.s 24]⟩,
      ⟨some 28, none, .ex (.fa 2) [.s 27]⟩,
      ⟨none, none, .ex (.st 1) [.s 28, .k (.int .i64 0)]⟩])
    retTail))),
 []⟩
theorem c101' : compFn Go.Proofs.Tryz.prog 101 = some fn101' := c101

theorem x_buildR {n : Int} {pv : V} (hp : pv.cells = [pv]) (H : Heap) : exec (.build [.int .u8 0, .int .i64 0, .nils, .nils, .nils] [(0, 1), (1, 1), (4, 1)]) [.int .u8 1, .int .i64 n, pv] H = some (.agg [.int .u8 1, .int .i64 n, .nils, .nils, pv], H) := by
  have hf : fillA [V.int .u8 0, .int .i64 0, .nils, .nils, .nils] [((0, 1), .int .u8 1), ((1, 1), .int .i64 n), ((4, 1), pv)] = some [.int .u8 1, .int .i64 n, .nils, .nils, pv] := by
    simp only [fillA, hp]
    rfl
  show (fillA [V.int .u8 0, .int .i64 0, .nils, .nils, .nils] [((0, 1), .int .u8 1), ((1, 1), .int .i64 n), ((4, 1), pv)]).map (fun cs => (V.agg cs, H)) = _
  rw [hf]
  rfl
/-- A new retain behind what is done. -/
theorem done_new {H G : Heap} {M : Nat → Prop} {p : Nat} {m : MkC} {dv iv : V} {dcs ics : List (List V)} {dk ik rk : Option Nat} (h : MkP H M p m dv iv dcs ics dk ik rk) (hi : m.ins = []) (hx : Ext H G) (hw : WF G) {pv : V} {ps : List ChgA} {pk : Option Nat} {n : Int}
    (hs : Vec G pv 6 (ps.map ChgA.cells) pk) (hs0 : pk = none → ps = []) (hsj : ∀ j, pk = some j → H.next ≤ j) (hok : OpC.Ok ⟨1, n, [], [], ps⟩) (hl : dcs.length + 1 ≤ big) :
    ∃ dv' H3 H4 H5 M', exec (.bsl 5 1 zo [(0, 5)]) [.agg [.int .u8 1, .int .i64 n, .nils, .nils, pv]] G = some (.slice G.next 0 1 (some 1), H3) ∧
      exec (.app 5 88) [dv, .slice G.next 0 1 (some 1)] H3 = some (dv', H4) ∧ exec (.st 1) [.ptr p (0 + 0), dv'] H4 = some (.undef, H5) ∧
      MkI H5 M' p ⟨m.done ++ [⟨1, n, [], [], ps⟩], m.ins, m.gone⟩ ∧ ExtM M H H5 ∧ MGrow M M' H ∧ WF H5 := by
  have hso := hs.one
  obtain ⟨H3, b1, b2, b3, b4, b5⟩ := bsl1 (H := G) (e := [.int .u8 1, .int .i64 n, .nils, .nils, pv]) rfl (by
    simp only [List.all_cons, List.all_nil, Bool.and_true, hso.1]
    rfl)
  obtain ⟨H4, a1, a2, a3, a4, a5, a6, a7⟩ := app1 (b3 hw) ((h.dvec.ext hx).ext b2) b4 hl
  have hxn := hx.next
  have hbn := b2.next
  have hpl := h.lt
  have hdl : ∀ j, dk = some j → j < H.next := fun j e => by have := h.dvec; rw [e] at this; exact this.lt
  have hil' : ∀ j, ik = some j → j < H.next := fun j e => by have := h.ivec; rw [e] at this; exact this.lt
  have hp4 : H4.get p = some (.row false 3 [dv, iv, .int .i64 m.gone]) := by
    rw [a7 p (by omega) (fun e => (h.md p e).2 rfl), b2.get p (by omega), hx.get p hpl]; exact h.at'
  have e1 := mk_st (k := 0) hp4 (by decide) (v := .slice H3.next 0 (dcs.length + 1) none) rfl rfl
  have hxx : ∀ j, j < G.next → dk ≠ some j → j ≠ p → (H4.set p (.row false 3 ([dv, iv, V.int .i64 m.gone].set 0 (.slice H3.next 0 (dcs.length + 1) none)))).get j = G.get j := fun j hj h1 h2 => by
    rw [Heap.set_get, if_neg h2, a7 j (by omega) h1, b2.get j hj]
  have hM : ExtM M H (H4.set p (.row false 3 ([dv, iv, V.int .i64 m.gone].set 0 (.slice H3.next 0 (dcs.length + 1) none)))) := by
    refine ⟨by rw [Heap.set_gn, a6, b2.gn, hx.gn], by rw [Heap.set_next]; omega, fun j hj hm => ?_⟩
    rw [hxx j (by omega) (fun e => hm (h.md j e).1) (fun e => hm (by rw [e]; exact h.mp))]
    exact hx.get j hj
  have hG : MGrow M (fun j => M j ∨ j = H3.next) H := fun j hj => by
    rcases hj with q | q
    · exact .inl q
    · exact .inr (by omega)
  refine ⟨_, H3, H4, _, fun j => M j ∨ j = H3.next, b1, a1, e1, ?_, hM, hG, a4.set hp4 _⟩
  have hp5 : (H4.set p (.row false 3 ([dv, iv, V.int .i64 m.gone].set 0 (.slice H3.next 0 (dcs.length + 1) none)))).get p = some (.row false 3 [.slice H3.next 0 (dcs.length + 1) none, iv, .int .i64 m.gone]) := set_get' _ _ _
  have hi5 : (H4.set p (.row false 3 ([dv, iv, V.int .i64 m.gone].set 0 (.slice H3.next 0 (dcs.length + 1) none)))).get H3.next = H4.get H3.next := by rw [Heap.set_get, if_neg (by omega)]
  have hn5 : (H4.set p (.row false 3 ([dv, iv, V.int .i64 m.gone].set 0 (.slice H3.next 0 (dcs.length + 1) none)))).next = H4.next := rfl
  generalize H4.set p (.row false 3 ([dv, iv, V.int .i64 m.gone].set 0 (.slice H3.next 0 (dcs.length + 1) none))) = H5 at *
  rcases h.ins with ⟨hie, _, hrk⟩ | ⟨_, _, _, _, _, _, q, _⟩
  rotate_left
  · rw [hi] at q; simp at q
  refine ⟨.slice H3.next 0 (dcs.length + 1) none, iv, dcs ++ [[.int .u8 1, .int .i64 n, .nils, .nils, pv]], ics, some H3.next, ik, none, by omega, .inl h.mp, fun j hj => ?_, hp5, ?_, ?_, fun j e => ?_, fun j e => ⟨.inl (h.mi j e).1, (h.mi j e).2⟩, fun j e q => ?_, fun j e => (by cases e), ?_, .inl ⟨hie, hi, rfl⟩, fun e => (by cases e), h.inn⟩
  · rcases hj with q | q
    · have := h.mb j q; omega
    · omega
  · refine a2.keep (by omega) (fun j e => ?_) (fun e => by cases e)
    cases e
    exact hi5
  · refine h.ivec.keep (by omega) (fun j e => ?_) (fun e s => ?_)
    · have := hil' j e
      rw [hxx j (by omega) (fun q => h.di j q e) (h.mi j e).2]
      exact hx.get j this
    · rw [h.inn e] at s ⊢
      exact s.empty (by omega)
  · cases e
    exact ⟨.inr rfl, by omega⟩
  · cases e
    have := hil' _ q
    omega
  · refine All2.append (All2.imp (fun a b q => q.step hM hG) h.done) ⟨⟨⟨1, n, .nils, .nils, pv, [], [], ps⟩, rfl, rfl, ?_⟩, trivial⟩
    have hfr : Fz (fun j => M j ∨ j = H3.next) H5 fun H' => SL H' pv 6 (ps.map ChgA.cells) := by
      refine hs.fz (fun e => by rw [hs0 e]; rfl) (by omega) fun j e => ?_
      have hjl : j < G.next := by rw [e] at hs; exact hs.lt
      have q1 := hsj j e
      refine ⟨?_, hxx j hjl (fun q => ?_) (by omega)⟩
      · rintro (q | q)
        · have := h.mb j q; omega
        · omega
      · have := hdl j q; omega
    exact fun H' hx => ⟨⟨by simp, .inl ⟨rfl, rfl⟩⟩, ⟨by simp, .inl ⟨rfl, rfl⟩⟩, hfr H' hx, by simp, by simp, hok.cl, by simp, hok.sc, hok.nlo, hok.nhi⟩

theorem patchCopy_calls {x : V} {H : Heap} {ps : List ChgA} (hx : SL H x 6 (ps.map ChgA.cells)) (hl : ps.length ≤ big) :
    SCalls PP 53 [x] H fun r H' => Ext H H' ∧ WF H' ∧ ∃ k, Vec H' r 6 (ps.map ChgA.cells) k ∧ (∀ j, k = some j → H.next ≤ j) ∧ (k = none → ps = []) := by
  refine SCalls.go c53 (by simp [fn53]) fun hw => ?_
  simp (maxSteps := 1000000) (implicitDefEqProofs := false) only [stp, if_true, if_false, Int.reduceEq, Int.reduceLT, Int.reduceLE, Int.reduceGT, Int.reduceGE, reduceCtorEq, Nat.reduceEqDiff, List.getElem?_cons_zero, List.getElem?_cons_succ, Option.map_some, fn53, enterFr, List.length, List.range, List.range.loop, List.zip, List.zipWith]
  refine SCalls.mono (clone_gen (show compFn PP 73 = some (cloneFn 6 56) from c73) (by decide) (by decide) hx (by simpa using hl)) ?_
  rintro r H' ⟨h1, h2, k, h3, h4, _, h5⟩
  simp (maxSteps := 1000000) (implicitDefEqProofs := false) only [stp, if_true, if_false, Int.reduceEq, Int.reduceLT, Int.reduceLE, Int.reduceGT, Int.reduceGE, reduceCtorEq, Nat.reduceEqDiff, List.getElem?_cons_zero, List.getElem?_cons_succ, Option.map_some, if_true]
  exact ⟨h1, h2, k, h3, h4, fun e => by simpa using h5 e⟩

theorem MkI.trans {H H1 H2 : Heap} {M M1 M2 : Nat → Prop} (h : ExtM M H H1) (g : MGrow M M1 H) (h' : ExtM M1 H1 H2) (g' : MGrow M1 M2 H1) : ExtM M H H2 ∧ MGrow M M2 H := ⟨h.step g h', g.trans g' h.next⟩

set_option maxRecDepth 20000 in
set_option maxHeartbeats 4000000 in
theorem retTail_ok {H : Heap} (hw : WF H) {M : Nat → Prop} {p : Nat} {m : MkC} {dv iv : V} {dcs ics : List (List V)} {dk ik rk : Option Nat} (h : MkP H M p m dv iv dcs ics dk ik rk) (hi : m.ins = []) {pv : V} {ps : List ChgA} {n : Int}
    (hpv : SL H pv 6 (ps.map ChgA.cells)) (hok : OpC.Ok ⟨1, n, [], [], ps⟩) (hl : dcs.length + 1 ≤ big) {R : V → Heap → Prop}
    (hR : ∀ H' M', MkI H' M' p ⟨retainDone m.done n ps, m.ins, m.gone⟩ → ExtM M H H' → MGrow M M' H → WF H' → ∀ v, R v H') {fr : Fr} (g0 : fr.get 0 = some (.ptr p 0)) (g1 : fr.get 1 = some (.int .i64 n)) (g2 : fr.get 2 = some pv) :
    wpC (SCalls PP) retTail fr H (kend [] R) := by
  have hl' := hl
  unfold big at hl'
  have hcl := hok.cl
  simp only at hcl
  have l0 := h.at3.ld (j := 0) (v := dv) rfl 1
  have hdlen := h.dvec.len H
  have hdl := h.done.length
  have ldx : ∀ G, Ext H G → exec (.ld 1) [.ptr p (0 + 0)] G = some (dv, G) := fun G hx => (h.at3.ext hx).ld (j := 0) (v := dv) rfl 1
  have new : retainDone m.done n ps = m.done ++ [⟨1, n, [], [], ps⟩] → ∀ fr : Fr, fr.get 0 = some (.ptr p 0) → fr.get 1 = some (.int .i64 n) → fr.get 2 = some pv → wpC (SCalls PP) retNew fr H (kend [] R) := by
    intro hrd fr g0 g1 g2
    have l0 := ldx H (Ext.refl H)
    simp (maxSteps := 1000000) (implicitDefEqProofs := false) only [stp, if_true, if_false, Int.reduceEq, Int.reduceLT, Int.reduceLE, Int.reduceGT, Int.reduceGE, reduceCtorEq, Nat.reduceEqDiff, List.getElem?_cons_zero, List.getElem?_cons_succ, Option.map_some, retNew, g0, g1, g2, l0]
    refine ⟨?_, ?_⟩
    all_goals
      refine SCalls.mono (patchCopy_calls hpv hcl) ?_
      rintro r G ⟨hx, hwG, k, hv, hk, hk0⟩
      obtain ⟨dv', H3, H4, H5, M', e1, e2, e3, e4, e5, e6, e7⟩ := done_new h hi hx hwG hv hk0 hk hok hl
      have l0' := ldx G hx
      simp (maxSteps := 1000000) (implicitDefEqProofs := false) only [stp, if_true, if_false, Int.reduceEq, Int.reduceLT, Int.reduceLE, Int.reduceGT, Int.reduceGE, reduceCtorEq, Nat.reduceEqDiff, List.getElem?_cons_zero, List.getElem?_cons_succ, Option.map_some, g0, l0', x_buildR hv.one.2, e1, e2, e3]
      exact hR _ M' (by rw [hrd]; exact e4) e5 e6 e7 _
  have hw1 : IntKind.i64.wrap ((dcs.length : Int) - 1) = (dcs.length : Int) - 1 := wrap_i64 (by omega) (by omega)
  rcases List.eq_nil_or_concat dcs with hd0 | ⟨ei, el, hde⟩
  · subst hd0
    have hm0 : m.done = [] := List.eq_nil_of_length_eq_zero (by simpa using hdl.symm)
    have hlt : ¬ ((([] : List (List V)).length : Int) - 1 ≥ 0) := by simp
    simp only [List.length_nil, Int.natCast_zero] at hlt hw1 hdlen
    simp (maxSteps := 1000000) (implicitDefEqProofs := false) only [stp, if_true, if_false, Int.reduceEq, Int.reduceLT, Int.reduceLE, Int.reduceGT, Int.reduceGE, reduceCtorEq, Nat.reduceEqDiff, List.getElem?_cons_zero, List.getElem?_cons_succ, Option.map_some, retTail, g0, g1, g2, l0, hdlen, hw1, hlt]
    refine new (by rw [hm0]; rfl) _ ?_ ?_ ?_
    · exact g0
    · exact g1
    · exact g2
  · rw [List.concat_eq_append] at hde
    subst hde
    obtain ⟨cd, c, hcd⟩ : ∃ cd c, m.done = cd ++ [c] := by
      rcases List.eq_nil_or_concat m.done with q | ⟨cd, c, q⟩
      · rw [q] at hdl; simp at hdl
      · exact ⟨cd, c, by rw [q, List.concat_eq_append]⟩
    have hicl : (ei ++ [el]).length = ei.length + 1 := by rw [List.length_append]; rfl
    have hw1' : IntKind.i64.wrap (((ei ++ [el]).length : Int) - 1) = ((ei.length : Nat) : Int) := by rw [hw1]; omega
    have hge : ((ei.length : Nat) : Int) ≥ 0 := by omega
    obtain ⟨i, q1, q2, q3, H1, q4, q5, q6, q7⟩ := grow_done hw h hcd (c.n + n)
    obtain ⟨o, ho1, ho2, ho3⟩ := q3
    have ho3 := ho3.here
    have l1 := q2.ld (j := 0) (v := .int .u8 o.kind) (by rw [ho1]; rfl) 1
    have l4 := q2.ld (j := 4) (v := o.patch) (by rw [ho1]; rfl) 1
    have ln := q2.ld (j := 1) (v := .int .i64 o.n) (by rw [ho1]; rfl) 1
    have hia := x_iax (H := H) (id := i) (n := (ei ++ [el]).length) (i := ei.length) (sz := 5) (by omega)
    rw [hicl, ← q1] at hia
    have hok' : o.kind = c.kind := by rw [← ho2]; rfl
    have hon : o.n = c.n := by rw [← ho2]; rfl
    have hoc : o.chs = c.chs := by rw [← ho2]; rfl
    have hgl : m.done.getLast? = some c := by rw [hcd]; simp
    have nw : isRetain c ps = false → ∀ fr : Fr, fr.get 0 = some (.ptr p 0) → fr.get 1 = some (.int .i64 n) → fr.get 2 = some pv → wpC (SCalls PP) retNew fr H (kend [] R) := fun hr => new (by rw [retainDone, hgl]; simp [hr])
    by_cases hk : c.kind = 1
    · simp (maxSteps := 1000000) (implicitDefEqProofs := false) only [stp, if_true, if_false, Int.reduceEq, Int.reduceLT, Int.reduceLE, Int.reduceGT, Int.reduceGE, reduceCtorEq, Nat.reduceEqDiff, List.getElem?_cons_zero, List.getElem?_cons_succ, Option.map_some, retTail, g0, g1, g2, l0, hdlen, hw1', hge, hia, l1, hok', hk, l4]
      refine SCalls.mono (patchSame_calls ho3.patch hpv (by rw [hoc]; exact ho2 ▸ ho3.cl)) ?_
      rintro r H' ⟨rfl, rfl⟩
      rw [hoc]
      cases heq : listEq chgEq c.chs ps with
      | false =>
        simp (maxSteps := 1000000) (implicitDefEqProofs := false) only [stp, if_true, if_false, Int.reduceEq, Int.reduceLT, Int.reduceLE, Int.reduceGT, Int.reduceGE, reduceCtorEq, Nat.reduceEqDiff, List.getElem?_cons_zero, List.getElem?_cons_succ, Option.map_some, heq]
        refine nw (by simp [isRetain, heq]) _ ?_ ?_ ?_
        · exact g0
        · exact g1
        · exact g2
      | true =>
        have hrd : retainDone m.done n ps = cd ++ [⟨c.kind, IntKind.i64.wrap (c.n + n), c.rs, c.ats, c.chs⟩] := by
          rw [retainDone, hgl]
          simp only [isRetain, hk, heq, decide_true, Bool.and_self, if_true]
          rw [hcd, List.dropLast_concat]
        simp (maxSteps := 1000000) (implicitDefEqProofs := false) only [stp, if_true, if_false, Int.reduceEq, Int.reduceLT, Int.reduceLE, Int.reduceGT, Int.reduceGE, reduceCtorEq, Nat.reduceEqDiff, List.getElem?_cons_zero, List.getElem?_cons_succ, Option.map_some, heq, g0, g1, l0, hia, ln, hon, q4]
        exact hR _ M (by rw [hrd]; exact q5) q6 (MGrow.refl M _) q7 _
    · simp (maxSteps := 1000000) (implicitDefEqProofs := false) only [stp, if_true, if_false, Int.reduceEq, Int.reduceLT, Int.reduceLE, Int.reduceGT, Int.reduceGE, reduceCtorEq, Nat.reduceEqDiff, List.getElem?_cons_zero, List.getElem?_cons_succ, Option.map_some, retTail, g0, g1, g2, l0, hdlen, hw1', hge, hia, l1, hok', hk]
      refine nw (by simp [isRetain, hk]) _ ?_ ?_ ?_
      · exact g0
      · exact g1
      · exact g2

set_option maxRecDepth 20000 in
set_option maxHeartbeats 4000000 in
theorem retain_calls {H : Heap} {M : Nat → Prop} {p : Nat} {m : MkC} (h : MkI H M p m) {pv : V} {ps : List ChgA} {n : Int} (hpv : Fz M H fun H' => SL H' pv 6 (ps.map ChgA.cells)) (hok : OpC.Ok ⟨1, n, [], [], ps⟩) (hl : m.done.length + m.ins.length + 3 ≤ big) (hgo : m.gone ≤ 9223372036854775807) :
    SCalls PP 101 [.ptr p 0, .int .i64 n, pv] H fun _ H' => ∃ M', MkI H' M' p (m.retain n ps) ∧ ExtM M H H' ∧ MGrow M M' H ∧ WF H' := by
  refine SCalls.go c101' (by simp [fn101']) fun hw => ?_
  obtain ⟨dv, iv, dcs, ics, dk, ik, rk, h⟩ := h
  unfold big at hl
  have hnp : exec (.eqnil 0 false) [.ptr p 0, .nilp] H = some (.bool false, H) := rfl
  by_cases hn1 : n < 1
  · simp (maxSteps := 1000000) (implicitDefEqProofs := false) only [stp, if_true, if_false, Int.reduceEq, Int.reduceLT, Int.reduceLE, Int.reduceGT, Int.reduceGE, reduceCtorEq, Nat.reduceEqDiff, List.getElem?_cons_zero, List.getElem?_cons_succ, Option.map_some, fn101', enterFr, List.length, List.range, List.range.loop, List.zip, List.zipWith, hnp, hn1]
    exact ⟨M, by simpa [MkC.retain, hn1] using ⟨dv, iv, dcs, ics, dk, ik, rk, h⟩, ExtM.refl M H, MGrow.refl M H, hw⟩
  have hil := h.ins.len
  have hdl := h.done.length
  have hdc : (delC m.gone).length ≤ 1 := by unfold delC; split <;> simp
  have l0 := h.at3.ld (j := 0) (v := dv) rfl 1
  simp (maxSteps := 1000000) (implicitDefEqProofs := false) only [stp, if_true, if_false, Int.reduceEq, Int.reduceLT, Int.reduceLE, Int.reduceGT, Int.reduceGE, reduceCtorEq, Nat.reduceEqDiff, List.getElem?_cons_zero, List.getElem?_cons_succ, Option.map_some, fn101', enterFr, List.length, List.range, List.range.loop, List.zip, List.zipWith, hnp, hn1, l0]
  refine ⟨?_, ?_⟩
  all_goals
    refine SCalls.mono (gap_calls h (by unfold big; omega)) ?_
    rintro r G ⟨hx, hwG, k, hv, hk, hk0⟩
    have l0' := (h.at3.ext hx).ld (j := 0) (v := dv) rfl 1
    obtain ⟨dv', dk', H1, H2, H3, H4, M', e1, e2, e3, e4, e5, e6, e7, e8⟩ := flush h hx hwG hv rfl (by rw [List.length_append]; unfold big; omega) hgo
    simp (maxSteps := 1000000) (implicitDefEqProofs := false) only [stp, if_true, if_false, Int.reduceEq, Int.reduceLT, Int.reduceLE, Int.reduceGT, Int.reduceGE, reduceCtorEq, Nat.reduceEqDiff, List.getElem?_cons_zero, List.getElem?_cons_succ, Option.map_some, l0', e1, e2, e3, e4]
    refine retTail_ok e8 e5 rfl (hpv _ e6) hok (by rw [List.length_append, List.length_append]; unfold big; omega) (fun H' M2 q1 q2 q3 q4 v => ?_) rfl rfl rfl
    obtain ⟨r1, r2⟩ := MkI.trans e6 e7 q2 q3
    refine ⟨M2, ?_, r1, r2, q4⟩
    rw [MkC.retain, if_neg hn1]
    exact q1
end Go.Proofs.YtkmaikggdbielaaGreatDoor.Fw

/- slices.Grow, slices.Concat, ops.Copy. No condition. Parts printed. -/
namespace Go.Proofs.YtkmaikggdbielaaGreatDoor.Fw
open Go
set_option linter.unusedSimpArgs false
set_option linter.unusedVariables false

theorem x_cap0 (H : Heap) : exec .cap [.nils] H = some (.int .i64 0, H) := rfl
theorem x_len0 (H : Heap) : exec .len [.nils] H = some (.int .i64 0, H) := rfl
theorem x_appz {n : Int} (h0 : 0 < n) (h1 : n ≤ 1048576) (H : Heap) : exec (.appz 5 88 zo) [.nils, .int .i64 n] H = some (.slice H.next 0 n.toNat none, H.new (.row false 5 (List.replicate n.toNat zo).flatten)) := by
  simp only [exec]
  rw [if_pos ⟨h0, by omega, by omega, rfl, rfl, by decide⟩]
set_option maxRecDepth 20000 in
theorem grow_calls {H : Heap} {n : Int} (h0 : 0 ≤ n) (h1 : n ≤ 1048576) : SCalls PP 124 [.nils, .int .i64 n] H fun r H' => Ext H H' ∧ WF H' ∧ ∃ k, Vec H' r 5 [] k ∧ ∀ j, k = some j → H.next ≤ j := by
  refine SCalls.go c124 (by simp [fn124]) fun hw => ?_
  have hlt : ¬ n < 0 := by omega
  have hs0 : ∀ G, exec (.slc 5 false true false) [.nils, .int .i64 0] G = some (.nils, G) := fun _ => rfl
  have w0 : IntKind.i64.wrap (0 - 0) = 0 := by decide
  have w1 : IntKind.i64.wrap (n - 0) = n := by rw [Int.sub_zero]; exact wrap_i64 (by omega) (by omega)
  by_cases hn : n > 0
  · have hz := x_appz (n := n) (by omega) h1 H
    have hg := new_get H (.row false 5 (List.replicate n.toNat zo).flatten)
    have hs := x_slc_hi (n := n.toNat) (i := 0) hg (Nat.zero_le _)
    have hs' : exec (.slc 5 false true false) [.slice H.next 0 n.toNat none, .int .i64 0] (H.new (.row false 5 (List.replicate n.toNat zo).flatten)) = some (.slice H.next 0 0 none, H.new (.row false 5 (List.replicate n.toNat zo).flatten)) := hs
    simp (maxSteps := 1000000) (implicitDefEqProofs := false) only [stp, if_true, if_false, Int.reduceEq, Int.reduceLT, Int.reduceLE, Int.reduceGT, Int.reduceGE, reduceCtorEq, Nat.reduceEqDiff, List.getElem?_cons_zero, List.getElem?_cons_succ, Option.map_some, fn124, enterFr, List.length, List.range, List.range.loop, List.zip, List.zipWith, hlt, x_cap0, x_len0, w0, w1, hn, hs0, hz, hs']
    refine ⟨(Ext.refl H).new _, hw.new _, some H.next, ⟨by simp, .inr (.inr (.inr ⟨rfl, H.next, _, rfl, Nat.lt_succ_self _, hg, ?_, rfl⟩))⟩, fun j e => by cases e; exact Nat.le_refl _⟩
    exact flatAll fun e he => by rw [List.eq_of_mem_replicate he]; rfl
  · simp (maxSteps := 1000000) (implicitDefEqProofs := false) only [stp, if_true, if_false, Int.reduceEq, Int.reduceLT, Int.reduceLE, Int.reduceGT, Int.reduceGE, reduceCtorEq, Nat.reduceEqDiff, List.getElem?_cons_zero, List.getElem?_cons_succ, Option.map_some, fn124, enterFr, List.length, List.range, List.range.loop, List.zip, List.zipWith, hlt, x_cap0, x_len0, w0, w1, hn]
    exact ⟨Ext.refl H, hw, none, Vec.nil _ _, fun j e => by cases e⟩

def lens (vs : List (V × List (List V))) : Nat := (vs.map fun q => q.2.length).sum
def joined (vs : List (V × List (List V))) : List (List V) := (vs.map fun q => q.2).flatten
theorem joined_len (vs : List (V × List (List V))) : (joined vs).length = lens vs := by simp [joined, lens, List.length_flatten, Function.comp_def]
theorem lens_take (vs : List (V × List (List V))) (k : Nat) : lens (vs.take k) ≤ lens vs := by
  have : lens vs = lens (vs.take k) + lens (vs.drop k) := by
    unfold lens
    rw [← List.sum_append, ← List.map_append, List.take_append_drop]
  omega
set_option maxRecDepth 20000 in
set_option maxHeartbeats 2000000 in
theorem concat_calls {H : Heap} {s : V} {vs : List (V × List (List V))} (hs : SL H s 1 (vs.map fun q => [q.1])) (hv : ∀ q ∈ vs, SL H q.1 5 q.2) (hl : lens vs ≤ big) (hl2 : vs.length ≤ big) :
    SCalls PP 107 [s] H fun r H' => Ext H H' ∧ WF H' ∧ ∃ k, Vec H' r 5 (joined vs) k ∧ (∀ j, k = some j → H.next ≤ j) ∧ (k = none → joined vs = []) := by
  refine SCalls.go c107 (by simp [fn107]) fun hw => ?_
  unfold big at hl hl2
  have hlen : ∀ G, exec .len [s] G = some (.int .i64 vs.length, G) := fun G => by have := hs.len (H' := G); rwa [List.length_map] at this
  simp (maxSteps := 1000000) (implicitDefEqProofs := false) only [stp, if_true, if_false, Int.reduceEq, Int.reduceLT, Int.reduceLE, Int.reduceGT, Int.reduceGE, reduceCtorEq, Nat.reduceEqDiff, List.getElem?_cons_zero, List.getElem?_cons_succ, Option.map_some, fn107, enterFr, List.length, List.range, List.range.loop, List.zip, List.zipWith, hlen]
  refine wp_range (len := vs.length) SCalls.scMono (by omega) (fun acc : Int => [(9, s), (0, s), (3, .int .i64 acc)]) (fun k acc H' => H' = H ∧ acc = lens (vs.take k)) 0 ⟨rfl, by simp [lens]⟩
    (.cons rfl (.cons rfl (.cons rfl (.cons rfl (.cons rfl .nil))))) (by decide) (fun s => ⟨rfl, rfl, rfl⟩) ?_ ?_
  · rintro k acc H' hk ⟨rfl, rfl⟩
    obtain ⟨i1, o1, ha1, ht1⟩ := hs.ia (H' := H') (i := k) (e := [vs[k].1]) (by rw [List.getElem?_map, List.getElem?_eq_getElem hk]; rfl) .i64
    have l1 := ht1.ld (j := 0) (v := vs[k].1) rfl 1
    rw [Nat.add_zero] at l1
    have hlk := (hv vs[k] (List.getElem_mem hk)).len (H' := H')
    have hsum : lens (vs.take (k + 1)) = lens (vs.take k) + vs[k].2.length := by
      rw [List.take_succ_eq_append_getElem hk]; unfold lens; rw [List.map_append, List.sum_append]; simp only [List.map_cons, List.map_nil, List.sum_cons, List.sum_nil, Nat.add_zero]
    have hle := lens_take vs (k + 1)
    have hwr : IntKind.i64.wrap ((lens (vs.take k) : Int) + vs[k].2.length) = ((lens (vs.take (k + 1)) : Nat) : Int) := by rw [wrap_i64 (by omega) (by omega)]; omega
    have hnn : ¬ (((lens (vs.take (k + 1)) : Nat) : Int) < 0) := by omega
    simp (maxSteps := 1000000) (implicitDefEqProofs := false) only [stp, if_true, if_false, Int.reduceEq, Int.reduceLT, Int.reduceLE, Int.reduceGT, Int.reduceGE, reduceCtorEq, Nat.reduceEqDiff, List.getElem?_cons_zero, List.getElem?_cons_succ, Option.map_some, ha1, l1, hlk, hwr, hnn]
    exact ⟨_, ⟨by trivial, rfl⟩, .cons rfl (.cons rfl (.cons rfl (.cons rfl (.cons rfl .nil))))⟩
  · rintro acc H' ⟨rfl, rfl⟩
    rw [List.take_length]
    simp (maxSteps := 1000000) (implicitDefEqProofs := false) only [stp, if_true, if_false, Int.reduceEq, Int.reduceLT, Int.reduceLE, Int.reduceGT, Int.reduceGE, reduceCtorEq, Nat.reduceEqDiff, List.getElem?_cons_zero, List.getElem?_cons_succ, Option.map_some, if_true]
    refine SCalls.mono (grow_calls (n := (lens vs : Int)) (by omega) (by omega)) ?_
    rintro r G ⟨hx, hwG, k0, hv0, hk0⟩
    simp (maxSteps := 1000000) (implicitDefEqProofs := false) only [stp, if_true, if_false, Int.reduceEq, Int.reduceLT, Int.reduceLE, Int.reduceGT, Int.reduceGE, reduceCtorEq, Nat.reduceEqDiff, List.getElem?_cons_zero, List.getElem?_cons_succ, Option.map_some, hlen]
    refine wp_range (len := vs.length) SCalls.scMono (by omega) (fun r : V => [(25, s), (6, r)]) (fun k r G => Ext H' G ∧ WF G ∧ ∃ kk, Vec G r 5 (joined (vs.take k)) kk ∧ (∀ j, kk = some j → H'.next ≤ j) ∧ (kk = none → joined (vs.take k) = [])) r ⟨hx, hwG, k0, by simpa [joined] using hv0, hk0, fun _ => by simp [joined]⟩
      (.cons rfl (.cons rfl (.cons rfl (.cons rfl .nil)))) (by decide) (fun s => ⟨rfl, rfl, rfl⟩) ?_ ?_
    · rintro k r G hk ⟨hx, hwG, kk, hvv, hkk, hk00⟩
      obtain ⟨i1, o1, ha1, ht1⟩ := (hs.ext hx).ia (H' := G) (i := k) (e := [vs[k].1]) (by rw [List.getElem?_map, List.getElem?_eq_getElem hk]; rfl) .i64
      have l1 := ht1.ld (j := 0) (v := vs[k].1) rfl 1
      rw [Nat.add_zero] at l1
      have hsk := (hv vs[k] (List.getElem_mem hk)).ext hx
      have hj : joined (vs.take (k + 1)) = joined (vs.take k) ++ vs[k].2 := by
        rw [List.take_succ_eq_append_getElem hk]; unfold joined; rw [List.map_append, List.flatten_append]; simp only [List.map_cons, List.map_nil, List.flatten_cons, List.flatten_nil, List.append_nil]
      have hle := lens_take vs (k + 1)
      rw [← joined_len, hj, List.length_append] at hle
      by_cases he : vs[k].2 = []
      · rw [he] at hsk
        obtain ⟨s1, s2⟩ := hsk.src0
        have ha := x_app0 (bytes := 88) hvv.shape s1 s2 (by decide)
        simp (maxSteps := 1000000) (implicitDefEqProofs := false) only [stp, if_true, if_false, Int.reduceEq, Int.reduceLT, Int.reduceLE, Int.reduceGT, Int.reduceGE, reduceCtorEq, Nat.reduceEqDiff, List.getElem?_cons_zero, List.getElem?_cons_succ, Option.map_some, ha1, l1, ha]
        exact ⟨r, ⟨hx, hwG, kk, by rw [hj, he, List.append_nil]; exact hvv, hkk, fun e => by rw [hj, he, List.append_nil]; exact hk00 e⟩, .cons rfl (.cons rfl (.cons rfl (.cons rfl .nil)))⟩
      · obtain ⟨s1, s2⟩ := hsk.src he
        obtain ⟨G2, a1, a2, a3, a4, a5, a6, a7⟩ := hvv.app (bytes := 88) (n := vs[k].2.length) (news := vs[k].2) hwG (by decide) rfl (fun q => he (List.length_eq_zero_iff.1 q)) s1 s2 hsk.1 (by omega) (by omega)
        simp (maxSteps := 1000000) (implicitDefEqProofs := false) only [stp, if_true, if_false, Int.reduceEq, Int.reduceLT, Int.reduceLE, Int.reduceGT, Int.reduceGE, reduceCtorEq, Nat.reduceEqDiff, List.getElem?_cons_zero, List.getElem?_cons_succ, Option.map_some, ha1, l1, a1]
        have hxn := hx.next
        refine ⟨_, ⟨⟨a6.trans hx.gn, by omega, fun j hj' => ?_⟩, a4, _, by rw [hj]; exact a2, fun j e => (by cases e; omega), fun e => (by cases e)⟩, .cons rfl (.cons rfl (.cons rfl (.cons rfl .nil)))⟩
        rw [a7 j (by omega) (fun q => by have := hkk j q; omega), hx.get j hj']
    · rintro r G ⟨hx, hwG, kk, hvv, hkk, hk00⟩
      rw [List.take_length] at hvv hk00
      simp (maxSteps := 1000000) (implicitDefEqProofs := false) only [stp, if_true, if_false, Int.reduceEq, Int.reduceLT, Int.reduceLE, Int.reduceGT, Int.reduceGE, reduceCtorEq, Nat.reduceEqDiff, List.getElem?_cons_zero, List.getElem?_cons_succ, Option.map_some, if_true]
      exact ⟨hx, hwG, kk, hvv, hkk, hk00⟩

/-! ### ops.Copy -/
def copyRound : ACode :=
 (.draw (.op ⟨some 12, none, .ex (.mov) [.s 3]⟩ (.op ⟨some 13, none, .ex (.mov) [.s 4]⟩ (.op ⟨some 14, none, .ex (.mov) [.s 3]⟩ (.op ⟨some 15, none, .ex (.mov) [.s 4]⟩ (.op ⟨some 16, none, .ex (.mov) [.s 3]⟩ (.op ⟨some 17, none, .ex (.mov) [.s 4]⟩ (.op ⟨some 18, none, .ex (.mov) [.s 3]⟩ (.op ⟨some 19, none, .ex (.mov) [.s 4]⟩ (.op ⟨some 20, none, .ex (.ia 5) [.s 18, .s 19]⟩ (.op ⟨some 21, none, .ex (.fa 2) [.s 20]⟩ (.op ⟨some 22, none, .ex (.ld 1) [.s 21]⟩ (.op ⟨some 24, none, .ex (.mov) [.s 3]⟩ (.op ⟨some 25, none, .ex (.mov) [.s 4]⟩ (.op ⟨some 26, none, .ex (.ia 5) [.s 24, .s 25]⟩ (.op ⟨some 27, none, .ex (.fa 3) [.s 26]⟩ (.op ⟨some 30, none, .ex (.mov) [.s 3]⟩ (.op ⟨some 31, none, .ex (.mov) [.s 4]⟩ (.op ⟨some 32, none, .ex (.ia 5) [.s 30, .s 31]⟩ (.op ⟨some 33, none, .ex (.fa 4) [.s 32]⟩ (.fork (.op ⟨some 23, none, .callf 51 [.s 22]⟩ (.op ⟨some 28, none, .ex (.ld 1) [.s 27]⟩ (.fork (.op ⟨some 29, none, .callf 52 [.s 28]⟩ (.op ⟨some 34, none, .ex (.ld 1) [.s 33]⟩ (.op ⟨some 35, none, .callf 53 [.s 34]⟩ (.op ⟨some 36, none, .ex (.ia 5) [.s 12, .s 13]⟩ (.op ⟨some 37, none, .ex (.fa 2) [.s 36]⟩ (.op ⟨none, none, .ex (.st 1) [.s 37, .s 23]⟩ (.op ⟨some 38, none, .ex (.ia 5) [.s 14, .s 15]⟩ (.op ⟨some 39, none, .ex (.fa 3) [.s 38]⟩ (.op ⟨none, none, .ex (.st 1) [.s 39, .s 29]⟩ (.op ⟨some 40, none, .ex (.ia 5) [.s 16, .s 17]⟩ (.op ⟨some 41, none, .ex (.fa 4) [.s 40]⟩ (.op ⟨none, none, .ex (.st 1) [.s 41, .s 35]⟩ .done)))))))))))) (.op ⟨some 34, none, .ex (.ld 1) [.s 33]⟩ (.op ⟨some 29, none, .callf 52 [.s 28]⟩ (.op ⟨some 35, none, .callf 53 [.s 34]⟩ (.op ⟨some 36, none, .ex (.ia 5) [.s 12, .s 13]⟩ (.op ⟨some 37, none, .ex (.fa 2) [.s 36]⟩ (.op ⟨none, none, .ex (.st 1) [.s 37, .s 23]⟩ (.op ⟨some 38, none, .ex (.ia 5) [.s 14, .s 15]⟩ (.op ⟨some 39, none, .ex (.fa 3) [.s 38]⟩ (.op ⟨none, none, .ex (.st 1) [.s 39, .s 29]⟩ (.op ⟨some 40, none, .ex (.ia 5) [.s 16, .s 17]⟩ (.op ⟨some 41, none, .ex (.fa 4) [.s 40]⟩ (.op ⟨none, none, .ex (.st 1) [.s 41, .s 35]⟩ .done))))))))))))))) (.fork (.op ⟨some 28, none, .ex (.ld 1) [.s 27]⟩ (.fork (.op ⟨some 23, none, .callf 51 [.s 22]⟩ (.fork (.op ⟨some 29, none, .callf 52 [.s 28]⟩ (.op ⟨some 34, none, .ex (.ld 1) [.s 33]⟩ (.op ⟨some 35, none, .callf 53 [.s 34]⟩ (.op ⟨some 36, none, .ex (.ia 5) [.s 12, .s 13]⟩ (.op ⟨some 37, none, .ex (.fa 2) [.s 36]⟩ (.op ⟨none, none, .ex (.st 1) [.s 37, .s 23]⟩ (.op ⟨some 38, none, .ex (.ia 5) [.s 14, .s 15]⟩ (.op ⟨some 39, none, .ex (.fa 3) [.s 38]⟩ (.op ⟨none, none, .ex (.st 1) [.s 39, .s 29]⟩ (.op ⟨some 40, none, .ex (.ia 5) [.s 16, .s 17]⟩ (.op ⟨some 41, none, .ex (.fa 4) [.s 40]⟩ (.op ⟨none, none, .ex (.st 1) [.s 41, .s 35]⟩ .done)))))))))))) (.op ⟨some 34, none, .ex (.ld 1) [.s 33]⟩ (.op ⟨some 29, none, .callf 52 [.s 28]⟩ (.op ⟨some 35, none, .callf 53 [.s 34]⟩ (.op ⟨some 36, none, .ex (.ia 5) [.s 12, .s 13]⟩ (.op ⟨some 37, none, .ex (.fa 2) [.s 36]⟩ (.op ⟨none, none, .ex (.st 1) [.s 37, .s 23]⟩ (.op ⟨some 38, none, .ex (.ia 5) [.s 14, .s 15]⟩ (.op ⟨some 39, none, .ex (.fa 3) [.s 38]⟩ (.op ⟨none, none, .ex (.st 1) [.s 39, .s 29]⟩ (.op ⟨some 40, none, .ex (.ia 5) [.s 16, .s 17]⟩ (.op ⟨some 41, none, .ex (.fa 4) [.s 40]⟩ (.op ⟨none, none, .ex (.st 1) [.s 41, .s 35]⟩ .done)))))))))))))) (.op ⟨some 34, none, .ex (.ld 1) [.s 33]⟩ (.op ⟨some 23, none, .callf 51 [.s 22]⟩ (.op ⟨some 29, none, .callf 52 [.s 28]⟩ (.op ⟨some 35, none, .callf 53 [.s 34]⟩ (.op ⟨some 36, none, .ex (.ia 5) [.s 12, .s 13]⟩ (.op ⟨some 37, none, .ex (.fa 2) [.s 36]⟩ (.op ⟨none, none, .ex (.st 1) [.s 37, .s 23]⟩ (.op ⟨some 38, none, .ex (.ia 5) [.s 14, .s 15]⟩ (.op ⟨some 39, none, .ex (.fa 3) [.s 38]⟩ (.op ⟨none, none, .ex (.st 1) [.s 39, .s 29]⟩ (.op ⟨some 40, none, .ex (.ia 5) [.s 16, .s 17]⟩ (.op ⟨some 41, none, .ex (.fa 4) [.s 40]⟩ (.op ⟨none, none, .ex (.st 1) [.s 41, .s 35]⟩ .done))))))))))))))) (.op ⟨some 34, none, .ex (.ld 1) [.s 33]⟩ (.fork (.op ⟨some 23, none, .callf 51 [.s 22]⟩ (.op ⟨some 28, none, .ex (.ld 1) [.s 27]⟩ (.op ⟨some 29, none, .callf 52 [.s 28]⟩ (.op ⟨some 35, none, .callf 53 [.s 34]⟩ (.op ⟨some 36, none, .ex (.ia 5) [.s 12, .s 13]⟩ (.op ⟨some 37, none, .ex (.fa 2) [.s 36]⟩ (.op ⟨none, none, .ex (.st 1) [.s 37, .s 23]⟩ (.op ⟨some 38, none, .ex (.ia 5) [.s 14, .s 15]⟩ (.op ⟨some 39, none, .ex (.fa 3) [.s 38]⟩ (.op ⟨none, none, .ex (.st 1) [.s 39, .s 29]⟩ (.op ⟨some 40, none, .ex (.ia 5) [.s 16, .s 17]⟩ (.op ⟨some 41, none, .ex (.fa 4) [.s 40]⟩ (.op ⟨none, none, .ex (.st 1) [.s 41, .s 35]⟩ .done))))))))))))) (.op ⟨some 28, none, .ex (.ld 1) [.s 27]⟩ (.op ⟨some 23, none, .callf 51 [.s 22]⟩ (.op ⟨some 29, none, .callf 52 [.s 28]⟩ (.op ⟨some 35, none, .callf 53 [.s 34]⟩ (.op ⟨some 36, none, .ex (.ia 5) [.s 12, .s 13]⟩ (.op ⟨some 37, none, .ex (.fa 2) [.s 36]⟩ (.op ⟨none, none, .ex (.st 1) [.s 37, .s 23]⟩ (.op ⟨some 38, none, .ex (.ia 5) [.s 14, .s 15]⟩ (.op ⟨some 39, none, .ex (.fa 3) [.s 38]⟩ (.op ⟨none, none, .ex (.st 1) [.s 39, .s 29]⟩ (.op ⟨some 40, none, .ex (.ia 5) [.s 16, .s 17]⟩ (.op ⟨some 41, none, .ex (.fa 4) [.s 40]⟩ (.op ⟨none, none, .ex (.st 1) [.s 41, .s 35]⟩ .done)))))))))))))))))))))))))))))))))))))
def fn37' : AFn := ⟨44,
 (.seq
  (.region [⟨some 2, none, .ex (.mov) [.k .nils]⟩])
  (.seq
   (.region [⟨some 5, none, .ex (.mov) [.s 0]⟩,
     ⟨some 6, none, .callf 50 [.s 5]⟩,
     ⟨some 3, none, .ex (.mov) [.s 6]⟩])
   (.seq
    (.seq
     (.region [⟨some 7, none, .ex (.mov) [.s 3]⟩,
       ⟨some 8, none, .ex (.len) [.s 7]⟩,
       ⟨some 9, none, .ex (.mov) [.k (.int .i64 0)]⟩])
     (.block 0
      (.loop
       (.seq
        (.region [⟨some 10, none, .ex (.ibin .lss) [.s 9, .s 8]⟩])
        (.seq
         (.cond (.s 10)
          .skip
          (.exit 0))
         (.seq
          (.block 1
           (.seq
            (.region [⟨some 11, none, .ex (.mov) [.s 9]⟩,
              ⟨some 4, none, .ex (.mov) [.s 11]⟩])
            copyRound))
          (.region [⟨some 42, none, .ex (.ibin .add) [.s 9, .k (.int .i64 1)]⟩,
            ⟨some 9, none, .ex (.mov) [.s 42]⟩])))))))
    (.seq
     (.region [⟨some 43, none, .ex (.mov) [.s 3]⟩,
       ⟨some 2, none, .ex (.mov) [.s 43]⟩])
     .ret)))),
 [.t 2]⟩
theorem c37' : compFn Go.Proofs.Tryz.prog 37 = some fn37' := c37

/-- A delta in memory of its own: it stays, whatever happens to what was there before. -/
def Fresh (n : Nat) (H : Heap) (r : V) (os : List OpA) : Prop := Fz (fun j => j < n) H fun G => OpsIn G r os
theorem Fresh.here {n : Nat} {H : Heap} {r : V} {os : List OpA} (h : Fresh n H r os) : OpsIn H r os := Fz.here h
set_option maxRecDepth 40000 in
set_option maxHeartbeats 8000000 in
theorem copy_calls {H : Heap} {x : V} {os : List OpA} (hx : OpsIn H x os) : SCalls PP 37 [x] H fun r H' => Ext H H' ∧ WF H' ∧ ∃ os', Fresh H.next H' r os' ∧ os'.map OpA.con = os.map OpA.con := by
  refine SCalls.go c37' (by simp [fn37']) fun hw => ?_
  have hol := hx.len
  unfold big at hol
  simp (maxSteps := 1000000) (implicitDefEqProofs := false) only [stp, if_true, if_false, Int.reduceEq, Int.reduceLT, Int.reduceLE, Int.reduceGT, Int.reduceGE, reduceCtorEq, Nat.reduceEqDiff, List.getElem?_cons_zero, List.getElem?_cons_succ, Option.map_some, fn37', enterFr, List.length, List.range, List.range.loop, List.zip, List.zipWith]
  refine SCalls.mono (cloneO_calls hx.sl (by rw [List.length_map]; exact hx.len)) ?_
  rintro r G ⟨hxG, hwG, k, hv, hk, hne, hk0⟩
  have hlen : ∀ F, exec .len [r] F = some (.int .i64 os.length, F) := fun F => by have := hv.len F; rwa [List.length_map] at this
  simp (maxSteps := 1000000) (implicitDefEqProofs := false) only [stp, if_true, if_false, Int.reduceEq, Int.reduceLT, Int.reduceLE, Int.reduceGT, Int.reduceGE, reduceCtorEq, Nat.reduceEqDiff, List.getElem?_cons_zero, List.getElem?_cons_succ, Option.map_some, hlen]
  by_cases hos : os = []
  · subst hos
    refine wp_range (len := 0) SCalls.scMono (by omega) (fun _ : Unit => [(3, r)]) (fun k _ F => F = G) () rfl (.cons rfl (.cons rfl (.cons rfl .nil))) (by decide) (fun s => ⟨rfl, rfl, rfl⟩) (fun k _ F hk => by omega) ?_
    rintro _ F rfl
    simp (maxSteps := 1000000) (implicitDefEqProofs := false) only [stp, if_true, if_false, Int.reduceEq, Int.reduceLT, Int.reduceLE, Int.reduceGT, Int.reduceGE, reduceCtorEq, Nat.reduceEqDiff, List.getElem?_cons_zero, List.getElem?_cons_succ, Option.map_some, if_true]
    refine ⟨hxG, hwG, [], fun G' hx' => ⟨?_, by simp, by simp⟩, rfl⟩
    have := hv.sl
    simp only [List.map_nil] at this ⊢
    exact this.empty hx'.next
  obtain ⟨id, rfl, ho, rfl⟩ := hne (by simpa using hos)
  rw [List.length_map] at hlen ⊢
  have hid := hk id rfl
  have hidl := ho.lt
  have hxn := hxG.next
  refine wp_range (len := os.length) SCalls.scMono (by omega) (fun _ : Unit => [(3, .slice id 0 os.length none)]) (fun k _ F => ExtM (fun j => j = id) G F ∧ WF F ∧ ∃ os' : List OpA, os'.length = os.length ∧ Own F id 5 (os'.map OpA.cells) ∧ os'.map OpA.con = os.map OpA.con ∧
      (∀ j : Nat, k ≤ j → os'[j]? = os[j]?) ∧ ∀ (j : Nat) o, j < k → os'[j]? = some o → Fz (fun j => j < H.next ∨ j = id) F fun G => o.In G) ()
    ⟨ExtM.refl _ _, hwG, os, rfl, ho, rfl, fun _ _ => rfl, fun j o h => by omega⟩ (.cons rfl (.cons rfl (.cons rfl .nil))) (by decide) (fun s => ⟨rfl, rfl, rfl⟩) ?_ ?_
  · rintro k _ F hk ⟨hF, hwF, os', hol', hown, hcon, hback, hfz⟩
    have hk' : k < os'.length := by omega
    have hok : os'[k]? = some os[k] := by rw [hback k (Nat.le_refl _)]; exact List.getElem?_eq_getElem hk
    have hkk : os'[k] = os[k] := by
      have := List.getElem?_eq_getElem hk'
      rw [hok] at this
      exact (Option.some.inj this).symm
    have hFH : Ext H F := ⟨hF.gn.trans hxG.gn, by have := hF.next; omega, fun j hj => by rw [hF.get j (by omega) (by omega), hxG.get j hj]⟩
    have hin := (hx.ins os[k] (List.getElem_mem hk)).ext hFH
    have hFn := hF.next
    have hia : ∀ F', exec (.ia 5) [.slice id 0 os.length none, .int .i64 k] F' = some (.ptr id (0 + k * 5), F') := fun F' => x_iax hk
    have hat : At F id (0 + k * 5) os[k].cells := by
      obtain ⟨_, ⟨e, _⟩ | ⟨id', off', cap', e1, e2, e3⟩⟩ := hown.sl none
      · cases e
      · simp only [V.slice.injEq] at e1
        obtain ⟨rfl, rfl, _, _⟩ := e1
        exact e3 k os[k].cells (by rw [List.getElem?_map, hok]; rfl)
    have l2 : ∀ F', Ext F F' → exec (.ld 1) [.ptr id (0 + k * 5 + 2)] F' = some (os[k].runes, F') := fun F' h => (hat.ext h).ld (j := 2) (v := os[k].runes) rfl 1
    have l3 : ∀ F', Ext F F' → exec (.ld 1) [.ptr id (0 + k * 5 + 3)] F' = some (os[k].set, F') := fun F' h => (hat.ext h).ld (j := 3) (v := os[k].set) rfl 1
    have l4 : ∀ F', Ext F F' → exec (.ld 1) [.ptr id (0 + k * 5 + 4)] F' = some (os[k].patch, F') := fun F' h => (hat.ext h).ld (j := 4) (v := os[k].patch) rfl 1
    have l20 := l2 F (Ext.refl F)
    have l30 := l3 F (Ext.refl F)
    have l40 := l4 F (Ext.refl F)
    -- the three stores
    have fin : ∀ (F3 : Heap) (rv sv pv : V) (k1 k2 k3 : Option Nat), Ext F F3 → WF F3 → Vec F3 rv 1 (os[k].rs.map fun r => [V.int .i32 r]) k1 → (∀ j, k1 = some j → F.next ≤ j) → (k1 = none → os[k].rs = []) → Vec F3 sv 5 (os[k].ats.map AttrA.cells) k2 → (∀ j, k2 = some j → F.next ≤ j) → (k2 = none → os[k].ats = []) →
        Vec F3 pv 6 (os[k].chs.map ChgA.cells) k3 → (∀ j, k3 = some j → F.next ≤ j) → (k3 = none → os[k].chs = []) →
        ∃ F4 F5 F6, exec (.st 1) [.ptr id (0 + k * 5 + 2), rv] F3 = some (.undef, F4) ∧ exec (.st 1) [.ptr id (0 + k * 5 + 3), sv] F4 = some (.undef, F5) ∧ exec (.st 1) [.ptr id (0 + k * 5 + 4), pv] F5 = some (.undef, F6) ∧
          ExtM (fun j => j = id) G F6 ∧ WF F6 ∧ ∃ os' : List OpA, os'.length = os.length ∧ Own F6 id 5 (os'.map OpA.cells) ∧ os'.map OpA.con = os.map OpA.con ∧ (∀ j : Nat, k + 1 ≤ j → os'[j]? = os[j]?) ∧ ∀ (j : Nat) o, j < k + 1 → os'[j]? = some o → Fz (fun j => j < H.next ∨ j = id) F6 fun G => o.In G := by
      intro F3 rv sv pv k1 k2 k3 h3 hw3 v1 f1 z1 v2 f2 z2 v3 f3 z3
      have h3n := h3.next
      have ho3 := hown.ext h3
      have hkm : k < (os'.map OpA.cells).length := by rw [List.length_map]; exact hk'
      obtain ⟨s1, w1⟩ := ho3.cell (k := k) (c := 2) hkm (by decide) v1.one.2 v1.one.1
      obtain ⟨s2, w2⟩ := w1.cell (k := k) (c := 3) (by simpa using hkm) (by decide) v2.one.2 v2.one.1
      obtain ⟨s3, w3⟩ := w2.cell (k := k) (c := 4) (by simpa using hkm) (by decide) v3.one.2 v3.one.1
      have hlist : (((os'.map OpA.cells).set k ((os'.map OpA.cells)[k].set 2 rv)).set k ((((os'.map OpA.cells).set k ((os'.map OpA.cells)[k].set 2 rv)))[k]'(by simpa using hkm) |>.set 3 sv)).set k (((((os'.map OpA.cells).set k ((os'.map OpA.cells)[k].set 2 rv)).set k ((((os'.map OpA.cells).set k ((os'.map OpA.cells)[k].set 2 rv)))[k]'(by simpa using hkm) |>.set 3 sv)))[k]'(by simpa using hkm) |>.set 4 pv) =
          (os'.set k ⟨os[k].kind, os[k].n, rv, sv, pv, os[k].rs, os[k].ats, os[k].chs⟩).map OpA.cells := by
        simp only [List.set_set, List.getElem_set_self, List.getElem_map, List.map_set, hkk]
        rfl
      rw [hlist] at s3 w3
      have hx6 : ∀ j, j ≠ id → ((((F3.set id (.row false 5 ((os'.map OpA.cells).set k ((os'.map OpA.cells)[k].set 2 rv)).flatten)).set id (.row false 5 (((os'.map OpA.cells).set k ((os'.map OpA.cells)[k].set 2 rv)).set k ((((os'.map OpA.cells).set k ((os'.map OpA.cells)[k].set 2 rv)))[k]'(by simpa using hkm) |>.set 3 sv)).flatten)).set id (.row false 5 ((os'.set k ⟨os[k].kind, os[k].n, rv, sv, pv, os[k].rs, os[k].ats, os[k].chs⟩).map OpA.cells).flatten))).get j = F3.get j := fun j hj => by
        rw [Heap.set_get, if_neg hj, Heap.set_get, if_neg hj, Heap.set_get, if_neg hj]
      have hw6 := ((hw3.set ho3.get (.row false 5 ((os'.map OpA.cells).set k ((os'.map OpA.cells)[k].set 2 rv)).flatten)).set w1.get (.row false 5 (((os'.map OpA.cells).set k ((os'.map OpA.cells)[k].set 2 rv)).set k ((((os'.map OpA.cells).set k ((os'.map OpA.cells)[k].set 2 rv)))[k]'(by simpa using hkm) |>.set 3 sv)).flatten)).set w2.get (.row false 5 ((os'.set k ⟨os[k].kind, os[k].n, rv, sv, pv, os[k].rs, os[k].ats, os[k].chs⟩).map OpA.cells).flatten)
      refine ⟨_, _, _, s1, s2, s3, ?_, hw6, os'.set k ⟨os[k].kind, os[k].n, rv, sv, pv, os[k].rs, os[k].ats, os[k].chs⟩, by simpa using hol', w3, ?_, ?_, ?_⟩
      · refine ⟨by simp only [Heap.set_gn]; rw [h3.gn, hF.gn], by simp only [Heap.set_next]; omega, fun j hj hm => ?_⟩
        rw [hx6 j hm, h3.get j (by omega), hF.get j hj hm]
      · rw [List.map_set, ← hcon]
        apply List.ext_getElem?
        intro j
        rw [List.getElem?_set]
        split
        · rename_i e
          subst e
          rw [if_pos (by simpa using hk'), List.getElem?_map, hok]
          rfl
        · rfl
      · intro j hj
        rw [List.getElem?_set_ne (by omega)]
        exact hback j (by omega)
      · intro j o hj hjo
        have hn6 : ((((F3.set id (.row false 5 ((os'.map OpA.cells).set k ((os'.map OpA.cells)[k].set 2 rv)).flatten)).set id (.row false 5 (((os'.map OpA.cells).set k ((os'.map OpA.cells)[k].set 2 rv)).set k ((((os'.map OpA.cells).set k ((os'.map OpA.cells)[k].set 2 rv)))[k]'(by simpa using hkm) |>.set 3 sv)).flatten)).set id (.row false 5 ((os'.set k ⟨os[k].kind, os[k].n, rv, sv, pv, os[k].rs, os[k].ats, os[k].chs⟩).map OpA.cells).flatten))).next = F3.next := rfl
        have hg6 : ((((F3.set id (.row false 5 ((os'.map OpA.cells).set k ((os'.map OpA.cells)[k].set 2 rv)).flatten)).set id (.row false 5 (((os'.map OpA.cells).set k ((os'.map OpA.cells)[k].set 2 rv)).set k ((((os'.map OpA.cells).set k ((os'.map OpA.cells)[k].set 2 rv)))[k]'(by simpa using hkm) |>.set 3 sv)).flatten)).set id (.row false 5 ((os'.set k ⟨os[k].kind, os[k].n, rv, sv, pv, os[k].rs, os[k].ats, os[k].chs⟩).map OpA.cells).flatten))).gn = F3.gn := rfl
        generalize ((((F3.set id (.row false 5 ((os'.map OpA.cells).set k ((os'.map OpA.cells)[k].set 2 rv)).flatten)).set id (.row false 5 (((os'.map OpA.cells).set k ((os'.map OpA.cells)[k].set 2 rv)).set k ((((os'.map OpA.cells).set k ((os'.map OpA.cells)[k].set 2 rv)))[k]'(by simpa using hkm) |>.set 3 sv)).flatten)).set id (.row false 5 ((os'.set k ⟨os[k].kind, os[k].n, rv, sv, pv, os[k].rs, os[k].ats, os[k].chs⟩).map OpA.cells).flatten))) = F6 at *
        have hFF : ExtM (fun j => j < H.next ∨ j = id) F F6 := ⟨by rw [hg6, h3.gn], by omega, fun j hj hm => by rw [hx6 j (fun q => hm (.inr q)), h3.get j hj]⟩
        by_cases hjk : j = k
        · subst hjk
          rw [List.getElem?_set_self hk'] at hjo
          cases hjo
          have fresh : ∀ {r : V} {sz : Nat} {es : List (List V)} {kk : Option Nat}, Vec F3 r sz es kk → (∀ j, kk = some j → F.next ≤ j) → (kk = none → es = []) → Fz (fun j => j < H.next ∨ j = id) F6 fun G => SL G r sz es := fun v f z =>
            v.fz z (by omega) fun i e => by
              have := f i e
              exact ⟨by omega, hx6 i (by omega)⟩
          have q1 := fresh v1 f1 (fun e => by rw [z1 e]; rfl)
          have q2 := fresh v2 f2 (fun e => by rw [z2 e]; rfl)
          have q3 := fresh v3 f3 (fun e => by rw [z3 e]; rfl)
          exact fun G' hx' => ⟨q1 _ hx', q2 _ hx', q3 _ hx', hin.rl, hin.al, hin.cl, hin.sa, hin.sc, hin.nlo, hin.nhi⟩
        · rw [List.getElem?_set_ne (by omega)] at hjo
          exact (hfz j o (by omega) hjo).step hFF (MGrow.refl _ _)
    have crs : ∀ F', Ext F F' → SCalls PP 51 [os[k].runes] F' fun r F2 => Ext F' F2 ∧ WF F2 ∧ ∃ k1, Vec F2 r 1 (os[k].rs.map fun r => [V.int .i32 r]) k1 ∧ (∀ j, k1 = some j → F.next ≤ j) ∧ (k1 = none → os[k].rs = []) := fun F' h =>
      SCalls.mono (cloneR_calls (hin.runes.ext h) hin.rl) fun r F2 ⟨q1, q2, k1, q3, q4, _, q5⟩ => ⟨q1, q2, k1, q3, fun j e => by have := q4 j e; have := h.next; omega, fun e => by simpa using q5 e⟩
    have cas : ∀ F', Ext F F' → SCalls PP 52 [os[k].set] F' fun r F2 => Ext F' F2 ∧ WF F2 ∧ ∃ k1, Vec F2 r 5 (os[k].ats.map AttrA.cells) k1 ∧ (∀ j, k1 = some j → F.next ≤ j) ∧ (k1 = none → os[k].ats = []) := fun F' h =>
      SCalls.mono (attrsCopy_calls (hin.set.ext h) hin.al) fun r F2 ⟨q1, q2, k1, q3, q4, q5⟩ => ⟨q1, q2, k1, q3, fun j e => by have := q4 j e; have := h.next; omega, q5⟩
    have cps : ∀ F', Ext F F' → SCalls PP 53 [os[k].patch] F' fun r F2 => Ext F' F2 ∧ WF F2 ∧ ∃ k1, Vec F2 r 6 (os[k].chs.map ChgA.cells) k1 ∧ (∀ j, k1 = some j → F.next ≤ j) ∧ (k1 = none → os[k].chs = []) := fun F' h =>
      SCalls.mono (patchCopy_calls (hin.patch.ext h) hin.cl) fun r F2 ⟨q1, q2, k1, q3, q4, q5⟩ => ⟨q1, q2, k1, q3, fun j e => by have := q4 j e; have := h.next; omega, q5⟩
    simp (maxSteps := 1000000) (implicitDefEqProofs := false) only [stp, if_true, if_false, Int.reduceEq, Int.reduceLT, Int.reduceLE, Int.reduceGT, Int.reduceGE, reduceCtorEq, Nat.reduceEqDiff, List.getElem?_cons_zero, List.getElem?_cons_succ, Option.map_some, copyRound, hia, l20, l30, l40]
    repeat' (with_reducible refine And.intro ?_ ?_)
    all_goals
      refine SCalls.mono (crs F (Ext.refl F)) ?_
      rintro rv F1 ⟨h1, hw1, k1, v1, f1, z1⟩
      have l31 := l3 F1 h1
      have l41 := l4 F1 h1
      simp (maxSteps := 1000000) (implicitDefEqProofs := false) only [stp, if_true, if_false, Int.reduceEq, Int.reduceLT, Int.reduceLE, Int.reduceGT, Int.reduceGE, reduceCtorEq, Nat.reduceEqDiff, List.getElem?_cons_zero, List.getElem?_cons_succ, Option.map_some, l31, l41]
      repeat' (with_reducible refine And.intro ?_ ?_)
      all_goals
        refine SCalls.mono (cas F1 h1) ?_
        rintro sv F2 ⟨h2, hw2, k2, v2, f2, z2⟩
        have l42 := l4 F2 (h1.trans h2)
        simp (maxSteps := 1000000) (implicitDefEqProofs := false) only [stp, if_true, if_false, Int.reduceEq, Int.reduceLT, Int.reduceLE, Int.reduceGT, Int.reduceGE, reduceCtorEq, Nat.reduceEqDiff, List.getElem?_cons_zero, List.getElem?_cons_succ, Option.map_some, l42]
        refine SCalls.mono (cps F2 (h1.trans h2)) ?_
        rintro pv F3 ⟨h3, hw3, k3, v3, f3, z3⟩
        obtain ⟨F4, F5, F6, e1, e2, e3, hJ⟩ := fin F3 rv sv pv k1 k2 k3 ((h1.trans h2).trans h3) hw3 ((v1.ext h2).ext h3) f1 z1 (v2.ext h3) f2 z2 v3 f3 z3
        simp (maxSteps := 1000000) (implicitDefEqProofs := false) only [stp, if_true, if_false, Int.reduceEq, Int.reduceLT, Int.reduceLE, Int.reduceGT, Int.reduceGE, reduceCtorEq, Nat.reduceEqDiff, List.getElem?_cons_zero, List.getElem?_cons_succ, Option.map_some, hia, e1, e2, e3]
        exact ⟨(), hJ, .cons rfl (.cons rfl (.cons rfl .nil))⟩
  · rintro _ F ⟨hF, hwF, os', hol', hown, hcon, hback, hfz⟩
    simp (maxSteps := 1000000) (implicitDefEqProofs := false) only [stp, if_true, if_false, Int.reduceEq, Int.reduceLT, Int.reduceLE, Int.reduceGT, Int.reduceGE, reduceCtorEq, Nat.reduceEqDiff, List.getElem?_cons_zero, List.getElem?_cons_succ, Option.map_some, if_true]
    have hFn := hF.next
    refine ⟨⟨hF.gn.trans hxG.gn, by omega, fun j hj => by rw [hF.get j (by omega) (by omega), hxG.get j hj]⟩, hwF, os', fun G' hx' => ?_, hcon⟩
    have hx2 : ExtM (fun j => j < H.next ∨ j = id) F G' := ⟨hx'.gn, hx'.next, fun j hj hm => hx'.get j hj (fun q => hm (.inl q))⟩
    have how := hown.extM hx' (by omega)
    refine ⟨?_, fun o ho => ?_, by rw [hol']; exact hx.len⟩
    · have := how.sl none
      rwa [List.length_map, hol'] at this
    · obtain ⟨j, hj⟩ := List.getElem?_of_mem ho
      have hjl := (List.getElem?_eq_some_iff.1 hj).1
      exact hfz j o (by omega) hj _ hx2
end Go.Proofs.YtkmaikggdbielaaGreatDoor.Fw

/- A history undoes and does again. No condition. -/
namespace Go.Proofs.YtkmaikggdbielaaGreatDoor.Fw
open Go
set_option linter.unusedSimpArgs false
set_option linter.unusedVariables false

theorem Fresh.le {n m : Nat} {H : Heap} {r : V} {os : List OpA} (h : Fresh n H r os) (k : m ≤ n) : Fresh m H r os :=
  fun G x => h G ⟨x.gn, x.next, fun j hj hm => x.get j hj fun e => hm (Nat.lt_of_lt_of_le e k)⟩
theorem Fresh.grow {n : Nat} {H H' : Heap} {r : V} {os : List OpA} (h : Fresh n H r os) (k : Ext H H') : Fresh n H' r os := Fz.step h (k.toM _) (MGrow.refl _ _)
theorem Fresh.one {n : Nat} {H : Heap} {r : V} {os : List OpA} (h : Fresh n H r os) : r.one = true ∧ r.cells = [r] := by
  obtain ⟨_, ⟨rfl, _⟩ | ⟨id, off, cap, rfl, _⟩⟩ := h.here.sl <;> exact ⟨rfl, rfl⟩
/-- A box is written. -/
theorem x_fill {H : Heap} {id : Nat} (hw : WF H) (hl : id < H.next) (hg : H.get id = some (.row false 2 [.nils, .nils])) {e : List V} (hn : e.length = 2) (ho : e.all V.one = true) :
    ∃ G, exec (.st 2) [.ptr id 0, .agg e] H = some (.undef, G) ∧ WF G ∧ At G id 0 e ∧ G.next = H.next ∧ G.gn = H.gn ∧ ∀ j, j ≠ id → G.get j = H.get j :=
  ⟨H.set id (.row false 2 e), x_st hg hn rfl ho, hw.set hg _, ⟨hl, false, 2, e, set_get' _ _ _, by omega, fun j v hj => by rw [Nat.zero_add]; exact hj⟩, rfl, rfl, fun j hj => by rw [Heap.set_get, if_neg hj]⟩

set_option maxRecDepth 20000 in
set_option maxHeartbeats 2000000 in
theorem undoH_no {H : Heap} {M : Nat → Prop} {p : Nat} {s : V} {h : HistC} (q : HistI H M p s h) (hn : h.opened = true ∨ h.undo = []) :
    SCalls PP 14 [.ptr p 0] H fun r H' => WF H' ∧ Ext H H' ∧ ∃ x, r = .tup [x, .int .i64 (if h.opened then 9 else 10)] ∧ Fresh H.next H' x [] := by
  refine SCalls.go c14 (by simp [fn14]) fun hw => ?_
  simp (maxSteps := 1000000) (implicitDefEqProofs := false) only [stp, if_true, if_false, Int.reduceEq, Int.reduceLT, Int.reduceLE, Int.reduceGT, Int.reduceGE, reduceCtorEq, Nat.reduceEqDiff, List.getElem?_cons_zero, List.getElem?_cons_succ, Option.map_some, fn14, enterFr, List.length, List.range, List.range.loop, List.zip, List.zipWith]
  refine SCalls.mono (readyH q) ?_
  rintro r0 G0 ⟨rfl, rfl⟩
  have al := x_alloc G0 [.nils, .nils] rfl
  have hx1 : Ext G0 (G0.new (.row false 2 [.nils, .nils])) := (Ext.refl G0).new _
  have hw1 : WF (G0.new (.row false 2 [.nils, .nils])) := hw.new _
  have hg1 := new_get G0 (.row false 2 [.nils, .nils])
  have hn1 : (G0.new (.row false 2 [.nils, .nils])).next = G0.next + 1 := rfl
  rw [show ([V.nils, .nils] : List V).length = 2 from rfl] at al
  have q1 : HistI (G0.new (.row false 2 [.nils, .nils])) M p s h := by
    obtain ⟨uv, rv, ov, ue, re, oe, uk, rk, ok, q⟩ := q
    exact (HistD.grow (N := fun _ => False) ⟨uv, rv, ov, ue, re, oe, uk, rk, ok, q, fun j e => e.elim⟩ hx1).toI
  have fin : ∀ (a : Nat) (G2 : Heap), Ext G0 G2 → WF G2 → At G2 a 0 [.nils, .nils] → ∀ K : V → Heap → Prop, (∀ x H', WF H' ∧ Ext G0 H' ∧ Fresh G0.next H' x [] → K x H') → SCalls PP 37 [.nils] G2 K := by
    intro a G2 hx hw2 hat K hK
    refine SCalls.mono (copy_calls (x := .nils) (os := []) ⟨⟨by simp, .inl ⟨rfl, rfl⟩⟩, by simp, by simp⟩) ?_
    rintro x G3 ⟨hx3, hw3, os', hf, hc⟩
    have : os' = [] := by simpa using hc
    subst this
    exact hK x G3 ⟨hw3, hx.trans hx3, hf.le hx.next⟩
  simp (maxSteps := 1000000) (implicitDefEqProofs := false) only [stp, if_true, if_false, Int.reduceEq, Int.reduceLT, Int.reduceLE, Int.reduceGT, Int.reduceGE, reduceCtorEq, Nat.reduceEqDiff, List.getElem?_cons_zero, List.getElem?_cons_succ, Option.map_some, Bool.false_eq_true, al]
  refine ⟨?_, ?_⟩
  · refine SCalls.mono (moveU_no q hn) ?_
    rintro r1 G1 ⟨hx, hwG, rfl⟩
    obtain ⟨G2, hx2, hw2, hat2, c1, c2⟩ := x_copy (Ext.refl G1) hwG (z := [.nils, .nils]) (e := [.nils, .nils]) (n := 2) rfl rfl rfl rfl
    have l := hat2.ld (j := 1) (v := .nils) rfl 1
    simp (maxSteps := 1000000) (implicitDefEqProofs := false) only [stp, if_true, if_false, Int.reduceEq, Int.reduceLT, Int.reduceLE, Int.reduceGT, Int.reduceGE, reduceCtorEq, Nat.reduceEqDiff, List.getElem?_cons_zero, List.getElem?_cons_succ, Option.map_some, c1, c2, l]
    refine fin _ G2 (hx.trans hx2) hw2 hat2 _ fun x G3 hq => ?_
    simp (maxSteps := 1000000) (implicitDefEqProofs := false) only [stp, if_true, if_false, Int.reduceEq, Int.reduceLT, Int.reduceLE, Int.reduceGT, Int.reduceGE, reduceCtorEq, Nat.reduceEqDiff, List.getElem?_cons_zero, List.getElem?_cons_succ, Option.map_some, if_true]
    exact ⟨hq.1, hq.2.1, x, by trivial, hq.2.2⟩
  · refine SCalls.mono (moveU_no q1 hn) ?_
    rintro r1 G1 ⟨hx, hwG, rfl⟩
    have hxn := hx.next
    obtain ⟨G2, c2, hw2, hat2, n2, gn2, k2⟩ := x_fill (id := G0.next) hwG (by omega) (by rw [hx.get _ (by omega)]; exact hg1) (e := [.nils, .nils]) rfl rfl
    have l := hat2.ld (j := 1) (v := .nils) rfl 1
    simp (maxSteps := 1000000) (implicitDefEqProofs := false) only [stp, if_true, if_false, Int.reduceEq, Int.reduceLT, Int.reduceLE, Int.reduceGT, Int.reduceGE, reduceCtorEq, Nat.reduceEqDiff, List.getElem?_cons_zero, List.getElem?_cons_succ, Option.map_some, c2, l]
    refine fin _ G2 ⟨by rw [gn2, hx.gn, hx1.gn], by omega, fun j hj => by rw [k2 j (by omega), hx.get j (by omega), hx1.get j hj]⟩ hw2 hat2 _ fun x G3 hq => ?_
    simp (maxSteps := 1000000) (implicitDefEqProofs := false) only [stp, if_true, if_false, Int.reduceEq, Int.reduceLT, Int.reduceLE, Int.reduceGT, Int.reduceGE, reduceCtorEq, Nat.reduceEqDiff, List.getElem?_cons_zero, List.getElem?_cons_succ, Option.map_some, if_true]
    exact ⟨hq.1, hq.2.1, x, by trivial, hq.2.2⟩
set_option maxRecDepth 20000 in
set_option maxHeartbeats 2000000 in
theorem undoH_ok {H : Heap} {M N : Nat → Prop} {p : Nat} {s : V} {h : HistC} (q : HistD H M N p s h) (ho : h.opened = false) {gi : List GrpC} {g : GrpC} (hg : h.undo = gi ++ [g]) (hl : h.undo.length ≤ big) (hr : h.redo.length + 1 ≤ big) :
    SCalls PP 14 [.ptr p 0] H fun r H' => WF H' ∧ ∃ M', HistD H' M' N p s { h with undo := gi, redo := h.redo ++ [g] } ∧ ExtM (fun j => M j ∧ ¬ N j) H H' ∧ MGrow M M' H ∧ ∃ x os, r = .tup [x, .int .i64 0] ∧ (Fz (fun j => M' j ∨ j < H.next) H' fun G => OpsIn G x os) ∧ os.map OpA.con = g.un := by
  refine SCalls.go c14 (by simp [fn14]) fun hw => ?_
  simp (maxSteps := 1000000) (implicitDefEqProofs := false) only [stp, if_true, if_false, Int.reduceEq, Int.reduceLT, Int.reduceLE, Int.reduceGT, Int.reduceGE, reduceCtorEq, Nat.reduceEqDiff, List.getElem?_cons_zero, List.getElem?_cons_succ, Option.map_some, fn14, enterFr, List.length, List.range, List.range.loop, List.zip, List.zipWith]
  refine SCalls.mono (readyH q.toI) ?_
  rintro r0 G0 ⟨rfl, rfl⟩
  have al := x_alloc G0 [.nils, .nils] rfl
  have hx1 : Ext G0 (G0.new (.row false 2 [.nils, .nils])) := (Ext.refl G0).new _
  have hw1 : WF (G0.new (.row false 2 [.nils, .nils])) := hw.new _
  have hg1 := new_get G0 (.row false 2 [.nils, .nils])
  have hn1 : (G0.new (.row false 2 [.nils, .nils])).next = G0.next + 1 := rfl
  rw [show ([V.nils, .nils] : List V).length = 2 from rfl] at al
  have q1 : HistD (G0.new (.row false 2 [.nils, .nils])) (fun j => M j ∨ j = G0.next) (fun j => N j ∨ j = G0.next) p s h :=
    q.ext hx1 (fun _ e => .inl e) (fun j e => e.imp id fun k => by omega) (fun j e => by
      rcases e with e | e
      · have := q.mb e; omega
      · omega) fun j e => by
      rcases e with e | e
      · exact ⟨.inl (by obtain ⟨_, _, _, _, _, _, _, _, _, _, hn⟩ := q; exact (hn j e).1), .inl e⟩
      · exact ⟨.inr e, .inr (by omega)⟩
  generalize G0.new (.row false 2 [.nils, .nils]) = Ga at *
  have fin : ∀ (y : V) (us : List OpA) (G2 : Heap), G0.next ≤ G2.next → WF G2 → HistS G0 M N p s G2 { h with undo := gi, redo := h.redo ++ [g] } → OpsIn G2 y us → us.map OpA.con = g.un → ∀ K : V → Heap → Prop, (∀ x H', (WF H' ∧ ∃ M', HistD H' M' N p s { h with undo := gi, redo := h.redo ++ [g] } ∧ ExtM (fun j => M j ∧ ¬ N j) G0 H' ∧ MGrow M M' G0 ∧ ∃ os, (Fz (fun j => M' j ∨ j < G0.next) H' fun G => OpsIn G x os) ∧ os.map OpA.con = g.un) → K x H') → SCalls PP 37 [y] G2 K := by
    intro y us G2 hn hw2 hS hop hc K hK
    refine SCalls.mono (copy_calls hop) ?_
    rintro x G3 ⟨hx3, hw3, os', hf, hc'⟩
    obtain ⟨M1, q1, e1, g1⟩ := hS
    exact hK x G3 ⟨hw3, M1, q1.grow hx3, e1.trans (hx3.toM _), g1, os', Fz.step hf (ExtM.refl _ _) (fun j e => .inl (by
      rcases e with e | e
      · exact q1.mb e
      · omega)), hc'.trans hc⟩
  simp (maxSteps := 1000000) (implicitDefEqProofs := false) only [stp, if_true, if_false, Int.reduceEq, Int.reduceLT, Int.reduceLE, Int.reduceGT, Int.reduceGE, reduceCtorEq, Nat.reduceEqDiff, List.getElem?_cons_zero, List.getElem?_cons_succ, Option.map_some, Bool.false_eq_true, al]
  refine ⟨?_, ?_⟩
  · refine SCalls.mono (moveU_ok q ho hg hl hr) ?_
    rintro r1 G1 ⟨hwG, M1, d, u, rfl, hone, hz, hD, hM, hG⟩
    obtain ⟨G2, hx2, hw2, hat2, c1, c2⟩ := x_copy (Ext.refl G1) hwG (z := [.nils, .nils]) (e := [d, u]) (n := 2) rfl rfl rfl hone
    have l := hat2.ld (j := 1) (v := u) rfl 1
    simp (maxSteps := 1000000) (implicitDefEqProofs := false) only [stp, if_true, if_false, Int.reduceEq, Int.reduceLT, Int.reduceLE, Int.reduceGT, Int.reduceGE, reduceCtorEq, Nat.reduceEqDiff, List.getElem?_cons_zero, List.getElem?_cons_succ, Option.map_some, c1, c2, l]
    obtain ⟨d', u', os, us, e1, e2, e3, e4, e5⟩ := hz
    cases e1
    refine fin _ us G2 (Nat.le_trans hM.next hx2.next) hw2 (HistS.grow ⟨M1, hD, hM, hG⟩ hx2) (e5.here.ext hx2) e3 _ fun x G3 hq => ?_
    simp (maxSteps := 1000000) (implicitDefEqProofs := false) only [stp, if_true, if_false, Int.reduceEq, Int.reduceLT, Int.reduceLE, Int.reduceGT, Int.reduceGE, reduceCtorEq, Nat.reduceEqDiff, List.getElem?_cons_zero, List.getElem?_cons_succ, Option.map_some, if_true]
    obtain ⟨a1, M2, b1, b2, b3, os', a3, a4⟩ := hq
    exact ⟨a1, M2, b1, b2, b3, x, os', by trivial, a3, a4⟩
  · refine SCalls.mono (moveU_ok q1 ho hg hl hr) ?_
    rintro r1 G1 ⟨hwG, M1, d, u, rfl, hone, hz, hD, hM, hG⟩
    have hMn := hM.next
    obtain ⟨G2, c2, hw2, hat2, n2, gn2, k2⟩ := x_fill (id := G0.next) hwG (by omega) (by rw [hM.get _ (by omega) (fun e => e.2 (.inr rfl))]; exact hg1) (e := [d, u]) rfl hone
    have l := hat2.ld (j := 1) (v := u) rfl 1
    simp (maxSteps := 1000000) (implicitDefEqProofs := false) only [stp, if_true, if_false, Int.reduceEq, Int.reduceLT, Int.reduceLE, Int.reduceGT, Int.reduceGE, reduceCtorEq, Nat.reduceEqDiff, List.getElem?_cons_zero, List.getElem?_cons_succ, Option.map_some, c2, l]
    have hxN : ExtM (fun j => N j ∨ j = G0.next) G1 G2 := ⟨gn2, by omega, fun j hj hm => k2 j fun e => hm (.inr e)⟩
    have hxM : ExtM M1 G1 G2 := ⟨gn2, by omega, fun j hj hm => k2 j fun e => hm (by
      obtain ⟨_, _, _, _, _, _, _, _, _, _, hn⟩ := hD
      exact (hn j (.inr e)).1)⟩
    have hD2 := (hD.poke hxN).less (N' := N) fun j e => .inl e
    have hS : HistS G0 M N p s G2 { h with undo := gi, redo := h.redo ++ [g] } := by
      refine ⟨M1, hD2, ⟨by rw [gn2, hM.gn, hx1.gn], by omega, fun j hj hm => ?_⟩, fun j e => ?_⟩
      · rw [k2 j (by omega), hM.get j (by omega) (fun e => ?_), hx1.get j hj]
        rcases e with ⟨e | e, e2⟩
        · exact hm ⟨e, fun k => e2 (.inl k)⟩
        · omega
      · rcases hG j e with (k | k) | k
        · exact .inl k
        · exact .inr (by omega)
        · exact .inr (by omega)
    obtain ⟨d', u', os, us, e1, e2, e3, e4, e5⟩ := hz.step hxM (MGrow.refl _ _)
    cases e1
    refine fin _ us G2 (by omega) hw2 hS e5.here e3 _ fun x G3 hq => ?_
    simp (maxSteps := 1000000) (implicitDefEqProofs := false) only [stp, if_true, if_false, Int.reduceEq, Int.reduceLT, Int.reduceLE, Int.reduceGT, Int.reduceGE, reduceCtorEq, Nat.reduceEqDiff, List.getElem?_cons_zero, List.getElem?_cons_succ, Option.map_some, if_true]
    obtain ⟨a1, M2, b1, b2, b3, os', a3, a4⟩ := hq
    exact ⟨a1, M2, b1, b2, b3, x, os', by trivial, a3, a4⟩

set_option maxRecDepth 20000 in
set_option maxHeartbeats 2000000 in
theorem redoH_no {H : Heap} {M : Nat → Prop} {p : Nat} {s : V} {h : HistC} (q : HistI H M p s h) (hn : h.opened = true ∨ h.redo = []) :
    SCalls PP 16 [.ptr p 0] H fun r H' => WF H' ∧ Ext H H' ∧ ∃ x, r = .tup [x, .int .i64 (if h.opened then 9 else 10)] ∧ Fresh H.next H' x [] := by
  refine SCalls.go c16 (by simp [fn16]) fun hw => ?_
  simp (maxSteps := 1000000) (implicitDefEqProofs := false) only [stp, if_true, if_false, Int.reduceEq, Int.reduceLT, Int.reduceLE, Int.reduceGT, Int.reduceGE, reduceCtorEq, Nat.reduceEqDiff, List.getElem?_cons_zero, List.getElem?_cons_succ, Option.map_some, fn16, enterFr, List.length, List.range, List.range.loop, List.zip, List.zipWith]
  refine SCalls.mono (readyH q) ?_
  rintro r0 G0 ⟨rfl, rfl⟩
  have al := x_alloc G0 [.nils, .nils] rfl
  have hx1 : Ext G0 (G0.new (.row false 2 [.nils, .nils])) := (Ext.refl G0).new _
  have hw1 : WF (G0.new (.row false 2 [.nils, .nils])) := hw.new _
  have hg1 := new_get G0 (.row false 2 [.nils, .nils])
  have hn1 : (G0.new (.row false 2 [.nils, .nils])).next = G0.next + 1 := rfl
  rw [show ([V.nils, .nils] : List V).length = 2 from rfl] at al
  have q1 : HistI (G0.new (.row false 2 [.nils, .nils])) M p s h := by
    obtain ⟨uv, rv, ov, ue, re, oe, uk, rk, ok, q⟩ := q
    exact (HistD.grow (N := fun _ => False) ⟨uv, rv, ov, ue, re, oe, uk, rk, ok, q, fun j e => e.elim⟩ hx1).toI
  have fin : ∀ (a : Nat) (G2 : Heap), Ext G0 G2 → WF G2 → At G2 a 0 [.nils, .nils] → ∀ K : V → Heap → Prop, (∀ x H', WF H' ∧ Ext G0 H' ∧ Fresh G0.next H' x [] → K x H') → SCalls PP 37 [.nils] G2 K := by
    intro a G2 hx hw2 hat K hK
    refine SCalls.mono (copy_calls (x := .nils) (os := []) ⟨⟨by simp, .inl ⟨rfl, rfl⟩⟩, by simp, by simp⟩) ?_
    rintro x G3 ⟨hx3, hw3, os', hf, hc⟩
    have : os' = [] := by simpa using hc
    subst this
    exact hK x G3 ⟨hw3, hx.trans hx3, hf.le hx.next⟩
  simp (maxSteps := 1000000) (implicitDefEqProofs := false) only [stp, if_true, if_false, Int.reduceEq, Int.reduceLT, Int.reduceLE, Int.reduceGT, Int.reduceGE, reduceCtorEq, Nat.reduceEqDiff, List.getElem?_cons_zero, List.getElem?_cons_succ, Option.map_some, Bool.false_eq_true, al]
  refine ⟨?_, ?_⟩
  · refine SCalls.mono (moveR_no q hn) ?_
    rintro r1 G1 ⟨hx, hwG, rfl⟩
    obtain ⟨G2, hx2, hw2, hat2, c1, c2⟩ := x_copy (Ext.refl G1) hwG (z := [.nils, .nils]) (e := [.nils, .nils]) (n := 2) rfl rfl rfl rfl
    have l := hat2.ld (j := 0) (v := .nils) rfl 1
    simp (maxSteps := 1000000) (implicitDefEqProofs := false) only [stp, if_true, if_false, Int.reduceEq, Int.reduceLT, Int.reduceLE, Int.reduceGT, Int.reduceGE, reduceCtorEq, Nat.reduceEqDiff, List.getElem?_cons_zero, List.getElem?_cons_succ, Option.map_some, c1, c2, l]
    refine fin _ G2 (hx.trans hx2) hw2 hat2 _ fun x G3 hq => ?_
    simp (maxSteps := 1000000) (implicitDefEqProofs := false) only [stp, if_true, if_false, Int.reduceEq, Int.reduceLT, Int.reduceLE, Int.reduceGT, Int.reduceGE, reduceCtorEq, Nat.reduceEqDiff, List.getElem?_cons_zero, List.getElem?_cons_succ, Option.map_some, if_true]
    exact ⟨hq.1, hq.2.1, x, by trivial, hq.2.2⟩
  · refine SCalls.mono (moveR_no q1 hn) ?_
    rintro r1 G1 ⟨hx, hwG, rfl⟩
    have hxn := hx.next
    obtain ⟨G2, c2, hw2, hat2, n2, gn2, k2⟩ := x_fill (id := G0.next) hwG (by omega) (by rw [hx.get _ (by omega)]; exact hg1) (e := [.nils, .nils]) rfl rfl
    have l := hat2.ld (j := 0) (v := .nils) rfl 1
    simp (maxSteps := 1000000) (implicitDefEqProofs := false) only [stp, if_true, if_false, Int.reduceEq, Int.reduceLT, Int.reduceLE, Int.reduceGT, Int.reduceGE, reduceCtorEq, Nat.reduceEqDiff, List.getElem?_cons_zero, List.getElem?_cons_succ, Option.map_some, c2, l]
    refine fin _ G2 ⟨by rw [gn2, hx.gn, hx1.gn], by omega, fun j hj => by rw [k2 j (by omega), hx.get j (by omega), hx1.get j hj]⟩ hw2 hat2 _ fun x G3 hq => ?_
    simp (maxSteps := 1000000) (implicitDefEqProofs := false) only [stp, if_true, if_false, Int.reduceEq, Int.reduceLT, Int.reduceLE, Int.reduceGT, Int.reduceGE, reduceCtorEq, Nat.reduceEqDiff, List.getElem?_cons_zero, List.getElem?_cons_succ, Option.map_some, if_true]
    exact ⟨hq.1, hq.2.1, x, by trivial, hq.2.2⟩
set_option maxRecDepth 20000 in
set_option maxHeartbeats 2000000 in
theorem redoH_ok {H : Heap} {M N : Nat → Prop} {p : Nat} {s : V} {h : HistC} (q : HistD H M N p s h) (ho : h.opened = false) {gi : List GrpC} {g : GrpC} (hg : h.redo = gi ++ [g]) (hl : h.redo.length ≤ big) (hr : h.undo.length + 1 ≤ big) :
    SCalls PP 16 [.ptr p 0] H fun r H' => WF H' ∧ ∃ M', HistD H' M' N p s { h with redo := gi, undo := h.undo ++ [g] } ∧ ExtM (fun j => M j ∧ ¬ N j) H H' ∧ MGrow M M' H ∧ ∃ x os, r = .tup [x, .int .i64 0] ∧ (Fz (fun j => M' j ∨ j < H.next) H' fun G => OpsIn G x os) ∧ os.map OpA.con = g.dn := by
  refine SCalls.go c16 (by simp [fn16]) fun hw => ?_
  simp (maxSteps := 1000000) (implicitDefEqProofs := false) only [stp, if_true, if_false, Int.reduceEq, Int.reduceLT, Int.reduceLE, Int.reduceGT, Int.reduceGE, reduceCtorEq, Nat.reduceEqDiff, List.getElem?_cons_zero, List.getElem?_cons_succ, Option.map_some, fn16, enterFr, List.length, List.range, List.range.loop, List.zip, List.zipWith]
  refine SCalls.mono (readyH q.toI) ?_
  rintro r0 G0 ⟨rfl, rfl⟩
  have al := x_alloc G0 [.nils, .nils] rfl
  have hx1 : Ext G0 (G0.new (.row false 2 [.nils, .nils])) := (Ext.refl G0).new _
  have hw1 : WF (G0.new (.row false 2 [.nils, .nils])) := hw.new _
  have hg1 := new_get G0 (.row false 2 [.nils, .nils])
  have hn1 : (G0.new (.row false 2 [.nils, .nils])).next = G0.next + 1 := rfl
  rw [show ([V.nils, .nils] : List V).length = 2 from rfl] at al
  have q1 : HistD (G0.new (.row false 2 [.nils, .nils])) (fun j => M j ∨ j = G0.next) (fun j => N j ∨ j = G0.next) p s h :=
    q.ext hx1 (fun _ e => .inl e) (fun j e => e.imp id fun k => by omega) (fun j e => by
      rcases e with e | e
      · have := q.mb e; omega
      · omega) fun j e => by
      rcases e with e | e
      · exact ⟨.inl (by obtain ⟨_, _, _, _, _, _, _, _, _, _, hn⟩ := q; exact (hn j e).1), .inl e⟩
      · exact ⟨.inr e, .inr (by omega)⟩
  generalize G0.new (.row false 2 [.nils, .nils]) = Ga at *
  have fin : ∀ (y : V) (us : List OpA) (G2 : Heap), G0.next ≤ G2.next → WF G2 → HistS G0 M N p s G2 { h with redo := gi, undo := h.undo ++ [g] } → OpsIn G2 y us → us.map OpA.con = g.dn → ∀ K : V → Heap → Prop, (∀ x H', (WF H' ∧ ∃ M', HistD H' M' N p s { h with redo := gi, undo := h.undo ++ [g] } ∧ ExtM (fun j => M j ∧ ¬ N j) G0 H' ∧ MGrow M M' G0 ∧ ∃ os, (Fz (fun j => M' j ∨ j < G0.next) H' fun G => OpsIn G x os) ∧ os.map OpA.con = g.dn) → K x H') → SCalls PP 37 [y] G2 K := by
    intro y us G2 hn hw2 hS hop hc K hK
    refine SCalls.mono (copy_calls hop) ?_
    rintro x G3 ⟨hx3, hw3, os', hf, hc'⟩
    obtain ⟨M1, q1, e1, g1⟩ := hS
    exact hK x G3 ⟨hw3, M1, q1.grow hx3, e1.trans (hx3.toM _), g1, os', Fz.step hf (ExtM.refl _ _) (fun j e => .inl (by
      rcases e with e | e
      · exact q1.mb e
      · omega)), hc'.trans hc⟩
  simp (maxSteps := 1000000) (implicitDefEqProofs := false) only [stp, if_true, if_false, Int.reduceEq, Int.reduceLT, Int.reduceLE, Int.reduceGT, Int.reduceGE, reduceCtorEq, Nat.reduceEqDiff, List.getElem?_cons_zero, List.getElem?_cons_succ, Option.map_some, Bool.false_eq_true, al]
  refine ⟨?_, ?_⟩
  · refine SCalls.mono (moveR_ok q ho hg hl hr) ?_
    rintro r1 G1 ⟨hwG, M1, d, u, rfl, hone, hz, hD, hM, hG⟩
    obtain ⟨G2, hx2, hw2, hat2, c1, c2⟩ := x_copy (Ext.refl G1) hwG (z := [.nils, .nils]) (e := [d, u]) (n := 2) rfl rfl rfl hone
    have l := hat2.ld (j := 0) (v := d) rfl 1
    simp (maxSteps := 1000000) (implicitDefEqProofs := false) only [stp, if_true, if_false, Int.reduceEq, Int.reduceLT, Int.reduceLE, Int.reduceGT, Int.reduceGE, reduceCtorEq, Nat.reduceEqDiff, List.getElem?_cons_zero, List.getElem?_cons_succ, Option.map_some, c1, c2, l]
    obtain ⟨d', u', os, us, e1, e2, e3, e4, e5⟩ := hz
    cases e1
    refine fin _ os G2 (Nat.le_trans hM.next hx2.next) hw2 (HistS.grow ⟨M1, hD, hM, hG⟩ hx2) (e4.here.ext hx2) e2 _ fun x G3 hq => ?_
    simp (maxSteps := 1000000) (implicitDefEqProofs := false) only [stp, if_true, if_false, Int.reduceEq, Int.reduceLT, Int.reduceLE, Int.reduceGT, Int.reduceGE, reduceCtorEq, Nat.reduceEqDiff, List.getElem?_cons_zero, List.getElem?_cons_succ, Option.map_some, if_true]
    obtain ⟨a1, M2, b1, b2, b3, os', a3, a4⟩ := hq
    exact ⟨a1, M2, b1, b2, b3, x, os', by trivial, a3, a4⟩
  · refine SCalls.mono (moveR_ok q1 ho hg hl hr) ?_
    rintro r1 G1 ⟨hwG, M1, d, u, rfl, hone, hz, hD, hM, hG⟩
    have hMn := hM.next
    obtain ⟨G2, c2, hw2, hat2, n2, gn2, k2⟩ := x_fill (id := G0.next) hwG (by omega) (by rw [hM.get _ (by omega) (fun e => e.2 (.inr rfl))]; exact hg1) (e := [d, u]) rfl hone
    have l := hat2.ld (j := 0) (v := d) rfl 1
    simp (maxSteps := 1000000) (implicitDefEqProofs := false) only [stp, if_true, if_false, Int.reduceEq, Int.reduceLT, Int.reduceLE, Int.reduceGT, Int.reduceGE, reduceCtorEq, Nat.reduceEqDiff, List.getElem?_cons_zero, List.getElem?_cons_succ, Option.map_some, c2, l]
    have hxN : ExtM (fun j => N j ∨ j = G0.next) G1 G2 := ⟨gn2, by omega, fun j hj hm => k2 j fun e => hm (.inr e)⟩
    have hxM : ExtM M1 G1 G2 := ⟨gn2, by omega, fun j hj hm => k2 j fun e => hm (by
      obtain ⟨_, _, _, _, _, _, _, _, _, _, hn⟩ := hD
      exact (hn j (.inr e)).1)⟩
    have hD2 := (hD.poke hxN).less (N' := N) fun j e => .inl e
    have hS : HistS G0 M N p s G2 { h with redo := gi, undo := h.undo ++ [g] } := by
      refine ⟨M1, hD2, ⟨by rw [gn2, hM.gn, hx1.gn], by omega, fun j hj hm => ?_⟩, fun j e => ?_⟩
      · rw [k2 j (by omega), hM.get j (by omega) (fun e => ?_), hx1.get j hj]
        rcases e with ⟨e | e, e2⟩
        · exact hm ⟨e, fun k => e2 (.inl k)⟩
        · omega
      · rcases hG j e with (k | k) | k
        · exact .inl k
        · exact .inr (by omega)
        · exact .inr (by omega)
    obtain ⟨d', u', os, us, e1, e2, e3, e4, e5⟩ := hz.step hxM (MGrow.refl _ _)
    cases e1
    refine fin _ os G2 (by omega) hw2 hS e4.here e2 _ fun x G3 hq => ?_
    simp (maxSteps := 1000000) (implicitDefEqProofs := false) only [stp, if_true, if_false, Int.reduceEq, Int.reduceLT, Int.reduceLE, Int.reduceGT, Int.reduceGE, reduceCtorEq, Nat.reduceEqDiff, List.getElem?_cons_zero, List.getElem?_cons_succ, Option.map_some, if_true]
    obtain ⟨a1, M2, b1, b2, b3, os', a3, a4⟩ := hq
    exact ⟨a1, M2, b1, b2, b3, x, os', by trivial, a3, a4⟩
end Go.Proofs.YtkmaikggdbielaaGreatDoor.Fw

/- A history pushes; begins; is made. No condition. -/
namespace Go.Proofs.YtkmaikggdbielaaGreatDoor.Fw
open Go
set_option linter.unusedSimpArgs false
set_option linter.unusedVariables false

theorem HistD.gs {M N : Nat → Prop} {H : Heap} {p : Nat} {s : V} {h : HistC} (q : HistD H M N p s h) {j : Nat} (e : N j) : M j := by
  obtain ⟨_, _, _, _, _, _, _, _, _, _, hn⟩ := q
  exact (hn j e).1
theorem OpsIn.one {H : Heap} {r : V} {os : List OpA} (h : OpsIn H r os) : r.one = true ∧ r.cells = [r] := by
  obtain ⟨_, ⟨rfl, _⟩ | ⟨id, off, cap, rfl, _⟩⟩ := h.sl <;> exact ⟨rfl, rfl⟩
/-- An empty stack. -/
theorem StZ.nil (M : Nat → Prop) (H : Heap) : StZ M H .nils [] [] none := ⟨Vec.nil _ _, fun _ F _ => ⟨by simp, .inl ⟨rfl, rfl⟩⟩, (fun j e => by cases e), trivial⟩
/-- What can be done again is dropped. -/
theorem HistD.noRedo {M N : Nat → Prop} {H : Heap} (hw : WF H) {p : Nat} {s : V} {h : HistC} (q : HistD H M N p s h) :
    ∃ H', exec (.st 1) [.ptr p (0 + 4), .nils] H = some (.undef, H') ∧ WF H' ∧ HistS H M N p s H' { h with redo := [] } := by
  obtain ⟨uv, rv, ov, ue, re, oe, uk, rk, ok, q, hn⟩ := q
  obtain ⟨G, e, w, g, n, gn, k⟩ := st_row hw (k := 0 + 4) (v := .nils) q.at' (by simp) rfl rfl rfl
  have hM : ExtM M H G := ⟨gn, by omega, fun j hj hm => k j fun e => hm (by rw [e]; exact q.mp)⟩
  refine ⟨G, e, w, M, ⟨uv, .nils, ov, ue, [], oe, uk, none, ok, ⟨by have := q.lt; omega, q.mp, fun j e => by have := q.mb j e; omega, g, ?_, StZ.nil _ _, ?_, ?_, fun j e => ⟨by simp, (q.ur j e).2⟩, by simp⟩, fun j e => ?_⟩, hM.minus fun j hj e => k j (hn j e).2.1, MGrow.refl M H⟩
  · exact q.us.step hM (MGrow.refl M H) fun j e => ⟨k j (q.kp j (.inl e)), q.us.own j e⟩
  · exact q.os.step hM (MGrow.refl M H) fun j e => ⟨k j (q.kp j (.inr (.inr e))), q.os.own j e⟩
  · rintro j (e | e | e)
    · exact q.kp j (.inl e)
    · cases e
    · exact q.kp j (.inr (.inr e))
  · obtain ⟨a1, a2, a3, a4, a5⟩ := hn j e
    exact ⟨a1, a2, a3, by simp, a5⟩
/-- A bracket is opened or closed, and is empty. -/
theorem HistD.setOpen {M N : Nat → Prop} {H : Heap} (hw : WF H) {p : Nat} {s : V} {h : HistC} (q : HistD H M N p s h) (b : Bool) :
    ∃ H1 H', exec (.st 1) [.ptr p (0 + 5), .bool b] H = some (.undef, H1) ∧ exec (.st 1) [.ptr p (0 + 6), .nils] H1 = some (.undef, H') ∧ WF H' ∧ HistS H M N p s H' { h with opened := b, own := [] } := by
  obtain ⟨uv, rv, ov, ue, re, oe, uk, rk, ok, q, hn⟩ := q
  obtain ⟨G1, e1, w1, g1, n1, gn1, k1⟩ := st_row hw (k := 0 + 5) (v := .bool b) q.at' (by simp) rfl rfl rfl
  obtain ⟨G, e, w, g, n, gn, k⟩ := st_row w1 (k := 0 + 6) (v := .nils) g1 (by simp) rfl rfl rfl
  have kk : ∀ j, j ≠ p → G.get j = H.get j := fun j hj => by rw [k j hj, k1 j hj]
  have hM : ExtM M H G := ⟨by rw [gn, gn1], by omega, fun j hj hm => kk j fun e => hm (by rw [e]; exact q.mp)⟩
  refine ⟨G1, G, e1, e, w, M, ⟨uv, rv, .nils, ue, re, [], uk, rk, none, ⟨by have := q.lt; omega, q.mp, fun j e => by have := q.mb j e; omega, g, ?_, ?_, StZ.nil _ _, ?_, fun j e => ⟨(q.ur j e).1, by simp⟩, by simp⟩, fun j e => ?_⟩, hM.minus fun j hj e => kk j (hn j e).2.1, MGrow.refl M H⟩
  · exact q.us.step hM (MGrow.refl M H) fun j e => ⟨kk j (q.kp j (.inl e)), q.us.own j e⟩
  · exact q.rs.step hM (MGrow.refl M H) fun j e => ⟨kk j (q.kp j (.inr (.inl e))), q.rs.own j e⟩
  · rintro j (e | e | e)
    · exact q.kp j (.inl e)
    · exact q.kp j (.inr (.inl e))
    · cases e
  · obtain ⟨a1, a2, a3, a4, a5⟩ := hn j e
    exact ⟨a1, a2, a3, a4, by simp⟩
theorem HistD.lo {M N : Nat → Prop} {H : Heap} {p : Nat} {s : V} {h : HistC} (q : HistD H M N p s h) : exec (.ld 1) [.ptr p (0 + 5)] H = some (.bool h.opened, H) := by
  obtain ⟨uv, rv, ov, ue, re, oe, uk, rk, ok, q, hn⟩ := q
  exact q.at7.ld (j := 5) (v := .bool h.opened) rfl 1
theorem x_build2 {a b : V} (ha : a.cells = [a]) (hb : b.cells = [b]) (H : Heap) : exec (.build [.nils, .nils] [(0, 1), (1, 1)]) [a, b] H = some (.agg [a, b], H) := by
  have hf : fillA [V.nils, .nils] [((0, 1), a), ((1, 1), b)] = some [a, b] := by
    simp only [fillA, ha, hb]
    rfl
  simp only [exec, List.length_cons, List.length_nil, if_true, List.zip_cons_cons, List.zip_nil_right, hf, Option.map_some, Option.bind_some]
set_option maxRecDepth 20000 in
set_option maxHeartbeats 2000000 in
theorem pushH {H : Heap} {M N : Nat → Prop} {p : Nat} {s : V} {h : HistC} (q : HistD H M N p s h) (ho : h.opened = false) {x y : V} {os us : List OpA} (hx : OpsIn H x os) (hy : OpsIn H y us) (hl : h.undo.length + 1 ≤ big) (hm : 0 ≤ h.max) (hmb : h.max ≤ 65536) :
    SCalls PP 13 [.ptr p 0, x, y] H fun r H' => WF H' ∧ r = .int .i64 0 ∧ HistS H M N p s H' { h with undo := keepL h.max (h.undo ++ [⟨os.map OpA.con, us.map OpA.con⟩]), redo := [] } := by
  refine SCalls.go c13 (by simp [fn13]) fun hw => ?_
  simp (maxSteps := 1000000) (implicitDefEqProofs := false) only [stp, if_true, if_false, Int.reduceEq, Int.reduceLT, Int.reduceLE, Int.reduceGT, Int.reduceGE, reduceCtorEq, Nat.reduceEqDiff, List.getElem?_cons_zero, List.getElem?_cons_succ, Option.map_some, fn13, enterFr, List.length, List.range, List.range.loop, List.zip, List.zipWith]
  refine SCalls.mono (readyH q.toI) ?_
  rintro r0 G0 ⟨rfl, rfl⟩
  simp (maxSteps := 1000000) (implicitDefEqProofs := false) only [stp, if_true, if_false, Int.reduceEq, Int.reduceLT, Int.reduceLE, Int.reduceGT, Int.reduceGE, reduceCtorEq, Nat.reduceEqDiff, List.getElem?_cons_zero, List.getElem?_cons_succ, Option.map_some, Bool.not_true, Bool.false_eq_true]
  refine SCalls.mono (copy_calls hx) ?_
  rintro a G1 ⟨hx1, hw1, os', fa, ca⟩
  simp (maxSteps := 1000000) (implicitDefEqProofs := false) only [stp, if_true, if_false, Int.reduceEq, Int.reduceLT, Int.reduceLE, Int.reduceGT, Int.reduceGE, reduceCtorEq, Nat.reduceEqDiff, List.getElem?_cons_zero, List.getElem?_cons_succ, Option.map_some, if_true]
  refine SCalls.mono (copy_calls (hy.ext hx1)) ?_
  rintro b G2 ⟨hx2, hw2, us', fb, cb⟩
  have hb := x_build2 fa.one.2 fb.one.2 G2
  have hone : ([a, b] : List V).all V.one = true := by simp [fa.one.1, fb.one.1]
  obtain ⟨G3, hx3, hw3, ht3, c1, c2⟩ := x_copy (Ext.refl G2) hw2 (z := [.nils, .nils]) (e := [a, b]) (n := 2) rfl rfl rfl hone
  have h13 := hx1.trans (hx2.trans hx3)
  have q3 := q.grow h13
  have lo := q3.lo
  rw [ho] at lo
  have la := ht3.lda (n := 2) rfl
  simp (maxSteps := 1000000) (implicitDefEqProofs := false) only [stp, if_true, if_false, Int.reduceEq, Int.reduceLT, Int.reduceLE, Int.reduceGT, Int.reduceGE, reduceCtorEq, Nat.reduceEqDiff, List.getElem?_cons_zero, List.getElem?_cons_succ, Option.map_some, hb, c1, c2, lo, la]
  have n1 := hx1.next
  have n2 := hx2.next
  have hz : GrpZ M G3 [a, b] ⟨os.map OpA.con, us.map OpA.con⟩ := by
    have mm : ∀ n, G0.next ≤ n → MGrow (fun j => j < n) M G3 := fun n hn j e => .inl (Nat.lt_of_lt_of_le (q.mb e) hn)
    refine ⟨a, b, os', us', rfl, ca, cb, ?_, ?_⟩
    · exact (Fz.step fa ((hx2.trans hx3).toM _) (MGrow.refl _ _)).step (ExtM.refl _ _) (mm _ (Nat.le_refl _))
    · exact (Fz.step fb (hx3.toM _) (MGrow.refl _ _)).step (ExtM.refl _ _) (mm _ n1)
  refine SCalls.mono (keep_calls q3 hz hone hl hm hmb) ?_
  rintro r4 G4 ⟨hw4, hS4⟩
  obtain ⟨M4, q4, e4, g4⟩ := hS4
  obtain ⟨G5, st, hw5, hS5⟩ := q4.noRedo hw4
  simp (maxSteps := 1000000) (implicitDefEqProofs := false) only [stp, if_true, if_false, Int.reduceEq, Int.reduceLT, Int.reduceLE, Int.reduceGT, Int.reduceGE, reduceCtorEq, Nat.reduceEqDiff, List.getElem?_cons_zero, List.getElem?_cons_succ, Option.map_some, st]
  refine ⟨hw5, by trivial, ?_⟩
  exact HistD.before h13 (HistS.then ⟨M4, q4, e4, g4⟩ fun M' q' => by
    obtain ⟨G5', st', _, hS'⟩ := q'.noRedo hw4
    rw [st] at st'
    cases st'
    exact hS') fun j e => q.mb e
theorem beginH_no {H : Heap} {M N : Nat → Prop} {p : Nat} {s : V} {h : HistC} (q : HistD H M N p s h) (ho : h.opened = true) :
    SCalls PP 22 [.ptr p 0] H fun r H' => H' = H ∧ r = .int .i64 9 := by
  refine SCalls.go c22 (by simp [fn22]) fun hw => ?_
  simp (maxSteps := 1000000) (implicitDefEqProofs := false) only [stp, if_true, if_false, Int.reduceEq, Int.reduceLT, Int.reduceLE, Int.reduceGT, Int.reduceGE, reduceCtorEq, Nat.reduceEqDiff, List.getElem?_cons_zero, List.getElem?_cons_succ, Option.map_some, fn22, enterFr, List.length, List.range, List.range.loop, List.zip, List.zipWith]
  refine SCalls.mono (readyH q.toI) ?_
  rintro r0 G0 ⟨rfl, rfl⟩
  have lo := q.lo
  rw [ho] at lo
  simp (maxSteps := 1000000) (implicitDefEqProofs := false) only [stp, if_true, if_false, Int.reduceEq, Int.reduceLT, Int.reduceLE, Int.reduceGT, Int.reduceGE, reduceCtorEq, Nat.reduceEqDiff, List.getElem?_cons_zero, List.getElem?_cons_succ, Option.map_some, Bool.not_true, Bool.false_eq_true, lo]
  exact ⟨by trivial, by trivial⟩
theorem beginH_ok {H : Heap} {M N : Nat → Prop} {p : Nat} {s : V} {h : HistC} (q : HistD H M N p s h) (ho : h.opened = false) :
    SCalls PP 22 [.ptr p 0] H fun r H' => WF H' ∧ r = .int .i64 0 ∧ HistS H M N p s H' { h with opened := true, own := [] } := by
  refine SCalls.go c22 (by simp [fn22]) fun hw => ?_
  simp (maxSteps := 1000000) (implicitDefEqProofs := false) only [stp, if_true, if_false, Int.reduceEq, Int.reduceLT, Int.reduceLE, Int.reduceGT, Int.reduceGE, reduceCtorEq, Nat.reduceEqDiff, List.getElem?_cons_zero, List.getElem?_cons_succ, Option.map_some, fn22, enterFr, List.length, List.range, List.range.loop, List.zip, List.zipWith]
  refine SCalls.mono (readyH q.toI) ?_
  rintro r0 G0 ⟨rfl, rfl⟩
  have lo := q.lo
  rw [ho] at lo
  obtain ⟨H1, H', s1, s2, hw', hS⟩ := q.setOpen hw true
  simp (maxSteps := 1000000) (implicitDefEqProofs := false) only [stp, if_true, if_false, Int.reduceEq, Int.reduceLT, Int.reduceLE, Int.reduceGT, Int.reduceGE, reduceCtorEq, Nat.reduceEqDiff, List.getElem?_cons_zero, List.getElem?_cons_succ, Option.map_some, Bool.not_true, Bool.false_eq_true, lo, s1, s2]
  exact ⟨hw', by trivial, hS⟩
theorem newH_no {H : Heap} {s : V} {mx : Int} (hm : mx < 0 ∨ mx > 65536) : SCalls PP 10 [s, .int .i64 mx] H fun r H' => H' = H ∧ r = .tup [.nilp, .int .i64 2] := by
  refine SCalls.go c10 (by simp [fn10]) fun hw => ?_
  by_cases h1 : mx < 0
  · simp (maxSteps := 1000000) (implicitDefEqProofs := false) only [stp, if_true, if_false, Int.reduceEq, Int.reduceLT, Int.reduceLE, Int.reduceGT, Int.reduceGE, reduceCtorEq, Nat.reduceEqDiff, List.getElem?_cons_zero, List.getElem?_cons_succ, Option.map_some, fn10, enterFr, List.length, List.range, List.range.loop, List.zip, List.zipWith, h1, Bool.false_eq_true]
    exact ⟨by trivial, by trivial⟩
  have h2 := hm.resolve_left h1
  simp (maxSteps := 1000000) (implicitDefEqProofs := false) only [stp, if_true, if_false, Int.reduceEq, Int.reduceLT, Int.reduceLE, Int.reduceGT, Int.reduceGE, reduceCtorEq, Nat.reduceEqDiff, List.getElem?_cons_zero, List.getElem?_cons_succ, Option.map_some, fn10, enterFr, List.length, List.range, List.range.loop, List.zip, List.zipWith, h1, h2, Bool.false_eq_true]
  exact ⟨by trivial, by trivial⟩
theorem newH_ok {H : Heap} {s : V} (hs : s.cells = [s] ∧ s.one = true) {mx : Int} (h0 : 0 ≤ mx) (h0' : mx ≤ 65536) : SCalls PP 10 [s, .int .i64 mx] H fun r H' => WF H' ∧ Ext H H' ∧
    r = .tup [.ptr H.next 0, .int .i64 0] ∧ ∀ M N : Nat → Prop, (∀ j, M j → j < H.next) → (∀ j, N j → M j) → HistD H' (fun j => M j ∨ j = H.next) N H.next s ⟨mx, [], [], false, []⟩ := by
  refine SCalls.go c10 (by simp [fn10]) fun hw => ?_
  have h1 : ¬ mx < 0 := by omega
  have h2 : ¬ mx > 65536 := by omega
  have hb : ∀ G, exec (.build [.nilp, .int .i64 0, .bool false, .nils, .nils, .bool false, .nils] [(0, 1), (1, 1), (2, 1)]) [s, .int .i64 mx, .bool true] G = some (.agg [s, .int .i64 mx, .bool true, .nils, .nils, .bool false, .nils], G) := fun G => by
    have hf : fillA [V.nilp, .int .i64 0, .bool false, .nils, .nils, .bool false, .nils] [((0, 1), s), ((1, 1), .int .i64 mx), ((2, 1), .bool true)] = some [s, .int .i64 mx, .bool true, .nils, .nils, .bool false, .nils] := by
      simp only [fillA, hs.1]
      rfl
    simp only [exec, List.length_cons, List.length_nil, if_true, List.zip_cons_cons, List.zip_nil_right, hf, Option.map_some, Option.bind_some]
  have hone : ([s, .int .i64 mx, .bool true, .nils, .nils, .bool false, .nils] : List V).all V.one = true := by
    simp only [List.all_cons, List.all_nil, Bool.and_true, hs.2]
    rfl
  obtain ⟨H2, hx2, hw2, ha2, hb2⟩ := x_boxed (Ext.refl H) hw (e := [s, .int .i64 mx, .bool true, .nils, .nils, .bool false, .nils]) hone
  have hget : H2.get H.next = some (.row false 7 [s, .int .i64 mx, .bool true, .nils, .nils, .bool false, .nils]) ∧ H2.next = H.next + 1 := by
    have := x_box H (.agg [s, .int .i64 mx, .bool true, .nils, .nils, .bool false, .nils]) hone
    rw [this] at hb2
    cases hb2
    exact ⟨new_get _ _, rfl⟩
  simp (maxSteps := 1000000) (implicitDefEqProofs := false) only [stp, if_true, if_false, Int.reduceEq, Int.reduceLT, Int.reduceLE, Int.reduceGT, Int.reduceGE, reduceCtorEq, Nat.reduceEqDiff, List.getElem?_cons_zero, List.getElem?_cons_succ, Option.map_some, fn10, enterFr, List.length, List.range, List.range.loop, List.zip, List.zipWith, h1, h2, hb, hb2, Bool.false_eq_true]
  refine ⟨hw2, hx2, by trivial, fun M N hM hN => ⟨.nils, .nils, .nils, [], [], [], none, none, none, ⟨by omega, .inr rfl, fun j e => ?_, hget.1, StZ.nil _ _, StZ.nil _ _, StZ.nil _ _, by simp, by simp, by simp⟩, fun j e => ⟨.inl (hN j e), ?_, by simp, by simp, by simp⟩⟩⟩
  · rcases e with e | e
    · have := hM j e; omega
    · omega
  · have := hM j (hN j e); omega
/-- The delete that in tells. -/
abbrev delCells (n : Int) : List V := [.int .u8 3, .int .i64 n, .nils, .nils, .nils]
theorem del_ops {G : Heap} {id : Nat} {n : Int} (hl : id < G.next) (hg : G.get id = some (.row false 5 (delCells n))) (h1 : -9223372036854775808 ≤ n) (h2 : n ≤ 9223372036854775807) : OpsIn G (.slice id 0 1 (some 1)) [⟨3, n, .nils, .nils, .nils, [], [], []⟩] := by
  have ow : Own G id 5 [delCells n] := ⟨hl, by simpa using hg, fun e he => by simp only [List.mem_cons, List.not_mem_nil, or_false] at he; subst he; exact ⟨rfl, rfl⟩⟩
  have nl : ∀ sz, SL G .nils sz [] := fun sz => ⟨by simp, .inl ⟨rfl, rfl⟩⟩
  refine ⟨ow.sl (some 1), fun o ho => ?_, by simp [big]⟩
  simp only [List.mem_cons, List.not_mem_nil, or_false] at ho
  subst ho
  exact ⟨nl 1, nl 5, nl 6, by simp [big], by simp [big], by simp [big], by simp, by simp, h1, h2⟩
/-- An insert of one rune, and what takes it away. -/
theorem in_calls (c : Int) (H : Heap) : SCalls PP 12 [.int .i32 c] H fun r H' => WF H' ∧ Ext H H' ∧ ∃ x id o, r = .tup [x, .slice id 0 1 (some 1)] ∧ H.next ≤ id ∧ id < H'.next ∧ H'.get id = some (.row false 5 (delCells 1)) ∧ o.con = ⟨2, 0, [c], [], []⟩ ∧
    ∀ G, ExtM (fun j => j = id ∨ j < H.next) H' G → OpsIn G x [o] := by
  refine SCalls.go c12 (by simp [fn12]) fun hw => ?_
  have e1 : exec (.bsl 1 1 [.int .i32 0] [(0, 1)]) [.int .i32 c] H = some (.slice H.next 0 1 (some 1), H.new (.row false 1 [.int .i32 c])) := rfl
  have hx1 : Ext H (H.new (.row false 1 [.int .i32 c])) := (Ext.refl H).new _
  have hw1 : WF (H.new (.row false 1 [.int .i32 c])) := hw.new _
  have g1 := new_get H (.row false 1 [.int .i32 c])
  have n1 : (H.new (.row false 1 [.int .i32 c])).next = H.next + 1 := rfl
  generalize H.new (.row false 1 [.int .i32 c]) = H1 at *
  have b1 : ∀ G, exec (.build [.int .u8 0, .int .i64 0, .nils, .nils, .nils] [(0, 1), (2, 1)]) [.int .u8 2, .slice H.next 0 1 (some 1)] G = some (.agg [.int .u8 2, .int .i64 0, .slice H.next 0 1 (some 1), .nils, .nils], G) := fun _ => rfl
  have b2 : ∀ G, exec (.build [.int .u8 0, .int .i64 0, .nils, .nils, .nils] [(0, 1), (1, 1)]) [.int .u8 3, .int .i64 1] G = some (.agg (delCells 1), G) := fun _ => rfl
  have e2 : exec (.bsl 5 1 [.int .u8 0, .int .i64 0, .nils, .nils, .nils] [(0, 5)]) [.agg [.int .u8 2, .int .i64 0, .slice H.next 0 1 (some 1), .nils, .nils]] H1 = some (.slice H1.next 0 1 (some 1), H1.new (.row false 5 [.int .u8 2, .int .i64 0, .slice H.next 0 1 (some 1), .nils, .nils])) := rfl
  have hx2 : Ext H1 (H1.new (.row false 5 [.int .u8 2, .int .i64 0, .slice H.next 0 1 (some 1), .nils, .nils])) := (Ext.refl H1).new _
  have hw2 : WF (H1.new (.row false 5 [.int .u8 2, .int .i64 0, .slice H.next 0 1 (some 1), .nils, .nils])) := hw1.new _
  have g2 := new_get H1 (.row false 5 [.int .u8 2, .int .i64 0, .slice H.next 0 1 (some 1), .nils, .nils])
  have n2 : (H1.new (.row false 5 [.int .u8 2, .int .i64 0, .slice H.next 0 1 (some 1), .nils, .nils])).next = H1.next + 1 := rfl
  generalize H1.new (.row false 5 [.int .u8 2, .int .i64 0, .slice H.next 0 1 (some 1), .nils, .nils]) = H2 at *
  have e3 : exec (.bsl 5 1 [.int .u8 0, .int .i64 0, .nils, .nils, .nils] [(0, 5)]) [.agg (delCells 1)] H2 = some (.slice H2.next 0 1 (some 1), H2.new (.row false 5 (delCells 1))) := rfl
  have hx3 : Ext H2 (H2.new (.row false 5 (delCells 1))) := (Ext.refl H2).new _
  have hw3 : WF (H2.new (.row false 5 (delCells 1))) := hw2.new _
  have g3 := new_get H2 (.row false 5 (delCells 1))
  have n3 : (H2.new (.row false 5 (delCells 1))).next = H2.next + 1 := rfl
  generalize H2.new (.row false 5 (delCells 1)) = H3 at *
  simp (maxSteps := 1000000) (implicitDefEqProofs := false) only [stp, if_true, if_false, Int.reduceEq, Int.reduceLT, Int.reduceLE, Int.reduceGT, Int.reduceGE, reduceCtorEq, Nat.reduceEqDiff, List.getElem?_cons_zero, List.getElem?_cons_succ, Option.map_some, fn12, enterFr, List.length, List.range, List.range.loop, List.zip, List.zipWith, e1, b1, e2, b2, e3]
  refine ⟨hw3, hx1.trans (hx2.trans hx3), _, H2.next, ⟨2, 0, .slice H.next 0 1 (some 1), .nils, .nils, [c], [], []⟩, by trivial, by omega, by omega, g3, rfl, fun G hG => ?_⟩
  have nl : ∀ sz, SL G .nils sz [] := fun sz => ⟨by simp, .inl ⟨rfl, rfl⟩⟩
  have hGn := hG.next
  have r1 : Own G H.next 1 [[V.int .i32 c]] := ⟨by omega, by rw [hG.get _ (by omega) (by omega), hx3.get _ (by omega), hx2.get _ (by omega)]; simpa using g1, fun e he => by simp only [List.mem_cons, List.not_mem_nil, or_false] at he; subst he; exact ⟨rfl, rfl⟩⟩
  have r2 : Own G H1.next 5 [[.int .u8 2, .int .i64 0, .slice H.next 0 1 (some 1), .nils, .nils]] := ⟨by omega, by rw [hG.get _ (by omega) (by omega), hx3.get _ (by omega)]; simpa using g2, fun e he => by simp only [List.mem_cons, List.not_mem_nil, or_false] at he; subst he; exact ⟨rfl, rfl⟩⟩
  refine ⟨r2.sl (some 1), fun o ho => ?_, by simp [big]⟩
  simp only [List.mem_cons, List.not_mem_nil, or_false] at ho
  subst ho
  exact ⟨r1.sl (some 1), nl 5, nl 6, by simp [big], by simp [big], by simp [big], by simp, by simp, by simp, by simp⟩
end Go.Proofs.YtkmaikggdbielaaGreatDoor.Fw

/- The document's Same of two deltas. No condition. -/
namespace Go.Proofs.YtkmaikggdbielaaGreatDoor.Fw
open Go
set_option linter.unusedSimpArgs false
set_option linter.unusedVariables false

def refEqFn (sz : Nat) (ld cmp : AK) : AFn := ⟨26,
 (.seq
  (.region [⟨some 4, none, .ex (.mov) [.k (.bool false)]⟩])
  (.seq
   (.seq
    (.region [⟨some 6, none, .ex (.mov) [.s 0]⟩,
      ⟨some 7, none, .ex (.len) [.s 6]⟩,
      ⟨some 8, none, .ex (.mov) [.s 1]⟩,
      ⟨some 9, none, .ex (.len) [.s 8]⟩,
      ⟨some 10, none, .ex (.ibin .neq) [.s 7, .s 9]⟩])
    (.cond (.s 10)
     (.seq
      (.region [⟨some 4, none, .ex (.mov) [.k (.bool false)]⟩])
      .ret)
     .skip))
   (.seq
    (.seq
     (.region [⟨some 5, none, .ex (.mov) [.k (.int .i64 0)]⟩])
     (.block 0
      (.loop
       (.seq
        (.seq
         (.region [⟨some 11, none, .ex (.mov) [.s 5]⟩,
           ⟨some 12, none, .ex (.mov) [.s 0]⟩,
           ⟨some 13, none, .ex (.len) [.s 12]⟩,
           ⟨some 14, none, .ex (.ibin .lss) [.s 11, .s 13]⟩])
         (.cond (.s 14)
          .skip
          (.exit 0)))
        (.seq
         (.block 1
          (.seq
           (.draw (.op ⟨some 17, none, .ex (.mov) [.s 0]⟩ (.op ⟨some 18, none, .ex (.mov) [.s 5]⟩ (.op ⟨some 19, none, .ex (.ia sz) [.s 17, .s 18]⟩ (.op ⟨some 20, none, .ex ld [.s 19]⟩ (.op ⟨some 21, none, .ex (.mov) [.s 1]⟩ (.op ⟨some 22, none, .ex (.mov) [.s 5]⟩ (.op ⟨some 23, none, .ex (.ia sz) [.s 21, .s 22]⟩ (.op ⟨some 24, none, .ex ld [.s 23]⟩ (.op ⟨some 25, none, .ex cmp [.s 20, .s 24]⟩ .done))))))))))
           (.cond (.s 25)
            (.seq
             (.region [⟨some 4, none, .ex (.mov) [.k (.bool false)]⟩])
             .ret)
            .skip)))
         (.region [⟨some 15, none, .ex (.mov) [.s 5]⟩,
           ⟨some 16, none, .ex (.ibin .add) [.s 15, .k (.int .i64 1)]⟩,
           ⟨some 5, none, .ex (.mov) [.s 16]⟩]))))))
    (.seq
     (.region [⟨some 4, none, .ex (.mov) [.k (.bool true)]⟩])
     .ret)))),
 [.t 4]⟩
set_option maxRecDepth 20000 in
set_option maxHeartbeats 2000000 in
theorem refEq_gen {f : FuncId} {sz : Nat} {ld cmp : AK} {α : Type} {enc : α → List V} {ldv : α → V} {eq : α → α → Bool} (hc : compFn PP f = some (refEqFn sz ld cmp))
    (hld : ∀ a H id o, At H id o (enc a) → exec ld [.ptr id o] H = some (ldv a, H)) {x y : V} {H : Heap} {us bs : List α} (hcmp : ∀ a ∈ us, ∀ b ∈ bs, ∀ H, exec cmp [ldv a, ldv b] H = some (.bool (!eq a b), H))
    (hx : SL H x sz (us.map enc)) (hy : SL H y sz (bs.map enc)) (hl : us.length ≤ big) : SCalls PP f [x, y] H fun r H' => H' = H ∧ r = .bool (listEq eq us bs) := by
  refine SCalls.go hc (by simp [refEqFn]) fun hw => ?_
  unfold big at hl
  have hlx : ∀ G, exec .len [x] G = some (.int .i64 us.length, G) := fun G => by have := hx.len (H' := G); rwa [List.length_map] at this
  have hly : ∀ G, exec .len [y] G = some (.int .i64 bs.length, G) := fun G => by have := hy.len (H' := G); rwa [List.length_map] at this
  by_cases hne : (us.length : Int) = bs.length
  rotate_left
  · simp (maxSteps := 1000000) (implicitDefEqProofs := false) only [stp, if_true, if_false, Int.reduceEq, Int.reduceLT, Int.reduceLE, Int.reduceGT, Int.reduceGE, reduceCtorEq, Nat.reduceEqDiff, List.getElem?_cons_zero, List.getElem?_cons_succ, Option.map_some, refEqFn, enterFr, List.length, List.range, List.range.loop, List.zip, List.zipWith, hlx, hly, hne]
    exact ⟨by trivial, by rw [listEq_len (by omega)]⟩
  have hne' : us.length = bs.length := by omega
  simp (maxSteps := 1000000) (implicitDefEqProofs := false) only [stp, if_true, if_false, Int.reduceEq, Int.reduceLT, Int.reduceLE, Int.reduceGT, Int.reduceGE, reduceCtorEq, Nat.reduceEqDiff, List.getElem?_cons_zero, List.getElem?_cons_succ, Option.map_some, refEqFn, enterFr, List.length, List.range, List.range.loop, List.zip, List.zipWith, hlx, hly, hne]
  refine wp_loopI (fun m fr G => ∃ k : Nat, m = us.length - k ∧ k ≤ us.length ∧ G = H ∧ listEq eq (us.drop k) (bs.drop k) = listEq eq us bs ∧ FrSub [(5, .int .i64 k), (0, x), (1, y)] fr) us.length ⟨0, rfl, Nat.zero_le _, rfl, rfl, .cons rfl (.cons rfl (.cons rfl .nil))⟩ ?_
  rintro m fr G ⟨k, rfl, hk, rfl, hacc, hsub⟩
  refine ⟨_, hsub, ?_⟩
  by_cases hlt : (k : Int) < us.length
  · have hk1 : k < us.length := by omega
    have hk2 : k < bs.length := by omega
    obtain ⟨i1, o1, ha1, ht1⟩ := hx.ia (H' := G) (i := k) (e := enc us[k]) (by rw [List.getElem?_map, List.getElem?_eq_getElem hk1]; rfl) .i64
    obtain ⟨i2, o2, ha2, ht2⟩ := hy.ia (H' := G) (i := k) (e := enc bs[k]) (by rw [List.getElem?_map, List.getElem?_eq_getElem hk2]; rfl) .i64
    rw [List.drop_eq_getElem_cons hk1, List.drop_eq_getElem_cons hk2] at hacc
    simp only [listEq] at hacc
    have hcm := hcmp us[k] (List.getElem_mem hk1) bs[k] (List.getElem_mem hk2) G
    have hw1 : IntKind.i64.wrap ((k : Int) + 1) = ((k + 1 : Nat) : Int) := by rw [wrap_i64 (by omega) (by omega)]; omega
    cases he : eq us[k] bs[k] with
    | true =>
      rw [he] at hacc hcm
      simp (maxSteps := 1000000) (implicitDefEqProofs := false) only [stp, if_true, if_false, Int.reduceEq, Int.reduceLT, Int.reduceLE, Int.reduceGT, Int.reduceGE, reduceCtorEq, Nat.reduceEqDiff, List.getElem?_cons_zero, List.getElem?_cons_succ, Option.map_some, hlx, ← hne, hlt, ha1, ha2, hld _ _ _ _ ht1, hld _ _ _ _ ht2, hcm, hw1]
      exact ⟨us.length - (k + 1), by omega, k + 1, rfl, by omega, by trivial, by simpa using hacc, .cons rfl (.cons rfl (.cons rfl .nil))⟩
    | false =>
      rw [he] at hacc hcm
      simp (maxSteps := 1000000) (implicitDefEqProofs := false) only [stp, if_true, if_false, Int.reduceEq, Int.reduceLT, Int.reduceLE, Int.reduceGT, Int.reduceGE, reduceCtorEq, Nat.reduceEqDiff, List.getElem?_cons_zero, List.getElem?_cons_succ, Option.map_some, hlx, ← hne, hlt, ha1, ha2, hld _ _ _ _ ht1, hld _ _ _ _ ht2, hcm]
      exact ⟨by trivial, by rw [← hacc]; rfl⟩
  · obtain rfl : k = us.length := by omega
    simp (maxSteps := 1000000) (implicitDefEqProofs := false) only [stp, if_true, if_false, Int.reduceEq, Int.reduceLT, Int.reduceLE, Int.reduceGT, Int.reduceGE, reduceCtorEq, Nat.reduceEqDiff, List.getElem?_cons_zero, List.getElem?_cons_succ, Option.map_some, hlx, ← hne, hlt]
    rw [List.drop_length, List.drop_of_length_le (by omega)] at hacc
    exact ⟨by trivial, by rw [← hacc]; rfl⟩
theorem refSameR {x y : V} {H : Heap} {us bs : List Int} (hx : SL H x 1 (us.map fun r => [V.int .i32 r])) (hy : SL H y 1 (bs.map fun r => [V.int .i32 r])) (hl : us.length ≤ big) :
    SCalls PP 41 [x, y] H fun r H' => H' = H ∧ r = .bool (listEq runeEq us bs) :=
  refEq_gen (enc := fun r => [V.int .i32 r]) (ldv := fun r => .int .i32 r) (eq := runeEq) (show compFn PP 41 = some (refEqFn 1 (.ld 1) (.ibin .neq)) from c41)
    (fun a H id o h => by have := h.ld (j := 0) (v := .int .i32 a) rfl 1; rwa [Nat.add_zero] at this) (fun a _ b _ H => by rw [x_neq]; rfl) hx hy hl
theorem refSameA {x y : V} {H : Heap} {us bs : List AttrA} (hx : SL H x 5 (us.map AttrA.cells)) (hy : SL H y 5 (bs.map AttrA.cells)) (hl : us.length ≤ big) :
    SCalls PP 42 [x, y] H fun r H' => H' = H ∧ r = .bool (listEq attrEq us bs) :=
  refEq_gen (enc := AttrA.cells) (ldv := fun a => .agg a.cells) (eq := attrEq) (show compFn PP 42 = some (refEqFn 5 (.lda 5) (.eqagg true [0, 0, 0, 0, 2])) from c42)
    (fun a H id o h => h.lda (n := 5) rfl) (fun a _ b _ H => x_eqattr a b H) hx hy hl
theorem refSameC {x y : V} {H : Heap} {us bs : List ChgA} (hx : SL H x 6 (us.map ChgA.cells)) (hy : SL H y 6 (bs.map ChgA.cells)) (hl : us.length ≤ big) :
    SCalls PP 43 [x, y] H fun r H' => H' = H ∧ r = .bool (listEq chgEq us bs) :=
  refEq_gen (enc := ChgA.cells) (ldv := fun a => .agg a.cells) (eq := chgEq) (show compFn PP 43 = some (refEqFn 6 (.lda 6) (.eqagg true [0, 1, 0, 0, 0, 2])) from c43)
    (fun a H id o h => h.lda (n := 6) rfl) (fun a _ b _ H => x_eqchg a b H) hx hy hl
end Go.Proofs.YtkmaikggdbielaaGreatDoor.Fw

/- The document's Same of two deltas: the whole. No condition. -/
namespace Go.Proofs.YtkmaikggdbielaaGreatDoor.Fw
open Go
set_option linter.unusedSimpArgs false
set_option linter.unusedVariables false

/-- Two copies of elements, made in either order. -/
theorem x_two {H : Heap} (hw : WF H) {e e' : List V} (hn : e.length = 5) (hn' : e'.length = 5) (ho : e.all V.one = true) (ho' : e'.all V.one = true) :
    ∃ H1 H2, exec (.alloc zo) [] H = some (.ptr H.next 0, H1) ∧ exec (.alloc zo) [] H1 = some (.ptr (H.next + 1) 0, H2) ∧ Ext H H1 ∧ Ext H H2 ∧ ∀ (a b : Nat) (hab : (a = H.next ∧ b = H.next + 1) ∨ (b = H.next ∧ a = H.next + 1)), ∃ H3 H4, exec (.st 5) [.ptr a 0, .agg e] H2 = some (.undef, H3) ∧ exec (.st 5) [.ptr b 0, .agg e'] H3 = some (.undef, H4) ∧
      Ext H H3 ∧ Ext H H4 ∧ WF H4 ∧ At H4 a 0 e ∧ At H4 b 0 e' := by
  have x1 : Ext H (H.new (.row false 5 zo)) := (Ext.refl H).new _
  have w1 : WF (H.new (.row false 5 zo)) := hw.new _
  have a1 : exec (.alloc zo) [] H = some (.ptr H.next 0, H.new (.row false 5 zo)) := x_alloc H zo rfl
  have g1 := new_get H (.row false 5 zo)
  have n1 : (H.new (.row false 5 zo)).next = H.next + 1 := rfl
  generalize H.new (.row false 5 zo) = H1 at *
  have x2 : Ext H1 (H1.new (.row false 5 zo)) := (Ext.refl H1).new _
  have w2 : WF (H1.new (.row false 5 zo)) := w1.new _
  have a2 : exec (.alloc zo) [] H1 = some (.ptr H1.next 0, H1.new (.row false 5 zo)) := x_alloc H1 zo rfl
  have g2 := new_get H1 (.row false 5 zo)
  have n2 : (H1.new (.row false 5 zo)).next = H1.next + 1 := rfl
  generalize H1.new (.row false 5 zo) = H2 at *
  have x02 := x1.trans x2
  refine ⟨H1, H2, a1, by rw [a2, n1], x1, x02, fun a b hab => ?_⟩
  have ga : H2.get a = some (.row false 5 zo) := by
    rcases hab with ⟨e, _⟩ | ⟨_, e⟩
    · rw [e, x2.get _ (by omega)]; exact g1
    · rw [e, ← n1]; exact g2
  have gb : H2.get b = some (.row false 5 zo) := by
    rcases hab with ⟨_, e⟩ | ⟨e, _⟩
    · rw [e, ← n1]; exact g2
    · rw [e, x2.get _ (by omega)]; exact g1
  have hne : a ≠ b := by omega
  have s1 := x_st (n := 5) (v := .agg e) ga hn rfl ho
  have s2 := x_st (H := H2.set a (.row false 5 e)) (id := b) (esz := 5) (cells := zo) (n := 5) (v := .agg e') (by rw [Heap.set_get, if_neg (Ne.symm hne)]; exact gb) hn' rfl ho'
  have x3 : Ext H (H2.set a (.row false 5 e)) := x02.set (by omega) _
  have x4 : Ext H ((H2.set a (.row false 5 e)).set b (.row false 5 e')) := x3.set (by omega) _
  refine ⟨_, _, s1, s2, x3, x4, (w2.set ga _).set (by rw [Heap.set_get, if_neg (Ne.symm hne)]; exact gb) _, ?_, ?_⟩
  · exact ⟨by simp only [Heap.set_next]; omega, false, 5, e, by rw [Heap.set_get, if_neg hne, set_get'], by omega, fun j v hj => by rw [Nat.zero_add]; exact hj⟩
  · exact ⟨by simp only [Heap.set_next]; omega, false, 5, e', set_get' _ _ _, by omega, fun j v hj => by rw [Nat.zero_add]; exact hj⟩

def sameRest : ACode :=
 (.seq
  (.region [⟨some 27, none, .ex (.fa 0) [.s 6]⟩,
    ⟨some 28, none, .ex (.ld 1) [.s 27]⟩,
    ⟨some 29, none, .ex (.fa 0) [.s 7]⟩,
    ⟨some 30, none, .ex (.ld 1) [.s 29]⟩,
    ⟨some 31, none, .ex (.ibin .neq) [.s 28, .s 30]⟩,
    ⟨some 32, none, .ex (.mov) [.s 31]⟩,
    ⟨some 33, some (32, false), .ex (.fa 1) [.s 6]⟩,
    ⟨some 34, some (32, false), .ex (.ld 1) [.s 33]⟩,
    ⟨some 35, some (32, false), .ex (.fa 1) [.s 7]⟩,
    ⟨some 36, some (32, false), .ex (.ld 1) [.s 35]⟩,
    ⟨some 37, some (32, false), .ex (.ibin .neq) [.s 34, .s 36]⟩,
    ⟨some 38, none, .ex (.pick) [.s 32, .k (.bool true), .s 37]⟩,
    ⟨some 39, none, .ex (.mov) [.s 38]⟩,
    ⟨some 40, some (39, false), .ex (.fa 2) [.s 6]⟩,
    ⟨some 41, some (39, false), .ex (.ld 1) [.s 40]⟩,
    ⟨some 42, some (39, false), .ex (.fa 2) [.s 7]⟩,
    ⟨some 43, some (39, false), .ex (.ld 1) [.s 42]⟩,
    ⟨some 44, some (39, false), .callf 41 [.s 41, .s 43]⟩,
    ⟨some 45, some (39, false), .ex (.bnot) [.s 44]⟩,
    ⟨some 46, none, .ex (.pick) [.s 39, .k (.bool true), .s 45]⟩,
    ⟨some 47, none, .ex (.mov) [.s 46]⟩,
    ⟨some 48, some (47, false), .ex (.fa 3) [.s 6]⟩,
    ⟨some 49, some (47, false), .ex (.ld 1) [.s 48]⟩,
    ⟨some 50, some (47, false), .ex (.fa 3) [.s 7]⟩,
    ⟨some 51, some (47, false), .ex (.ld 1) [.s 50]⟩,
    ⟨some 52, some (47, false), .callf 42 [.s 49, .s 51]⟩,
    ⟨some 53, some (47, false), .ex (.bnot) [.s 52]⟩,
    ⟨some 54, none, .ex (.pick) [.s 47, .k (.bool true), .s 53]⟩,
    ⟨some 55, none, .ex (.mov) [.s 54]⟩,
    ⟨some 56, some (55, false), .ex (.fa 4) [.s 6]⟩,
    ⟨some 57, some (55, false), .ex (.ld 1) [.s 56]⟩,
    ⟨some 58, some (55, false), .ex (.fa 4) [.s 7]⟩,
    ⟨some 59, some (55, false), .ex (.ld 1) [.s 58]⟩,
    ⟨some 60, some (55, false), .callf 43 [.s 57, .s 59]⟩,
    ⟨some 61, some (55, false), .ex (.bnot) [.s 60]⟩,
    ⟨some 62, none, .ex (.pick) [.s 55, .k (.bool true), .s 61]⟩])
  (.cond (.s 62)
   (.seq
    (.region [⟨some 4, none, .ex (.mov) [.k (.bool false)]⟩])
    .ret)
   .skip))
def fn17' : AFn := ⟨63,
 (.seq
  (.region [⟨some 4, none, .ex (.mov) [.k (.bool false)]⟩])
  (.seq
   (.seq
    (.region [⟨some 8, none, .ex (.mov) [.s 0]⟩,
      ⟨some 9, none, .ex (.len) [.s 8]⟩,
      ⟨some 10, none, .ex (.mov) [.s 1]⟩,
      ⟨some 11, none, .ex (.len) [.s 10]⟩,
      ⟨some 12, none, .ex (.ibin .neq) [.s 9, .s 11]⟩])
    (.cond (.s 12)
     (.seq
      (.region [⟨some 4, none, .ex (.mov) [.k (.bool false)]⟩])
      .ret)
     .skip))
   (.seq
    (.seq
     (.region [⟨some 5, none, .ex (.mov) [.k (.int .i64 0)]⟩])
     (.block 0
      (.loop
       (.seq
        (.seq
         (.region [⟨some 13, none, .ex (.mov) [.s 5]⟩,
           ⟨some 14, none, .ex (.mov) [.s 0]⟩,
           ⟨some 15, none, .ex (.len) [.s 14]⟩,
           ⟨some 16, none, .ex (.ibin .lss) [.s 13, .s 15]⟩])
         (.cond (.s 16)
          .skip
          (.exit 0)))
        (.seq
         (.block 1
          (.seq
           (.draw (.op ⟨some 19, none, .ex (.mov) [.s 0]⟩ (.op ⟨some 20, none, .ex (.mov) [.s 5]⟩ (.op ⟨some 21, none, .ex (.ia 5) [.s 19, .s 20]⟩ (.op ⟨some 22, none, .ex (.lda 5) [.s 21]⟩ (.op ⟨some 23, none, .ex (.mov) [.s 1]⟩ (.op ⟨some 24, none, .ex (.mov) [.s 5]⟩ (.op ⟨some 25, none, .ex (.ia 5) [.s 23, .s 24]⟩ (.fork (.op ⟨some 26, none, .ex (.lda 5) [.s 25]⟩ (.fork (.op ⟨some 6, none, .ex (.alloc [(.int .u8 0), (.int .i64 0), .nils, .nils, .nils]) []⟩ (.op ⟨some 7, none, .ex (.alloc [(.int .u8 0), (.int .i64 0), .nils, .nils, .nils]) []⟩ (.op ⟨none, none, .ex (.st 5) [.s 6, .s 22]⟩ (.op ⟨none, none, .ex (.st 5) [.s 7, .s 26]⟩ .done)))) (.op ⟨some 7, none, .ex (.alloc [(.int .u8 0), (.int .i64 0), .nils, .nils, .nils]) []⟩ (.op ⟨some 6, none, .ex (.alloc [(.int .u8 0), (.int .i64 0), .nils, .nils, .nils]) []⟩ (.op ⟨none, none, .ex (.st 5) [.s 6, .s 22]⟩ (.op ⟨none, none, .ex (.st 5) [.s 7, .s 26]⟩ .done)))))) (.fork (.op ⟨some 6, none, .ex (.alloc [(.int .u8 0), (.int .i64 0), .nils, .nils, .nils]) []⟩ (.fork (.op ⟨some 26, none, .ex (.lda 5) [.s 25]⟩ (.op ⟨some 7, none, .ex (.alloc [(.int .u8 0), (.int .i64 0), .nils, .nils, .nils]) []⟩ (.op ⟨none, none, .ex (.st 5) [.s 6, .s 22]⟩ (.op ⟨none, none, .ex (.st 5) [.s 7, .s 26]⟩ .done)))) (.op ⟨some 7, none, .ex (.alloc [(.int .u8 0), (.int .i64 0), .nils, .nils, .nils]) []⟩ (.fork (.op ⟨some 26, none, .ex (.lda 5) [.s 25]⟩ (.op ⟨none, none, .ex (.st 5) [.s 6, .s 22]⟩ (.op ⟨none, none, .ex (.st 5) [.s 7, .s 26]⟩ .done))) (.op ⟨none, none, .ex (.st 5) [.s 6, .s 22]⟩ (.op ⟨some 26, none, .ex (.lda 5) [.s 25]⟩ (.op ⟨none, none, .ex (.st 5) [.s 7, .s 26]⟩ .done))))))) (.op ⟨some 7, none, .ex (.alloc [(.int .u8 0), (.int .i64 0), .nils, .nils, .nils]) []⟩ (.fork (.op ⟨some 26, none, .ex (.lda 5) [.s 25]⟩ (.op ⟨some 6, none, .ex (.alloc [(.int .u8 0), (.int .i64 0), .nils, .nils, .nils]) []⟩ (.op ⟨none, none, .ex (.st 5) [.s 6, .s 22]⟩ (.op ⟨none, none, .ex (.st 5) [.s 7, .s 26]⟩ .done)))) (.op ⟨some 6, none, .ex (.alloc [(.int .u8 0), (.int .i64 0), .nils, .nils, .nils]) []⟩ (.fork (.op ⟨some 26, none, .ex (.lda 5) [.s 25]⟩ (.op ⟨none, none, .ex (.st 5) [.s 6, .s 22]⟩ (.op ⟨none, none, .ex (.st 5) [.s 7, .s 26]⟩ .done))) (.op ⟨none, none, .ex (.st 5) [.s 6, .s 22]⟩ (.op ⟨some 26, none, .ex (.lda 5) [.s 25]⟩ (.op ⟨none, none, .ex (.st 5) [.s 7, .s 26]⟩ .done)))))))))))))))))
           sameRest))
         (.region [⟨some 17, none, .ex (.mov) [.s 5]⟩,
           ⟨some 18, none, .ex (.ibin .add) [.s 17, .k (.int .i64 1)]⟩,
           ⟨some 5, none, .ex (.mov) [.s 18]⟩]))))))
    (.seq
     (.region [⟨some 4, none, .ex (.mov) [.k (.bool true)]⟩])
     .ret)))),
 [.t 4]⟩
theorem c17' : compFn Go.Proofs.Tryz.prog 17 = some fn17' := c17
set_option maxRecDepth 20000 in
set_option maxHeartbeats 2000000 in
theorem sameRest_ok {G : Heap} {fr : Fr} {Q : Exit → Fr → Heap → Prop} {o o' : OpA} {a b : Nat} (h6 : fr.get 6 = some (.ptr a 0)) (h7 : fr.get 7 = some (.ptr b 0)) (ha : At G a 0 o.cells) (hb : At G b 0 o'.cells) (ho : o.In G) (ho' : o'.In G)
    (hf : ∀ fr', (∀ t, t ≠ 4 → t < 27 → fr'.get t = fr.get t) → fr'.get 4 = some (.bool false) → opEq o.con o'.con = false → Q .ret fr' G) (ht : ∀ fr', (∀ t, t < 27 → fr'.get t = fr.get t) → opEq o.con o'.con = true → Q .normal fr' G) : wpC (SCalls PP) sameRest fr G Q := by
  have l0 := ha.ld (j := 0) (v := .int .u8 o.kind) rfl 1
  have l1 := ha.ld (j := 1) (v := .int .i64 o.n) rfl 1
  have l2 := ha.ld (j := 2) (v := o.runes) rfl 1
  have l3 := ha.ld (j := 3) (v := o.set) rfl 1
  have l4 := ha.ld (j := 4) (v := o.patch) rfl 1
  have k0 := hb.ld (j := 0) (v := .int .u8 o'.kind) rfl 1
  have k1 := hb.ld (j := 1) (v := .int .i64 o'.n) rfl 1
  have k2 := hb.ld (j := 2) (v := o'.runes) rfl 1
  have k3 := hb.ld (j := 3) (v := o'.set) rfl 1
  have k4 := hb.ld (j := 4) (v := o'.patch) rfl 1
  have get4 : ∀ (s t : Nat) (v : V) (f : Fr), t < 27 → 27 ≤ s → Fr.get ((s, v) :: f) t = f.get t := fun s t v f h1 h2 => by rw [Fr.get, if_neg (by omega)]
  have get5 : ∀ (t : Nat) (v : V) (f : Fr), t ≠ 4 → Fr.get ((4, v) :: f) t = f.get t := fun t v f h1 => by rw [Fr.get, if_neg (Ne.symm h1)]
  by_cases e0 : o.kind = o'.kind
  rotate_left
  · simp (maxSteps := 1000000) (implicitDefEqProofs := false) only [stp, if_true, if_false, Int.reduceEq, Int.reduceLT, Int.reduceLE, Int.reduceGT, Int.reduceGE, reduceCtorEq, Nat.reduceEqDiff, List.getElem?_cons_zero, List.getElem?_cons_succ, Option.map_some, sameRest, h6, h7, l0, k0, e0]
    refine hf _ (fun t h1 h2 => ?_) rfl (by simp [opEq, OpA.con, e0])
    simp only [get5 _ _ _ h1]
    repeat rw [get4 _ _ _ _ h2 (by decide)]
  by_cases e1 : o.n = o'.n
  rotate_left
  · simp (maxSteps := 1000000) (implicitDefEqProofs := false) only [stp, if_true, if_false, Int.reduceEq, Int.reduceLT, Int.reduceLE, Int.reduceGT, Int.reduceGE, reduceCtorEq, Nat.reduceEqDiff, List.getElem?_cons_zero, List.getElem?_cons_succ, Option.map_some, sameRest, h6, h7, l0, k0, e0, l1, k1, e1]
    refine hf _ (fun t h1 h2 => ?_) rfl (by simp [opEq, OpA.con, e0, e1])
    simp only [get5 _ _ _ h1]
    repeat rw [get4 _ _ _ _ h2 (by decide)]
  simp (maxSteps := 1000000) (implicitDefEqProofs := false) only [stp, if_true, if_false, Int.reduceEq, Int.reduceLT, Int.reduceLE, Int.reduceGT, Int.reduceGE, reduceCtorEq, Nat.reduceEqDiff, List.getElem?_cons_zero, List.getElem?_cons_succ, Option.map_some, sameRest, h6, h7, l0, k0, e0, l1, k1, e1, l2, k2]
  refine SCalls.mono (refSameR ho.runes ho'.runes ho.rl) ?_
  rintro r G' ⟨rfl, rfl⟩
  cases e2 : listEq runeEq o.rs o'.rs with
  | false =>
    simp (maxSteps := 1000000) (implicitDefEqProofs := false) only [stp, if_true, if_false, Int.reduceEq, Int.reduceLT, Int.reduceLE, Int.reduceGT, Int.reduceGE, reduceCtorEq, Nat.reduceEqDiff, List.getElem?_cons_zero, List.getElem?_cons_succ, Option.map_some, e2]
    refine hf _ (fun t h1 h2 => ?_) rfl (by simp [opEq, OpA.con, e0, e1, e2])
    simp only [get5 _ _ _ h1]
    repeat rw [get4 _ _ _ _ h2 (by decide)]
  | true =>
    simp (maxSteps := 1000000) (implicitDefEqProofs := false) only [stp, if_true, if_false, Int.reduceEq, Int.reduceLT, Int.reduceLE, Int.reduceGT, Int.reduceGE, reduceCtorEq, Nat.reduceEqDiff, List.getElem?_cons_zero, List.getElem?_cons_succ, Option.map_some, e2, h6, h7, l3, k3]
    refine SCalls.mono (refSameA ho.set ho'.set ho.al) ?_
    rintro r G2 ⟨rfl, rfl⟩
    cases e3 : listEq attrEq o.ats o'.ats with
    | false =>
      simp (maxSteps := 1000000) (implicitDefEqProofs := false) only [stp, if_true, if_false, Int.reduceEq, Int.reduceLT, Int.reduceLE, Int.reduceGT, Int.reduceGE, reduceCtorEq, Nat.reduceEqDiff, List.getElem?_cons_zero, List.getElem?_cons_succ, Option.map_some, e3]
      refine hf _ (fun t h1 h2 => ?_) rfl (by simp [opEq, OpA.con, e0, e1, e2, e3])
      simp only [get5 _ _ _ h1]
      repeat rw [get4 _ _ _ _ h2 (by decide)]
    | true =>
      simp (maxSteps := 1000000) (implicitDefEqProofs := false) only [stp, if_true, if_false, Int.reduceEq, Int.reduceLT, Int.reduceLE, Int.reduceGT, Int.reduceGE, reduceCtorEq, Nat.reduceEqDiff, List.getElem?_cons_zero, List.getElem?_cons_succ, Option.map_some, e3, h6, h7, l4, k4]
      refine SCalls.mono (refSameC ho.patch ho'.patch ho.cl) ?_
      rintro r G3 ⟨rfl, rfl⟩
      cases e4 : listEq chgEq o.chs o'.chs with
      | false =>
        simp (maxSteps := 1000000) (implicitDefEqProofs := false) only [stp, if_true, if_false, Int.reduceEq, Int.reduceLT, Int.reduceLE, Int.reduceGT, Int.reduceGE, reduceCtorEq, Nat.reduceEqDiff, List.getElem?_cons_zero, List.getElem?_cons_succ, Option.map_some, e4]
        refine hf _ (fun t h1 h2 => ?_) rfl (by simp [opEq, OpA.con, e0, e1, e2, e3, e4])
        simp only [get5 _ _ _ h1]
        repeat rw [get4 _ _ _ _ h2 (by decide)]
      | true =>
        simp (maxSteps := 1000000) (implicitDefEqProofs := false) only [stp, if_true, if_false, Int.reduceEq, Int.reduceLT, Int.reduceLE, Int.reduceGT, Int.reduceGE, reduceCtorEq, Nat.reduceEqDiff, List.getElem?_cons_zero, List.getElem?_cons_succ, Option.map_some, e4]
        refine ht _ (fun t h2 => ?_) (by simp [opEq, OpA.con, e0, e1, e2, e3, e4])
        repeat rw [get4 _ _ _ _ h2 (by decide)]
set_option maxRecDepth 20000 in
set_option maxHeartbeats 4000000 in
theorem refSameO {x y : V} {H : Heap} {us bs : List OpA} (hx : OpsIn H x us) (hy : OpsIn H y bs) :
    SCalls PP 17 [x, y] H fun r H' => H' = H ∧ r = .bool (listEq opEq (us.map OpA.con) (bs.map OpA.con)) := by
  refine SCalls.keep (R := fun r => r = .bool (listEq opEq (us.map OpA.con) (bs.map OpA.con))) (SCalls.go c17' (by simp [fn17']) fun hw => ?_)
  have hl := hx.len
  unfold big at hl
  have hlx : ∀ G, exec .len [x] G = some (.int .i64 us.length, G) := fun G => by have := hx.sl.len (H' := G); rwa [List.length_map] at this
  have hly : ∀ G, exec .len [y] G = some (.int .i64 bs.length, G) := fun G => by have := hy.sl.len (H' := G); rwa [List.length_map] at this
  by_cases hne : (us.length : Int) = bs.length
  rotate_left
  · simp (maxSteps := 1000000) (implicitDefEqProofs := false) only [stp, if_true, if_false, Int.reduceEq, Int.reduceLT, Int.reduceLE, Int.reduceGT, Int.reduceGE, reduceCtorEq, Nat.reduceEqDiff, List.getElem?_cons_zero, List.getElem?_cons_succ, Option.map_some, fn17', enterFr, List.length, List.range, List.range.loop, List.zip, List.zipWith, hlx, hly, hne]
    exact ⟨Ext.refl H, by rw [listEq_len (by simp; omega)], rfl⟩
  have hne' : us.length = bs.length := by omega
  simp (maxSteps := 1000000) (implicitDefEqProofs := false) only [stp, if_true, if_false, Int.reduceEq, Int.reduceLT, Int.reduceLE, Int.reduceGT, Int.reduceGE, reduceCtorEq, Nat.reduceEqDiff, List.getElem?_cons_zero, List.getElem?_cons_succ, Option.map_some, fn17', enterFr, List.length, List.range, List.range.loop, List.zip, List.zipWith, hlx, hly, hne]
  refine wp_loopI (fun m fr G => ∃ k : Nat, m = us.length - k ∧ k ≤ us.length ∧ Ext H G ∧ WF G ∧ listEq opEq ((us.map OpA.con).drop k) ((bs.map OpA.con).drop k) = listEq opEq (us.map OpA.con) (bs.map OpA.con) ∧ FrSub [(5, .int .i64 k), (0, x), (1, y)] fr) us.length ⟨0, rfl, Nat.zero_le _, Ext.refl H, hw, rfl, .cons rfl (.cons rfl (.cons rfl .nil))⟩ ?_
  rintro m fr G ⟨k, rfl, hk, hxG, hwG, hacc, hsub⟩
  refine ⟨_, hsub, ?_⟩
  by_cases hlt : (k : Int) < us.length
  · have hk1 : k < us.length := by omega
    have hk2 : k < bs.length := by omega
    obtain ⟨i1, o1, ha1, ht1⟩ := (hx.sl.ext hxG).ia (H' := G) (i := k) (e := us[k].cells) (by rw [List.getElem?_map, List.getElem?_eq_getElem hk1]; rfl) .i64
    obtain ⟨i2, o2, ha2, ht2⟩ := (hy.sl.ext hxG).ia (H' := G) (i := k) (e := bs[k].cells) (by rw [List.getElem?_map, List.getElem?_eq_getElem hk2]; rfl) .i64
    have c1 := hx.sl.1 us[k].cells (List.mem_map_of_mem (List.getElem_mem hk1))
    have c2 := hy.sl.1 bs[k].cells (List.mem_map_of_mem (List.getElem_mem hk2))
    have la1 := ht1.lda (n := 5) rfl
    obtain ⟨A1, A2, p1, p2, y1, y2, hab⟩ := x_two hwG c1.1 c2.1 c1.2 c2.2
    obtain ⟨A3, A4, p3, p4, y3, y4, wA, hA, hA'⟩ := hab G.next (G.next + 1) (.inl ⟨rfl, rfl⟩)
    obtain ⟨B3, B4, r3, r4, z3, z4, wB, hB, hB'⟩ := hab (G.next + 1) G.next (.inr ⟨rfl, rfl⟩)
    have lb : ∀ F, Ext G F → exec (.lda 5) [.ptr i2 o2] F = some (.agg bs[k].cells, F) := fun F h => (ht2.ext h).lda (n := 5) rfl
    have lb0 := lb G (Ext.refl G)
    have lb1 := lb A1 y1
    have lb2 := lb A2 y2
    have lb3 := lb A3 y3
    have lc3 := lb B3 z3
    have hd1 : (us.map OpA.con).drop k = us[k].con :: (us.map OpA.con).drop (k + 1) := by rw [List.drop_eq_getElem_cons (by simpa using hk1), List.getElem_map]
    have hd2 : (bs.map OpA.con).drop k = bs[k].con :: (bs.map OpA.con).drop (k + 1) := by rw [List.drop_eq_getElem_cons (by simpa using hk2), List.getElem_map]
    rw [hd1, hd2] at hacc
    simp only [listEq] at hacc
    have hw1 : IntKind.i64.wrap ((k : Int) + 1) = ((k + 1 : Nat) : Int) := by rw [wrap_i64 (by omega) (by omega)]; omega
    have hi1 := hx.ins us[k] (List.getElem_mem hk1)
    have hi2 := hy.ins bs[k] (List.getElem_mem hk2)
    simp (maxSteps := 1000000) (implicitDefEqProofs := false) only [stp, if_true, if_false, Int.reduceEq, Int.reduceLT, Int.reduceLE, Int.reduceGT, Int.reduceGE, reduceCtorEq, Nat.reduceEqDiff, List.getElem?_cons_zero, List.getElem?_cons_succ, Option.map_some, hlx, hlt, ha1, la1, ha2, lb0, p1, p2, lb1, lb2]
    refine ⟨⟨?_, ?_⟩, ⟨⟨?_, ⟨?_, ?_⟩⟩, ⟨?_, ⟨?_, ?_⟩⟩⟩⟩
    · simp (maxSteps := 1000000) (implicitDefEqProofs := false) only [stp, if_true, if_false, Int.reduceEq, Int.reduceLT, Int.reduceLE, Int.reduceGT, Int.reduceGE, reduceCtorEq, Nat.reduceEqDiff, List.getElem?_cons_zero, List.getElem?_cons_succ, Option.map_some, p3, lb3, p4]
      refine sameRest_ok (o := us[k]) (o' := bs[k]) (a := G.next) (b := (G.next + 1)) ?_ ?_ hA hA' (hi1.ext (hxG.trans y4)) (hi2.ext (hxG.trans y4)) (fun fr' h1 h2 h3 => ?_) (fun fr' h1 h3 => ?_)
      · rfl
      · rfl
      · rw [h3] at hacc
        simp (maxSteps := 1000000) (implicitDefEqProofs := false) only [stp, if_true, if_false, Int.reduceEq, Int.reduceLT, Int.reduceLE, Int.reduceGT, Int.reduceGE, reduceCtorEq, Nat.reduceEqDiff, List.getElem?_cons_zero, List.getElem?_cons_succ, Option.map_some, h2]
        exact ⟨hxG.trans y4, by rw [← hacc]; rfl, rfl⟩
      · rw [h3] at hacc
        have g5 : fr'.get 5 = some (.int .i64 k) := (h1 5 (by decide)).trans rfl
        have g0 : fr'.get 0 = some x := (h1 0 (by decide)).trans rfl
        have g1 : fr'.get 1 = some y := (h1 1 (by decide)).trans rfl
        simp (maxSteps := 1000000) (implicitDefEqProofs := false) only [stp, if_true, if_false, Int.reduceEq, Int.reduceLT, Int.reduceLE, Int.reduceGT, Int.reduceGE, reduceCtorEq, Nat.reduceEqDiff, List.getElem?_cons_zero, List.getElem?_cons_succ, Option.map_some, g5, hw1]
        exact ⟨us.length - (k + 1), by omega, k + 1, rfl, by omega, hxG.trans y4, wA, by simpa using hacc, .cons rfl (.cons (by rw [Fr.get, if_neg (by decide), Fr.get, if_neg (by decide), Fr.get, if_neg (by decide)]; exact g0) (.cons (by rw [Fr.get, if_neg (by decide), Fr.get, if_neg (by decide), Fr.get, if_neg (by decide)]; exact g1) .nil))⟩
    · simp (maxSteps := 1000000) (implicitDefEqProofs := false) only [stp, if_true, if_false, Int.reduceEq, Int.reduceLT, Int.reduceLE, Int.reduceGT, Int.reduceGE, reduceCtorEq, Nat.reduceEqDiff, List.getElem?_cons_zero, List.getElem?_cons_succ, Option.map_some, r3, lc3, r4]
      refine sameRest_ok (o := us[k]) (o' := bs[k]) (a := (G.next + 1)) (b := G.next) ?_ ?_ hB hB' (hi1.ext (hxG.trans z4)) (hi2.ext (hxG.trans z4)) (fun fr' h1 h2 h3 => ?_) (fun fr' h1 h3 => ?_)
      · rfl
      · rfl
      · rw [h3] at hacc
        simp (maxSteps := 1000000) (implicitDefEqProofs := false) only [stp, if_true, if_false, Int.reduceEq, Int.reduceLT, Int.reduceLE, Int.reduceGT, Int.reduceGE, reduceCtorEq, Nat.reduceEqDiff, List.getElem?_cons_zero, List.getElem?_cons_succ, Option.map_some, h2]
        exact ⟨hxG.trans z4, by rw [← hacc]; rfl, rfl⟩
      · rw [h3] at hacc
        have g5 : fr'.get 5 = some (.int .i64 k) := (h1 5 (by decide)).trans rfl
        have g0 : fr'.get 0 = some x := (h1 0 (by decide)).trans rfl
        have g1 : fr'.get 1 = some y := (h1 1 (by decide)).trans rfl
        simp (maxSteps := 1000000) (implicitDefEqProofs := false) only [stp, if_true, if_false, Int.reduceEq, Int.reduceLT, Int.reduceLE, Int.reduceGT, Int.reduceGE, reduceCtorEq, Nat.reduceEqDiff, List.getElem?_cons_zero, List.getElem?_cons_succ, Option.map_some, g5, hw1]
        exact ⟨us.length - (k + 1), by omega, k + 1, rfl, by omega, hxG.trans z4, wB, by simpa using hacc, .cons rfl (.cons (by rw [Fr.get, if_neg (by decide), Fr.get, if_neg (by decide), Fr.get, if_neg (by decide)]; exact g0) (.cons (by rw [Fr.get, if_neg (by decide), Fr.get, if_neg (by decide), Fr.get, if_neg (by decide)]; exact g1) .nil))⟩
    · simp (maxSteps := 1000000) (implicitDefEqProofs := false) only [stp, if_true, if_false, Int.reduceEq, Int.reduceLT, Int.reduceLE, Int.reduceGT, Int.reduceGE, reduceCtorEq, Nat.reduceEqDiff, List.getElem?_cons_zero, List.getElem?_cons_succ, Option.map_some, p3, lb3, p4]
      refine sameRest_ok (o := us[k]) (o' := bs[k]) (a := G.next) (b := (G.next + 1)) ?_ ?_ hA hA' (hi1.ext (hxG.trans y4)) (hi2.ext (hxG.trans y4)) (fun fr' h1 h2 h3 => ?_) (fun fr' h1 h3 => ?_)
      · rfl
      · rfl
      · rw [h3] at hacc
        simp (maxSteps := 1000000) (implicitDefEqProofs := false) only [stp, if_true, if_false, Int.reduceEq, Int.reduceLT, Int.reduceLE, Int.reduceGT, Int.reduceGE, reduceCtorEq, Nat.reduceEqDiff, List.getElem?_cons_zero, List.getElem?_cons_succ, Option.map_some, h2]
        exact ⟨hxG.trans y4, by rw [← hacc]; rfl, rfl⟩
      · rw [h3] at hacc
        have g5 : fr'.get 5 = some (.int .i64 k) := (h1 5 (by decide)).trans rfl
        have g0 : fr'.get 0 = some x := (h1 0 (by decide)).trans rfl
        have g1 : fr'.get 1 = some y := (h1 1 (by decide)).trans rfl
        simp (maxSteps := 1000000) (implicitDefEqProofs := false) only [stp, if_true, if_false, Int.reduceEq, Int.reduceLT, Int.reduceLE, Int.reduceGT, Int.reduceGE, reduceCtorEq, Nat.reduceEqDiff, List.getElem?_cons_zero, List.getElem?_cons_succ, Option.map_some, g5, hw1]
        exact ⟨us.length - (k + 1), by omega, k + 1, rfl, by omega, hxG.trans y4, wA, by simpa using hacc, .cons rfl (.cons (by rw [Fr.get, if_neg (by decide), Fr.get, if_neg (by decide), Fr.get, if_neg (by decide)]; exact g0) (.cons (by rw [Fr.get, if_neg (by decide), Fr.get, if_neg (by decide), Fr.get, if_neg (by decide)]; exact g1) .nil))⟩
    · simp (maxSteps := 1000000) (implicitDefEqProofs := false) only [stp, if_true, if_false, Int.reduceEq, Int.reduceLT, Int.reduceLE, Int.reduceGT, Int.reduceGE, reduceCtorEq, Nat.reduceEqDiff, List.getElem?_cons_zero, List.getElem?_cons_succ, Option.map_some, p3, lb3, p4]
      refine sameRest_ok (o := us[k]) (o' := bs[k]) (a := G.next) (b := (G.next + 1)) ?_ ?_ hA hA' (hi1.ext (hxG.trans y4)) (hi2.ext (hxG.trans y4)) (fun fr' h1 h2 h3 => ?_) (fun fr' h1 h3 => ?_)
      · rfl
      · rfl
      · rw [h3] at hacc
        simp (maxSteps := 1000000) (implicitDefEqProofs := false) only [stp, if_true, if_false, Int.reduceEq, Int.reduceLT, Int.reduceLE, Int.reduceGT, Int.reduceGE, reduceCtorEq, Nat.reduceEqDiff, List.getElem?_cons_zero, List.getElem?_cons_succ, Option.map_some, h2]
        exact ⟨hxG.trans y4, by rw [← hacc]; rfl, rfl⟩
      · rw [h3] at hacc
        have g5 : fr'.get 5 = some (.int .i64 k) := (h1 5 (by decide)).trans rfl
        have g0 : fr'.get 0 = some x := (h1 0 (by decide)).trans rfl
        have g1 : fr'.get 1 = some y := (h1 1 (by decide)).trans rfl
        simp (maxSteps := 1000000) (implicitDefEqProofs := false) only [stp, if_true, if_false, Int.reduceEq, Int.reduceLT, Int.reduceLE, Int.reduceGT, Int.reduceGE, reduceCtorEq, Nat.reduceEqDiff, List.getElem?_cons_zero, List.getElem?_cons_succ, Option.map_some, g5, hw1]
        exact ⟨us.length - (k + 1), by omega, k + 1, rfl, by omega, hxG.trans y4, wA, by simpa using hacc, .cons rfl (.cons (by rw [Fr.get, if_neg (by decide), Fr.get, if_neg (by decide), Fr.get, if_neg (by decide)]; exact g0) (.cons (by rw [Fr.get, if_neg (by decide), Fr.get, if_neg (by decide), Fr.get, if_neg (by decide)]; exact g1) .nil))⟩
    · simp (maxSteps := 1000000) (implicitDefEqProofs := false) only [stp, if_true, if_false, Int.reduceEq, Int.reduceLT, Int.reduceLE, Int.reduceGT, Int.reduceGE, reduceCtorEq, Nat.reduceEqDiff, List.getElem?_cons_zero, List.getElem?_cons_succ, Option.map_some, p3, lb3, p4]
      refine sameRest_ok (o := us[k]) (o' := bs[k]) (a := G.next) (b := (G.next + 1)) ?_ ?_ hA hA' (hi1.ext (hxG.trans y4)) (hi2.ext (hxG.trans y4)) (fun fr' h1 h2 h3 => ?_) (fun fr' h1 h3 => ?_)
      · rfl
      · rfl
      · rw [h3] at hacc
        simp (maxSteps := 1000000) (implicitDefEqProofs := false) only [stp, if_true, if_false, Int.reduceEq, Int.reduceLT, Int.reduceLE, Int.reduceGT, Int.reduceGE, reduceCtorEq, Nat.reduceEqDiff, List.getElem?_cons_zero, List.getElem?_cons_succ, Option.map_some, h2]
        exact ⟨hxG.trans y4, by rw [← hacc]; rfl, rfl⟩
      · rw [h3] at hacc
        have g5 : fr'.get 5 = some (.int .i64 k) := (h1 5 (by decide)).trans rfl
        have g0 : fr'.get 0 = some x := (h1 0 (by decide)).trans rfl
        have g1 : fr'.get 1 = some y := (h1 1 (by decide)).trans rfl
        simp (maxSteps := 1000000) (implicitDefEqProofs := false) only [stp, if_true, if_false, Int.reduceEq, Int.reduceLT, Int.reduceLE, Int.reduceGT, Int.reduceGE, reduceCtorEq, Nat.reduceEqDiff, List.getElem?_cons_zero, List.getElem?_cons_succ, Option.map_some, g5, hw1]
        exact ⟨us.length - (k + 1), by omega, k + 1, rfl, by omega, hxG.trans y4, wA, by simpa using hacc, .cons rfl (.cons (by rw [Fr.get, if_neg (by decide), Fr.get, if_neg (by decide), Fr.get, if_neg (by decide)]; exact g0) (.cons (by rw [Fr.get, if_neg (by decide), Fr.get, if_neg (by decide), Fr.get, if_neg (by decide)]; exact g1) .nil))⟩
    · simp (maxSteps := 1000000) (implicitDefEqProofs := false) only [stp, if_true, if_false, Int.reduceEq, Int.reduceLT, Int.reduceLE, Int.reduceGT, Int.reduceGE, reduceCtorEq, Nat.reduceEqDiff, List.getElem?_cons_zero, List.getElem?_cons_succ, Option.map_some, r3, lc3, r4]
      refine sameRest_ok (o := us[k]) (o' := bs[k]) (a := (G.next + 1)) (b := G.next) ?_ ?_ hB hB' (hi1.ext (hxG.trans z4)) (hi2.ext (hxG.trans z4)) (fun fr' h1 h2 h3 => ?_) (fun fr' h1 h3 => ?_)
      · rfl
      · rfl
      · rw [h3] at hacc
        simp (maxSteps := 1000000) (implicitDefEqProofs := false) only [stp, if_true, if_false, Int.reduceEq, Int.reduceLT, Int.reduceLE, Int.reduceGT, Int.reduceGE, reduceCtorEq, Nat.reduceEqDiff, List.getElem?_cons_zero, List.getElem?_cons_succ, Option.map_some, h2]
        exact ⟨hxG.trans z4, by rw [← hacc]; rfl, rfl⟩
      · rw [h3] at hacc
        have g5 : fr'.get 5 = some (.int .i64 k) := (h1 5 (by decide)).trans rfl
        have g0 : fr'.get 0 = some x := (h1 0 (by decide)).trans rfl
        have g1 : fr'.get 1 = some y := (h1 1 (by decide)).trans rfl
        simp (maxSteps := 1000000) (implicitDefEqProofs := false) only [stp, if_true, if_false, Int.reduceEq, Int.reduceLT, Int.reduceLE, Int.reduceGT, Int.reduceGE, reduceCtorEq, Nat.reduceEqDiff, List.getElem?_cons_zero, List.getElem?_cons_succ, Option.map_some, g5, hw1]
        exact ⟨us.length - (k + 1), by omega, k + 1, rfl, by omega, hxG.trans z4, wB, by simpa using hacc, .cons rfl (.cons (by rw [Fr.get, if_neg (by decide), Fr.get, if_neg (by decide), Fr.get, if_neg (by decide)]; exact g0) (.cons (by rw [Fr.get, if_neg (by decide), Fr.get, if_neg (by decide), Fr.get, if_neg (by decide)]; exact g1) .nil))⟩
    · simp (maxSteps := 1000000) (implicitDefEqProofs := false) only [stp, if_true, if_false, Int.reduceEq, Int.reduceLT, Int.reduceLE, Int.reduceGT, Int.reduceGE, reduceCtorEq, Nat.reduceEqDiff, List.getElem?_cons_zero, List.getElem?_cons_succ, Option.map_some, r3, lc3, r4]
      refine sameRest_ok (o := us[k]) (o' := bs[k]) (a := (G.next + 1)) (b := G.next) ?_ ?_ hB hB' (hi1.ext (hxG.trans z4)) (hi2.ext (hxG.trans z4)) (fun fr' h1 h2 h3 => ?_) (fun fr' h1 h3 => ?_)
      · rfl
      · rfl
      · rw [h3] at hacc
        simp (maxSteps := 1000000) (implicitDefEqProofs := false) only [stp, if_true, if_false, Int.reduceEq, Int.reduceLT, Int.reduceLE, Int.reduceGT, Int.reduceGE, reduceCtorEq, Nat.reduceEqDiff, List.getElem?_cons_zero, List.getElem?_cons_succ, Option.map_some, h2]
        exact ⟨hxG.trans z4, by rw [← hacc]; rfl, rfl⟩
      · rw [h3] at hacc
        have g5 : fr'.get 5 = some (.int .i64 k) := (h1 5 (by decide)).trans rfl
        have g0 : fr'.get 0 = some x := (h1 0 (by decide)).trans rfl
        have g1 : fr'.get 1 = some y := (h1 1 (by decide)).trans rfl
        simp (maxSteps := 1000000) (implicitDefEqProofs := false) only [stp, if_true, if_false, Int.reduceEq, Int.reduceLT, Int.reduceLE, Int.reduceGT, Int.reduceGE, reduceCtorEq, Nat.reduceEqDiff, List.getElem?_cons_zero, List.getElem?_cons_succ, Option.map_some, g5, hw1]
        exact ⟨us.length - (k + 1), by omega, k + 1, rfl, by omega, hxG.trans z4, wB, by simpa using hacc, .cons rfl (.cons (by rw [Fr.get, if_neg (by decide), Fr.get, if_neg (by decide), Fr.get, if_neg (by decide)]; exact g0) (.cons (by rw [Fr.get, if_neg (by decide), Fr.get, if_neg (by decide), Fr.get, if_neg (by decide)]; exact g1) .nil))⟩
    · simp (maxSteps := 1000000) (implicitDefEqProofs := false) only [stp, if_true, if_false, Int.reduceEq, Int.reduceLT, Int.reduceLE, Int.reduceGT, Int.reduceGE, reduceCtorEq, Nat.reduceEqDiff, List.getElem?_cons_zero, List.getElem?_cons_succ, Option.map_some, r3, lc3, r4]
      refine sameRest_ok (o := us[k]) (o' := bs[k]) (a := (G.next + 1)) (b := G.next) ?_ ?_ hB hB' (hi1.ext (hxG.trans z4)) (hi2.ext (hxG.trans z4)) (fun fr' h1 h2 h3 => ?_) (fun fr' h1 h3 => ?_)
      · rfl
      · rfl
      · rw [h3] at hacc
        simp (maxSteps := 1000000) (implicitDefEqProofs := false) only [stp, if_true, if_false, Int.reduceEq, Int.reduceLT, Int.reduceLE, Int.reduceGT, Int.reduceGE, reduceCtorEq, Nat.reduceEqDiff, List.getElem?_cons_zero, List.getElem?_cons_succ, Option.map_some, h2]
        exact ⟨hxG.trans z4, by rw [← hacc]; rfl, rfl⟩
      · rw [h3] at hacc
        have g5 : fr'.get 5 = some (.int .i64 k) := (h1 5 (by decide)).trans rfl
        have g0 : fr'.get 0 = some x := (h1 0 (by decide)).trans rfl
        have g1 : fr'.get 1 = some y := (h1 1 (by decide)).trans rfl
        simp (maxSteps := 1000000) (implicitDefEqProofs := false) only [stp, if_true, if_false, Int.reduceEq, Int.reduceLT, Int.reduceLE, Int.reduceGT, Int.reduceGE, reduceCtorEq, Nat.reduceEqDiff, List.getElem?_cons_zero, List.getElem?_cons_succ, Option.map_some, g5, hw1]
        exact ⟨us.length - (k + 1), by omega, k + 1, rfl, by omega, hxG.trans z4, wB, by simpa using hacc, .cons rfl (.cons (by rw [Fr.get, if_neg (by decide), Fr.get, if_neg (by decide), Fr.get, if_neg (by decide)]; exact g0) (.cons (by rw [Fr.get, if_neg (by decide), Fr.get, if_neg (by decide), Fr.get, if_neg (by decide)]; exact g1) .nil))⟩
  · obtain rfl : k = us.length := by omega
    simp (maxSteps := 1000000) (implicitDefEqProofs := false) only [stp, if_true, if_false, Int.reduceEq, Int.reduceLT, Int.reduceLE, Int.reduceGT, Int.reduceGE, reduceCtorEq, Nat.reduceEqDiff, List.getElem?_cons_zero, List.getElem?_cons_succ, Option.map_some, hlx, hlt]
    rw [List.drop_of_length_le (by simp), List.drop_of_length_le (by simp; omega)] at hacc
    exact ⟨hxG, by rw [← hacc]; rfl, rfl⟩
end Go.Proofs.YtkmaikggdbielaaGreatDoor.Fw

/- A schema of no keys. No condition. -/
namespace Go.Proofs.YtkmaikggdbielaaGreatDoor.Fw
open Go
set_option linter.unusedSimpArgs false
set_option linter.unusedVariables false

def tblK : List (Nat × AFn) := [(31, fn31), (33, fn33), (47, fn47), (62, fn62), (48, fn48), (71, fn71)]
theorem tblK_ok : ∀ p ∈ tblK, compFn Go.Proofs.Tryz.prog p.1 = some p.2 :=
  tbl_cons c31 (tbl_cons c33 (tbl_cons c47 (tbl_cons c62 (tbl_cons c48 (tbl_cons c71 tbl_nil)))))
theorem cloneNoKeys (H : Heap) : SCalls PP 31 [.nils] H fun r H' => H' = H ∧ r = .nils :=
  SCalls.worked2 (fun f af => tblGet_ok tblK_ok) rfl rfl (k := 20) (n := 10) (by kernel_rfl) H
theorem sortNoKeys (H : Heap) : SCalls PP 33 [.nils, .fn (.func 34) [] []] H fun r H' => H' = H ∧ r = .tup [] :=
  SCalls.worked2 (fun f af => tblGet_ok tblK_ok) rfl rfl (k := 100) (n := 10) (by kernel_rfl) H
theorem newNoKeys (H : Heap) : SCalls PP 9 [.nils] H fun r H' => WF H' ∧ Ext H H' ∧ ∃ id, r = .tup [.ptr id 0, .int .i64 0] := by
  refine SCalls.go c9 (by simp [fn9]) fun hw => ?_
  have hl : ∀ G, exec .len [.nils] G = some (.int .i64 0, G) := fun _ => rfl
  have h64 : ¬ ((0 : Int) > 64) := by decide
  simp (maxSteps := 1000000) (implicitDefEqProofs := false) only [stp, if_true, if_false, Int.reduceEq, Int.reduceLT, Int.reduceLE, Int.reduceGT, Int.reduceGE, reduceCtorEq, Nat.reduceEqDiff, List.getElem?_cons_zero, List.getElem?_cons_succ, Option.map_some, fn9, enterFr, List.length, List.range, List.range.loop, List.zip, List.zipWith, hl, h64]
  refine SCalls.mono (cloneNoKeys H) ?_
  rintro r G ⟨rfl, rfl⟩
  have hmk : exec .mkmap [] G = some (.map G.next, G.new (.mapo [])) := rfl
  have hx1 : Ext G (G.new (.mapo [])) := (Ext.refl G).new _
  have hw1 : WF (G.new (.mapo [])) := hw.new _
  have hb : ∀ F, exec (.build [.nils, .nilm] [(0, 1), (1, 1)]) [.nils, .map G.next] F = some (.agg [.nils, .map G.next], F) := fun _ => rfl
  generalize G.new (.mapo []) = G1 at *
  obtain ⟨G2, hx2, hw2, ha2, hb2⟩ := x_boxed (Ext.refl G1) hw1 (e := [.nils, .map G.next]) rfl
  have l := ha2.ld (j := 0) (v := .nils) rfl 1
  have h00 : ¬ ((0 : Int) < 0) := by decide
  simp (maxSteps := 1000000) (implicitDefEqProofs := false) only [stp, if_true, if_false, Int.reduceEq, Int.reduceLT, Int.reduceLE, Int.reduceGT, Int.reduceGE, reduceCtorEq, Nat.reduceEqDiff, List.getElem?_cons_zero, List.getElem?_cons_succ, Option.map_some, hmk, hb, hb2, hl]
  refine wp_loopI (fun m fr F => F = G2 ∧ FrSub [(19, .int .i64 0), (18, .int .i64 0), (4, .ptr G1.next 0)] fr) 0 ⟨rfl, .cons rfl (.cons rfl (.cons rfl .nil))⟩ ?_
  rintro m fr F ⟨rfl, hsub⟩
  refine ⟨_, hsub, ?_⟩
  simp (maxSteps := 1000000) (implicitDefEqProofs := false) only [stp, if_true, if_false, Int.reduceEq, Int.reduceLT, Int.reduceLE, Int.reduceGT, Int.reduceGE, reduceCtorEq, Nat.reduceEqDiff, List.getElem?_cons_zero, List.getElem?_cons_succ, Option.map_some, h00, l]
  refine SCalls.mono (sortNoKeys _) ?_
  rintro r F ⟨rfl, rfl⟩
  simp (maxSteps := 1000000) (implicitDefEqProofs := false) only [stp, if_true, if_false, Int.reduceEq, Int.reduceLT, Int.reduceLE, Int.reduceGT, Int.reduceGE, reduceCtorEq, Nat.reduceEqDiff, List.getElem?_cons_zero, List.getElem?_cons_succ, Option.map_some, if_true]
  exact ⟨hw2, hx1.trans hx2, _, by trivial⟩
end Go.Proofs.YtkmaikggdbielaaGreatDoor.Fw

/- A history whose memory is the call's own. No condition. -/
namespace Go.Proofs.YtkmaikggdbielaaGreatDoor.Fw
open Go
set_option linter.unusedSimpArgs false
set_option linter.unusedVariables false

/-- A history made behind H0, at G. -/
structure HistT (H0 G : Heap) (M : Nat → Prop) (p : Nat) (s : V) (h : HistC) : Prop where
  wf : WF G
  ext : Ext H0 G
  d : HistD G M (fun _ => False) p s h
  lo : ∀ j, M j → H0.next ≤ j
/-- A step: what it may change, what may be changed behind. -/
structure Nx (M : Nat → Prop) (G : Heap) (M' : Nat → Prop) (G' : Heap) : Prop where
  e : ExtM M G G'
  g : MGrow M M' G
theorem Nx.refl (M : Nat → Prop) (G : Heap) : Nx M G M G := ⟨ExtM.refl _ _, MGrow.refl _ _⟩
theorem Nx.trans {M M1 M2 : Nat → Prop} {G G1 G2 : Heap} (a : Nx M G M1 G1) (b : Nx M1 G1 M2 G2) : Nx M G M2 G2 := ⟨a.e.step a.g b.e, a.g.trans b.g a.e.next⟩
theorem Nx.ofExt {M : Nat → Prop} {G G' : Heap} (x : Ext G G') : Nx M G M G' := ⟨x.toM _, MGrow.refl _ _⟩
theorem Nx.fz {M M' : Nat → Prop} {G G' : Heap} {P : Heap → Prop} (a : Nx M G M' G') (h : Fz M G P) : Fz M' G' P := h.step a.e a.g
theorem HistT.grow {H0 G G' : Heap} {M : Nat → Prop} {p : Nat} {s : V} {h : HistC} (t : HistT H0 G M p s h) (x : Ext G G') (w : WF G') : HistT H0 G' M p s h := ⟨w, t.ext.trans x, t.d.grow x, t.lo⟩
theorem HistT.next {H0 G G' : Heap} {M M' : Nat → Prop} {p : Nat} {s : V} {h h' : HistC} (t : HistT H0 G M p s h) (w : WF G') (d : HistD G' M' (fun _ => False) p s h') (e : ExtM (fun j => M j ∧ ¬ False) G G') (g : MGrow M M' G) : HistT H0 G' M' p s h' ∧ Nx M G M' G' := by
  have e' : ExtM M G G' := ⟨e.gn, e.next, fun j hj hm => e.get j hj fun k => hm k.1⟩
  refine ⟨⟨w, ⟨e'.gn.trans t.ext.gn, Nat.le_trans t.ext.next e'.next, fun j hj => ?_⟩, d, fun j hj => ?_⟩, e', g⟩
  · rw [e'.get j (Nat.lt_of_lt_of_le hj t.ext.next) fun k => by have := t.lo j k; omega, t.ext.get j hj]
  · rcases g j hj with k | k
    · exact t.lo j k
    · exact Nat.le_trans t.ext.next k
theorem newT {H : Heap} {s : V} (hs : s.cells = [s] ∧ s.one = true) {mx : Int} (h0 : 0 ≤ mx) (h0' : mx ≤ 65536) : SCalls PP 10 [s, .int .i64 mx] H fun r H' => ∃ p, r = .tup [.ptr p 0, .int .i64 0] ∧ HistT H H' (fun j => j = p) p s ⟨mx, [], [], false, []⟩ :=
  SCalls.mono (newH_ok hs h0 h0') fun r H' ⟨w, x, e, f⟩ => ⟨H.next, e, w, x, by
    have := f (fun _ => False) (fun _ => False) (fun _ k => k.elim) (fun _ k => k.elim)
    have hm : (fun j => False ∨ j = H.next) = fun j => j = H.next := by funext j; simp
    rwa [hm] at this, fun j e => by omega⟩
section
variable {H0 G : Heap} {M : Nat → Prop} {p : Nat} {s : V} {h : HistC}
theorem HistT.push (t : HistT H0 G M p s h) (ho : h.opened = false) {x y : V} {os us : List OpA} (hx : OpsIn G x os) (hy : OpsIn G y us) (hl : h.undo.length + 1 ≤ big) (hm : 0 ≤ h.max) (hmb : h.max ≤ 65536) :
    SCalls PP 13 [.ptr p 0, x, y] G fun r G' => r = .int .i64 0 ∧ ∃ M', HistT H0 G' M' p s { h with undo := keepL h.max (h.undo ++ [⟨os.map OpA.con, us.map OpA.con⟩]), redo := [] } ∧ Nx M G M' G' :=
  SCalls.mono (pushH t.d ho hx hy hl hm hmb) fun r G' ⟨w, e, M', d, e', g⟩ => ⟨e, M', t.next w d e' g⟩
theorem HistT.undo (t : HistT H0 G M p s h) (ho : h.opened = false) {gi : List GrpC} {g : GrpC} (hg : h.undo = gi ++ [g]) (hl : h.undo.length ≤ big) (hr : h.redo.length + 1 ≤ big) :
    SCalls PP 14 [.ptr p 0] G fun r G' => ∃ M' x os, r = .tup [x, .int .i64 0] ∧ HistT H0 G' M' p s { h with undo := gi, redo := h.redo ++ [g] } ∧ Nx M G M' G' ∧ (Fz M' G' fun F => OpsIn F x os) ∧ os.map OpA.con = g.un :=
  SCalls.mono (undoH_ok t.d ho hg hl hr) fun r G' ⟨w, M', d, e', g, x, os, e, f, c⟩ => by
    obtain ⟨a, b⟩ := t.next w d e' g
    exact ⟨M', x, os, e, a, b, f.step (ExtM.refl _ _) (fun j k => .inl (.inl k)), c⟩
theorem HistT.redo (t : HistT H0 G M p s h) (ho : h.opened = false) {gi : List GrpC} {g : GrpC} (hg : h.redo = gi ++ [g]) (hl : h.redo.length ≤ big) (hr : h.undo.length + 1 ≤ big) :
    SCalls PP 16 [.ptr p 0] G fun r G' => ∃ M' x os, r = .tup [x, .int .i64 0] ∧ HistT H0 G' M' p s { h with redo := gi, undo := h.undo ++ [g] } ∧ Nx M G M' G' ∧ (Fz M' G' fun F => OpsIn F x os) ∧ os.map OpA.con = g.dn :=
  SCalls.mono (redoH_ok t.d ho hg hl hr) fun r G' ⟨w, M', d, e', g, x, os, e, f, c⟩ => by
    obtain ⟨a, b⟩ := t.next w d e' g
    exact ⟨M', x, os, e, a, b, f.step (ExtM.refl _ _) (fun j k => .inl (.inl k)), c⟩
theorem HistT.undoNo (t : HistT H0 G M p s h) (hn : h.opened = true ∨ h.undo = []) :
    SCalls PP 14 [.ptr p 0] G fun r G' => ∃ x, r = .tup [x, .int .i64 (if h.opened then 9 else 10)] ∧ HistT H0 G' M p s h ∧ Ext G G' ∧ Fz M G' fun F => OpsIn F x [] :=
  SCalls.mono (undoH_no t.d.toI hn) fun r G' ⟨w, e, x, f, c⟩ => ⟨x, f, t.grow e w, e, Fz.step c (ExtM.refl _ _) fun j k => .inl (t.d.mb k)⟩
theorem HistT.redoNo (t : HistT H0 G M p s h) (hn : h.opened = true ∨ h.redo = []) :
    SCalls PP 16 [.ptr p 0] G fun r G' => ∃ x, r = .tup [x, .int .i64 (if h.opened then 9 else 10)] ∧ HistT H0 G' M p s h ∧ Ext G G' ∧ Fz M G' fun F => OpsIn F x [] :=
  SCalls.mono (redoH_no t.d.toI hn) fun r G' ⟨w, e, x, f, c⟩ => ⟨x, f, t.grow e w, e, Fz.step c (ExtM.refl _ _) fun j k => .inl (t.d.mb k)⟩
theorem HistT.begin (t : HistT H0 G M p s h) (ho : h.opened = false) : SCalls PP 22 [.ptr p 0] G fun r G' => r = .int .i64 0 ∧ ∃ M', HistT H0 G' M' p s { h with opened := true, own := [] } ∧ Nx M G M' G' :=
  SCalls.mono (beginH_ok t.d ho) fun r G' ⟨w, e, M', d, e', g⟩ => ⟨e, M', t.next w d e' g⟩
end
/-- in, in the call's own memory. -/
theorem inT (c : Int) (M : Nat → Prop) (H : Heap) (hM : ∀ j, M j → j < H.next) : SCalls PP 12 [.int .i32 c] H fun r H' => WF H' ∧ Ext H H' ∧ ∃ x y o u, r = .tup [x, y] ∧ (Fz M H' fun F => OpsIn F x [o]) ∧ (Fz M H' fun F => OpsIn F y [u]) ∧ o.con = ⟨2, 0, [c], [], []⟩ ∧ u.con = ⟨3, 1, [], [], []⟩ :=
  SCalls.mono (in_calls c H) fun r H' ⟨w, x, v, id, o, e, i1, i2, g, c, f⟩ => ⟨w, x, v, .slice id 0 1 (some 1), o, ⟨3, 1, .nils, .nils, .nils, [], [], []⟩, e, (fun F q => f F ⟨q.gn, q.next, fun j hj hm => q.get j hj fun k => hm (.inr (hM j k))⟩), fun F q => by
    have hid : ¬ M id := fun k => by have := hM id k; omega
    exact del_ops (Nat.lt_of_lt_of_le i2 q.next) (by rw [q.get id i2 hid]; exact g) (by decide) (by decide), c, rfl⟩
end Go.Proofs.YtkmaikggdbielaaGreatDoor.Fw

/- The history's known answer. No condition. -/
namespace Go.Proofs.YtkmaikggdbielaaGreatDoor.Fw
open Go
set_option linter.unusedSimpArgs false
set_option linter.unusedVariables false

abbrev insC (c : Int) : OpC := ⟨2, 0, [c], [], []⟩
abbrev delC1 (n : Int) : OpC := ⟨3, n, [], [], []⟩
abbrev gA (c : Int) : GrpC := ⟨[insC c], [delC1 1]⟩
def knU : Nat → List GrpC
  | 0 => []
  | k + 1 => keepL 2 (knU k ++ [gA (97 + k)])
theorem opEq_self (l : List OpC) : listEq opEq l l = true := (listEq_iff fun a _ b _ => opEq_iff).2 rfl
set_option maxRecDepth 40000 in
set_option maxHeartbeats 8000000 in
theorem known_ok {H : Heap} : SCalls PP 11 [] H fun r H' => H' = H ∧ r = .bool true := by
  refine SCalls.keep (R := fun r => r = .bool true) (SCalls.go c11 (by simp [fn11]) fun hw => ?_)
  simp (maxSteps := 1000000) (implicitDefEqProofs := false) only [stp, if_true, if_false, Int.reduceEq, Int.reduceLT, Int.reduceLE, Int.reduceGT, Int.reduceGE, reduceCtorEq, Nat.reduceEqDiff, List.getElem?_cons_zero, List.getElem?_cons_succ, Option.map_some, fn11, enterFr, List.length, List.range, List.range.loop, List.zip, List.zipWith]
  refine SCalls.mono (newNoKeys H) ?_
  rintro _ G0 ⟨hw0, hx0, sid, rfl⟩
  simp (maxSteps := 1000000) (implicitDefEqProofs := false) only [stp, if_true, if_false, Int.reduceEq, Int.reduceLT, Int.reduceLE, Int.reduceGT, Int.reduceGE, reduceCtorEq, Nat.reduceEqDiff, List.getElem?_cons_zero, List.getElem?_cons_succ, Option.map_some, if_true]
  refine SCalls.mono (newT (s := .ptr sid 0) ⟨rfl, rfl⟩ (mx := 2) (by decide) (by decide)) ?_
  rintro _ G1 ⟨p, rfl, t1⟩
  have hne : exec (.eqnil 0 false) [.ptr p 0, .nilp] G1 = some (.bool false, G1) := rfl
  have hbu : exec (.build [.int .i32 0, .int .i32 0, .int .i32 0] [(0, 1), (1, 1), (2, 1)]) [.int .i32 97, .int .i32 98, .int .i32 99] G1 = some (.agg [.int .i32 97, .int .i32 98, .int .i32 99], G1) := rfl
  simp (maxSteps := 1000000) (implicitDefEqProofs := false) only [stp, if_true, if_false, Int.reduceEq, Int.reduceLT, Int.reduceLE, Int.reduceGT, Int.reduceGE, reduceCtorEq, Nat.reduceEqDiff, List.getElem?_cons_zero, List.getElem?_cons_succ, Option.map_some, Bool.false_eq_true, hne, hbu]
  refine wp_loopI (fun m fr F => ∃ k M, m = 3 - k ∧ k ≤ 3 ∧ HistT G0 F M p (.ptr sid 0) ⟨2, knU k, [], false, []⟩ ∧ FrSub [(41, .int .i64 (k : Nat)), (40, .agg [.int .i32 97, .int .i32 98, .int .i32 99]), (3, .ptr p 0)] fr) 3 ⟨0, _, rfl, by omega, t1, .cons rfl (.cons rfl (.cons rfl .nil))⟩ ?_
  rintro m fr F ⟨k, M, rfl, hk, t, hsub⟩
  refine ⟨_, hsub, ?_⟩
  by_cases hlt : (k : Int) < 3
  · have hidx : exec (.idxa 3) [.agg [.int .i32 97, .int .i32 98, .int .i32 99], .int .i64 (k : Nat)] F = some (.int .i32 (97 + (k : Nat)), F) := by
      have : k = 0 ∨ k = 1 ∨ k = 2 := by omega
      rcases this with rfl | rfl | rfl <;> rfl
    have hul : (knU k).length ≤ 2 := by
      have : k = 0 ∨ k = 1 ∨ k = 2 := by omega
      rcases this with rfl | rfl | rfl <;> decide
    simp (maxSteps := 1000000) (implicitDefEqProofs := false) only [stp, if_true, if_false, Int.reduceEq, Int.reduceLT, Int.reduceLE, Int.reduceGT, Int.reduceGE, reduceCtorEq, Nat.reduceEqDiff, List.getElem?_cons_zero, List.getElem?_cons_succ, Option.map_some, hlt, hidx]
    refine SCalls.mono (inT (97 + (k : Nat)) M F (fun j e => t.d.mb e)) ?_
    rintro _ F1 ⟨w1, x1, xv, yv, o, u, rfl, fx, fy, c1, c2⟩
    have t2 := t.grow x1 w1
    simp (maxSteps := 1000000) (implicitDefEqProofs := false) only [stp, if_true, if_false, Int.reduceEq, Int.reduceLT, Int.reduceLE, Int.reduceGT, Int.reduceGE, reduceCtorEq, Nat.reduceEqDiff, List.getElem?_cons_zero, List.getElem?_cons_succ, Option.map_some, if_true]
    refine SCalls.mono (t2.push rfl fx.here fy.here (by simp only [big]; omega) (show (0 : Int) ≤ 2 by decide) (show (2 : Int) ≤ 65536 by decide)) ?_
    rintro _ F2 ⟨rfl, M2, t3, nx⟩
    have hwr : IntKind.i64.wrap ((k : Int) + 1) = ((k + 1 : Nat) : Int) := by rw [wrap_i64 (by omega) (by omega)]; omega
    simp (maxSteps := 1000000) (implicitDefEqProofs := false) only [stp, if_true, if_false, Int.reduceEq, Int.reduceLT, Int.reduceLE, Int.reduceGT, Int.reduceGE, reduceCtorEq, Nat.reduceEqDiff, List.getElem?_cons_zero, List.getElem?_cons_succ, Option.map_some, Bool.false_eq_true, hwr]
    refine ⟨3 - (k + 1), by omega, k + 1, M2, rfl, by omega, ?_, .cons rfl (.cons rfl (.cons rfl .nil))⟩
    simp only [List.map_cons, List.map_nil, c1, c2] at t3
    exact t3
  · obtain rfl : k = 3 := by omega
    have t4 : HistT G0 F M p (.ptr sid 0) ⟨2, [gA 98] ++ [gA 99], [], false, []⟩ := t
    simp (maxSteps := 1000000) (implicitDefEqProofs := false) only [stp, if_true, if_false, Int.reduceEq, Int.reduceLT, Int.reduceLE, Int.reduceGT, Int.reduceGE, reduceCtorEq, Nat.reduceEqDiff, List.getElem?_cons_zero, List.getElem?_cons_succ, Option.map_some, hlt]
    refine SCalls.mono (t4.undo rfl rfl (by simp [big]) (by simp [big])) ?_
    rintro _ F5 ⟨M5, x5, os5, rfl, t5, n5, f5, c5⟩
    simp (maxSteps := 1000000) (implicitDefEqProofs := false) only [stp, if_true, if_false, Int.reduceEq, Int.reduceLT, Int.reduceLE, Int.reduceGT, Int.reduceGE, reduceCtorEq, Nat.reduceEqDiff, List.getElem?_cons_zero, List.getElem?_cons_succ, Option.map_some, if_true]
    refine SCalls.mono (t5.undo (gi := []) (g := gA 98) rfl rfl (by simp [big]) (by simp [big])) ?_
    rintro _ F6 ⟨M6, x6, os6, rfl, t6, n6, f6, c6⟩
    simp (maxSteps := 1000000) (implicitDefEqProofs := false) only [stp, if_true, if_false, Int.reduceEq, Int.reduceLT, Int.reduceLE, Int.reduceGT, Int.reduceGE, reduceCtorEq, Nat.reduceEqDiff, List.getElem?_cons_zero, List.getElem?_cons_succ, Option.map_some, if_true]
    refine SCalls.mono (t6.undoNo (.inr rfl)) ?_
    rintro _ F7 ⟨x7, rfl, t7, e7, f7⟩
    simp (maxSteps := 1000000) (implicitDefEqProofs := false) only [stp, if_true, if_false, Int.reduceEq, Int.reduceLT, Int.reduceLE, Int.reduceGT, Int.reduceGE, reduceCtorEq, Nat.reduceEqDiff, List.getElem?_cons_zero, List.getElem?_cons_succ, Option.map_some, Bool.false_eq_true]
    refine SCalls.mono (t7.redo (gi := [gA 99]) (g := gA 98) rfl rfl (by simp [big]) (by simp [big])) ?_
    rintro _ F8 ⟨M8, x8, os8, rfl, t8, n8, f8, c8⟩
    simp (maxSteps := 1000000) (implicitDefEqProofs := false) only [stp, if_true, if_false, Int.reduceEq, Int.reduceLT, Int.reduceLE, Int.reduceGT, Int.reduceGE, reduceCtorEq, Nat.reduceEqDiff, List.getElem?_cons_zero, List.getElem?_cons_succ, Option.map_some, if_true]
    refine SCalls.mono (inT 98 M8 F8 (fun j e => t8.d.mb e)) ?_
    rintro _ F9 ⟨w9, e9, xv, yv, o, u, rfl, fx, fy, co, cu⟩
    have t9 := t8.grow e9 w9
    have nx9 : Nx M8 F8 M8 F9 := Nx.ofExt e9
    have f5' := nx9.fz (n8.fz ((Nx.ofExt e7).fz (n6.fz f5)))
    have f8' := nx9.fz f8
    simp (maxSteps := 1000000) (implicitDefEqProofs := false) only [stp, if_true, if_false, Int.reduceEq, Int.reduceLT, Int.reduceLE, Int.reduceGT, Int.reduceGE, reduceCtorEq, Nat.reduceEqDiff, List.getElem?_cons_zero, List.getElem?_cons_succ, Option.map_some, if_true]
    refine SCalls.mono (depthsH t9.d.toI) ?_
    rintro _ _ ⟨rfl, rfl⟩
    simp (maxSteps := 1000000) (implicitDefEqProofs := false) only [stp, if_true, if_false, Int.reduceEq, Int.reduceLT, Int.reduceLE, Int.reduceGT, Int.reduceGE, reduceCtorEq, Nat.reduceEqDiff, List.getElem?_cons_zero, List.getElem?_cons_succ, Option.map_some, Bool.false_eq_true]
    refine SCalls.mono (refSameO f5'.here fy.here) ?_
    rintro _ _ ⟨rfl, rfl⟩
    rw [c5, List.map_cons, List.map_nil, cu, opEq_self]
    simp (maxSteps := 1000000) (implicitDefEqProofs := false) only [stp, if_true, if_false, Int.reduceEq, Int.reduceLT, Int.reduceLE, Int.reduceGT, Int.reduceGE, reduceCtorEq, Nat.reduceEqDiff, List.getElem?_cons_zero, List.getElem?_cons_succ, Option.map_some, Bool.false_eq_true]
    refine SCalls.mono (refSameO f8'.here fx.here) ?_
    rintro _ _ ⟨rfl, rfl⟩
    rw [c8, List.map_cons, List.map_nil, co, opEq_self]
    have i1 : (((([] : List GrpC) ++ [gA 98]).length : Nat) : Int) = 1 := rfl
    have i2 : ((([gA 99] : List GrpC).length : Nat) : Int) = 1 := rfl
    simp (maxSteps := 1000000) (implicitDefEqProofs := false) only [stp, if_true, if_false, Int.reduceEq, Int.reduceLT, Int.reduceLE, Int.reduceGT, Int.reduceGE, reduceCtorEq, Nat.reduceEqDiff, List.getElem?_cons_zero, List.getElem?_cons_succ, Option.map_some, i1, i2]
    refine SCalls.mono (t9.push rfl fx.here fy.here (by simp [big]) (by decide) (by decide)) ?_
    rintro _ F10 ⟨rfl, M10, t10, n10⟩
    simp (maxSteps := 1000000) (implicitDefEqProofs := false) only [stp, if_true, if_false, Int.reduceEq, Int.reduceLT, Int.reduceLE, Int.reduceGT, Int.reduceGE, reduceCtorEq, Nat.reduceEqDiff, List.getElem?_cons_zero, List.getElem?_cons_succ, Option.map_some, Bool.false_eq_true]
    refine SCalls.mono (t10.begin rfl) ?_
    rintro _ F11 ⟨rfl, M11, t11, n11⟩
    simp (maxSteps := 1000000) (implicitDefEqProofs := false) only [stp, if_true, if_false, Int.reduceEq, Int.reduceLT, Int.reduceLE, Int.reduceGT, Int.reduceGE, reduceCtorEq, Nat.reduceEqDiff, List.getElem?_cons_zero, List.getElem?_cons_succ, Option.map_some, Bool.false_eq_true]
    refine SCalls.mono (beginH_no t11.d rfl) ?_
    rintro _ _ ⟨rfl, rfl⟩
    simp (maxSteps := 1000000) (implicitDefEqProofs := false) only [stp, if_true, if_false, Int.reduceEq, Int.reduceLT, Int.reduceLE, Int.reduceGT, Int.reduceGE, reduceCtorEq, Nat.reduceEqDiff, List.getElem?_cons_zero, List.getElem?_cons_succ, Option.map_some, Bool.false_eq_true]
    refine SCalls.mono (openH t11.d.toI) ?_
    rintro _ _ ⟨rfl, rfl⟩
    simp (maxSteps := 1000000) (implicitDefEqProofs := false) only [stp, if_true, if_false, Int.reduceEq, Int.reduceLT, Int.reduceLE, Int.reduceGT, Int.reduceGE, reduceCtorEq, Nat.reduceEqDiff, List.getElem?_cons_zero, List.getElem?_cons_succ, Option.map_some, if_true]
    exact ⟨hx0.trans t11.ext, by trivial, rfl⟩
end Go.Proofs.YtkmaikggdbielaaGreatDoor.Fw

/- HistoryEmpties: the walk. No condition. -/
namespace Go.Proofs.YtkmaikggdbielaaGreatDoor.Fw
open Go
set_option linter.unusedSimpArgs false
set_option linter.unusedVariables false

abbrev gX : GrpC := gA 120
theorem rep_snoc (n : Nat) (g : GrpC) : List.replicate (n + 1) g = List.replicate n g ++ [g] := List.replicate_succ'
theorem keepL_rep {n : Nat} {mx : Int} (h : (n : Int) ≤ mx) (g : GrpC) : keepL mx (List.replicate n g) = List.replicate n g := by
  unfold keepL
  rw [List.length_replicate, show n - mx.toNat = 0 by omega, List.drop_zero]
theorem x_mn (a b : Int) (H : Heap) : exec .mn [.int .i64 a, .int .i64 b] H = some (.int .i64 (if b < a then b else a), H) := by
  simp only [exec, mnI]
  rfl
set_option maxRecDepth 40000 in
set_option maxHeartbeats 8000000 in
theorem historyEmpties_main (n0 n1 : Int) {H : Heap} : SCalls PP 4 [.int .i64 n0, .int .i64 n1] H fun r H' => r = .bool true := by
  refine SCalls.go c4 (by simp [fn4]) fun hw => ?_
  by_cases hbad : n0 < 1 ∨ n0 > 20 ∨ n1 < 1 ∨ n1 > n0
  · have key : wpC (SCalls PP) (fn4).body (enterFr [.int .i64 n0, .int .i64 n1]) H (kend (fn4).res fun r H' => r = .bool true) := by
      by_cases a1 : n0 < 1
      · simp (maxSteps := 1000000) (implicitDefEqProofs := false) only [stp, if_true, if_false, Int.reduceEq, Int.reduceLT, Int.reduceLE, Int.reduceGT, Int.reduceGE, reduceCtorEq, Nat.reduceEqDiff, List.getElem?_cons_zero, List.getElem?_cons_succ, Option.map_some, fn4, enterFr, List.length, List.range, List.range.loop, List.zip, List.zipWith, a1]
        refine SCalls.mono known_ok ?_
        rintro r G ⟨rfl, rfl⟩
        simp (maxSteps := 1000000) (implicitDefEqProofs := false) only [stp, if_true, if_false, Int.reduceEq, Int.reduceLT, Int.reduceLE, Int.reduceGT, Int.reduceGE, reduceCtorEq, Nat.reduceEqDiff, List.getElem?_cons_zero, List.getElem?_cons_succ, Option.map_some, if_true]
      by_cases a2 : n0 > 20
      · simp (maxSteps := 1000000) (implicitDefEqProofs := false) only [stp, if_true, if_false, Int.reduceEq, Int.reduceLT, Int.reduceLE, Int.reduceGT, Int.reduceGE, reduceCtorEq, Nat.reduceEqDiff, List.getElem?_cons_zero, List.getElem?_cons_succ, Option.map_some, fn4, enterFr, List.length, List.range, List.range.loop, List.zip, List.zipWith, a1, a2]
        refine SCalls.mono known_ok ?_
        rintro r G ⟨rfl, rfl⟩
        simp (maxSteps := 1000000) (implicitDefEqProofs := false) only [stp, if_true, if_false, Int.reduceEq, Int.reduceLT, Int.reduceLE, Int.reduceGT, Int.reduceGE, reduceCtorEq, Nat.reduceEqDiff, List.getElem?_cons_zero, List.getElem?_cons_succ, Option.map_some, if_true]
      by_cases a3 : n1 < 1
      · simp (maxSteps := 1000000) (implicitDefEqProofs := false) only [stp, if_true, if_false, Int.reduceEq, Int.reduceLT, Int.reduceLE, Int.reduceGT, Int.reduceGE, reduceCtorEq, Nat.reduceEqDiff, List.getElem?_cons_zero, List.getElem?_cons_succ, Option.map_some, fn4, enterFr, List.length, List.range, List.range.loop, List.zip, List.zipWith, a1, a2, a3]
        refine SCalls.mono known_ok ?_
        rintro r G ⟨rfl, rfl⟩
        simp (maxSteps := 1000000) (implicitDefEqProofs := false) only [stp, if_true, if_false, Int.reduceEq, Int.reduceLT, Int.reduceLE, Int.reduceGT, Int.reduceGE, reduceCtorEq, Nat.reduceEqDiff, List.getElem?_cons_zero, List.getElem?_cons_succ, Option.map_some, if_true]
      have a4 : n1 > n0 := by omega
      simp (maxSteps := 1000000) (implicitDefEqProofs := false) only [stp, if_true, if_false, Int.reduceEq, Int.reduceLT, Int.reduceLE, Int.reduceGT, Int.reduceGE, reduceCtorEq, Nat.reduceEqDiff, List.getElem?_cons_zero, List.getElem?_cons_succ, Option.map_some, fn4, enterFr, List.length, List.range, List.range.loop, List.zip, List.zipWith, a1, a2, a3, a4]
      refine SCalls.mono known_ok ?_
      rintro r G ⟨rfl, rfl⟩
      simp (maxSteps := 1000000) (implicitDefEqProofs := false) only [stp, if_true, if_false, Int.reduceEq, Int.reduceLT, Int.reduceLE, Int.reduceGT, Int.reduceGE, reduceCtorEq, Nat.reduceEqDiff, List.getElem?_cons_zero, List.getElem?_cons_succ, Option.map_some, if_true]
    exact key
  obtain ⟨n, rfl⟩ : ∃ n : Nat, n0 = n := ⟨n0.toNat, by omega⟩
  obtain ⟨b, rfl⟩ : ∃ b : Nat, n1 = b := ⟨n1.toNat, by omega⟩
  have a1 : ¬ (n : Int) < 1 := by omega
  have a2 : ¬ (n : Int) > 20 := by omega
  have a3 : ¬ (b : Int) < 1 := by omega
  have a4 : ¬ (b : Int) > n := by omega
  simp (maxSteps := 1000000) (implicitDefEqProofs := false) only [stp, if_true, if_false, Int.reduceEq, Int.reduceLT, Int.reduceLE, Int.reduceGT, Int.reduceGE, reduceCtorEq, Nat.reduceEqDiff, List.getElem?_cons_zero, List.getElem?_cons_succ, Option.map_some, fn4, enterFr, List.length, List.range, List.range.loop, List.zip, List.zipWith, a1, a2, a3, a4]
  refine SCalls.mono (newNoKeys H) ?_
  rintro _ G0 ⟨hw0, hx0, sid, rfl⟩
  simp (maxSteps := 1000000) (implicitDefEqProofs := false) only [stp, if_true, if_false, Int.reduceEq, Int.reduceLT, Int.reduceLE, Int.reduceGT, Int.reduceGE, reduceCtorEq, Nat.reduceEqDiff, List.getElem?_cons_zero, List.getElem?_cons_succ, Option.map_some, if_true]
  refine SCalls.mono (newT (s := .ptr sid 0) ⟨rfl, rfl⟩ (mx := 20) (by decide) (by decide)) ?_
  rintro _ G1 ⟨p, rfl, t1⟩
  have hne : exec (.eqnil 0 false) [.ptr p 0, .nilp] G1 = some (.bool false, G1) := rfl
  simp (maxSteps := 1000000) (implicitDefEqProofs := false) only [stp, if_true, if_false, Int.reduceEq, Int.reduceLT, Int.reduceLE, Int.reduceGT, Int.reduceGE, reduceCtorEq, Nat.reduceEqDiff, List.getElem?_cons_zero, List.getElem?_cons_succ, Option.map_some, Bool.false_eq_true, hne]
  refine SCalls.mono (inT 120 _ G1 (fun j e => t1.d.mb e)) ?_
  rintro _ G2 ⟨w2, x2, xv, yv, o, u, rfl, fx, fy, c1, c2⟩
  have t2 := t1.grow x2 w2
  simp (maxSteps := 1000000) (implicitDefEqProofs := false) only [stp, if_true, if_false, Int.reduceEq, Int.reduceLT, Int.reduceLE, Int.reduceGT, Int.reduceGE, reduceCtorEq, Nat.reduceEqDiff, List.getElem?_cons_zero, List.getElem?_cons_succ, Option.map_some, if_true]
  -- the pushes
  refine wp_range (len := n) SCalls.scMono (by omega) (fun _ : Unit => [(0, .int .i64 n), (1, .int .i64 b), (7, .ptr p 0), (9, xv), (10, yv)]) (fun k _ F => ∃ M, HistT G0 F M p (.ptr sid 0) ⟨20, List.replicate k gX, [], false, []⟩ ∧ (Fz M F fun F => OpsIn F xv [o]) ∧ Fz M F fun F => OpsIn F yv [u]) () ⟨_, t2, fx, fy⟩
    (.cons rfl (.cons rfl (.cons rfl (.cons rfl (.cons rfl (.cons rfl (.cons rfl .nil))))))) (by decide) (fun s => ⟨rfl, rfl, rfl⟩) ?_ ?_
  · rintro k _ F hk ⟨M, t, fx, fy⟩
    simp (maxSteps := 1000000) (implicitDefEqProofs := false) only [stp, if_true, if_false, Int.reduceEq, Int.reduceLT, Int.reduceLE, Int.reduceGT, Int.reduceGE, reduceCtorEq, Nat.reduceEqDiff, List.getElem?_cons_zero, List.getElem?_cons_succ, Option.map_some, if_true]
    refine SCalls.mono (t.push rfl fx.here fy.here (by simp only [List.length_replicate, big]; omega) (show (0 : Int) ≤ 20 by decide) (show (20 : Int) ≤ 65536 by decide)) ?_
    rintro _ F2 ⟨rfl, M2, t3, nx⟩
    simp (maxSteps := 1000000) (implicitDefEqProofs := false) only [stp, if_true, if_false, Int.reduceEq, Int.reduceLT, Int.reduceLE, Int.reduceGT, Int.reduceGE, reduceCtorEq, Nat.reduceEqDiff, List.getElem?_cons_zero, List.getElem?_cons_succ, Option.map_some, Bool.false_eq_true]
    simp only [List.map_cons, List.map_nil, c1, c2] at t3
    rw [← rep_snoc, keepL_rep (by omega)] at t3
    exact ⟨(), ⟨M2, t3, nx.fz fx, nx.fz fy⟩, .cons rfl (.cons rfl (.cons rfl (.cons rfl (.cons rfl (.cons rfl (.cons rfl .nil))))))⟩
  rintro _ F3 ⟨M3, t3, fx, fy⟩
  simp (maxSteps := 1000000) (implicitDefEqProofs := false) only [stp, if_true, if_false, Int.reduceEq, Int.reduceLT, Int.reduceLE, Int.reduceGT, Int.reduceGE, reduceCtorEq, Nat.reduceEqDiff, List.getElem?_cons_zero, List.getElem?_cons_succ, Option.map_some, if_true]
  -- the undos
  refine wp_range (len := b) SCalls.scMono (by omega) (fun _ : Unit => [(0, .int .i64 n), (1, .int .i64 b), (7, .ptr p 0), (9, xv), (10, yv)]) (fun k _ F => ∃ M, HistT G0 F M p (.ptr sid 0) ⟨20, List.replicate (n - k) gX, List.replicate k gX, false, []⟩ ∧ (Fz M F fun F => OpsIn F xv [o]) ∧ Fz M F fun F => OpsIn F yv [u]) () ⟨_, t3, fx, fy⟩
    (.cons rfl (.cons rfl (.cons rfl (.cons rfl (.cons rfl (.cons rfl (.cons rfl .nil))))))) (by decide) (fun s => ⟨rfl, rfl, rfl⟩) ?_ ?_
  · rintro k _ F hk ⟨M, t, fx, fy⟩
    simp (maxSteps := 1000000) (implicitDefEqProofs := false) only [stp, if_true, if_false, Int.reduceEq, Int.reduceLT, Int.reduceLE, Int.reduceGT, Int.reduceGE, reduceCtorEq, Nat.reduceEqDiff, List.getElem?_cons_zero, List.getElem?_cons_succ, Option.map_some, if_true]
    refine SCalls.mono (t.undo (gi := List.replicate (n - (k + 1)) gX) (g := gX) rfl (show List.replicate (n - k) gX = _ by rw [← rep_snoc, show n - k = n - (k + 1) + 1 by omega]) (by simp only [List.length_replicate, big]; omega) (by simp only [List.length_replicate, big]; omega)) ?_
    rintro _ F5 ⟨M5, x5, os5, rfl, t5, n5, f5, c5⟩
    simp (maxSteps := 1000000) (implicitDefEqProofs := false) only [stp, if_true, if_false, Int.reduceEq, Int.reduceLT, Int.reduceLE, Int.reduceGT, Int.reduceGE, reduceCtorEq, Nat.reduceEqDiff, List.getElem?_cons_zero, List.getElem?_cons_succ, Option.map_some, Bool.false_eq_true]
    rw [← rep_snoc] at t5
    exact ⟨(), ⟨M5, t5, n5.fz fx, n5.fz fy⟩, .cons rfl (.cons rfl (.cons rfl (.cons rfl (.cons rfl (.cons rfl (.cons rfl .nil))))))⟩
  rintro _ F4 ⟨M4, t4, fx, fy⟩
  simp (maxSteps := 1000000) (implicitDefEqProofs := false) only [stp, if_true, if_false, Int.reduceEq, Int.reduceLT, Int.reduceLE, Int.reduceGT, Int.reduceGE, reduceCtorEq, Nat.reduceEqDiff, List.getElem?_cons_zero, List.getElem?_cons_succ, Option.map_some, if_true]
  refine SCalls.mono (t4.redo (gi := List.replicate (b - 1) gX) (g := gX) rfl (show List.replicate b gX = _ by rw [← rep_snoc, show b = b - 1 + 1 by omega]; rfl) (by simp only [List.length_replicate, big]; omega) (by simp only [List.length_replicate, big]; omega)) ?_
  rintro _ F5 ⟨M5, x5, os5, rfl, t5, n5, f5, c5⟩
  rw [← rep_snoc] at t5
  simp (maxSteps := 1000000) (implicitDefEqProofs := false) only [stp, if_true, if_false, Int.reduceEq, Int.reduceLT, Int.reduceLE, Int.reduceGT, Int.reduceGE, reduceCtorEq, Nat.reduceEqDiff, List.getElem?_cons_zero, List.getElem?_cons_succ, Option.map_some, Bool.false_eq_true]
  refine SCalls.mono (depthsH t5.d.toI) ?_
  rintro _ _ ⟨rfl, rfl⟩
  have i1 : IntKind.i64.wrap ((n : Int) - b) = ((n - b : Nat) : Int) := by rw [wrap_i64 (by omega) (by omega)]; omega
  have i2 : IntKind.i64.wrap (((n - b : Nat) : Int) + 1) = ((n - b + 1 : Nat) : Int) := by rw [wrap_i64 (by omega) (by omega)]; omega
  have i3 : IntKind.i64.wrap ((b : Int) - 1) = ((b - 1 : Nat) : Int) := by rw [wrap_i64 (by omega) (by omega)]; omega
  simp (maxSteps := 1000000) (implicitDefEqProofs := false) only [stp, if_true, if_false, Int.reduceEq, Int.reduceLT, Int.reduceLE, Int.reduceGT, Int.reduceGE, reduceCtorEq, Nat.reduceEqDiff, List.getElem?_cons_zero, List.getElem?_cons_succ, Option.map_some, List.length_replicate, i1, i2, i3]
  have fx5 := n5.fz fx
  have fy5 := n5.fz fy
  refine SCalls.mono (t5.push rfl fx5.here fy5.here (by simp only [List.length_replicate, big]; omega) (show (0 : Int) ≤ 20 by decide) (show (20 : Int) ≤ 65536 by decide)) ?_
  rintro _ F6 ⟨rfl, M6, t6, n6⟩
  simp only [List.map_cons, List.map_nil, c1, c2] at t6
  rw [← rep_snoc] at t6
  simp (maxSteps := 1000000) (implicitDefEqProofs := false) only [stp, if_true, if_false, Int.reduceEq, Int.reduceLT, Int.reduceLE, Int.reduceGT, Int.reduceGE, reduceCtorEq, Nat.reduceEqDiff, List.getElem?_cons_zero, List.getElem?_cons_succ, Option.map_some, Bool.false_eq_true]
  refine SCalls.mono (t6.redoNo (.inr rfl)) ?_
  rintro _ F7 ⟨x7, rfl, t7, e7, f7⟩
  simp (maxSteps := 1000000) (implicitDefEqProofs := false) only [stp, if_true, if_false, Int.reduceEq, Int.reduceLT, Int.reduceLE, Int.reduceGT, Int.reduceGE, reduceCtorEq, Nat.reduceEqDiff, List.getElem?_cons_zero, List.getElem?_cons_succ, Option.map_some, Bool.false_eq_true]
  refine SCalls.mono (depthsH t7.d.toI) ?_
  rintro _ _ ⟨rfl, rfl⟩
  have i4 : IntKind.i64.wrap (((n - b : Nat) : Int) + 2) = ((n - b + 2 : Nat) : Int) := by rw [wrap_i64 (by omega) (by omega)]; omega
  have hl : ((keepL 20 (List.replicate (n - b + 1 + 1) gX)).length : Int) = if (20 : Int) < ((n - b + 2 : Nat) : Int) then 20 else ((n - b + 2 : Nat) : Int) := by
    have : (20 : Int).toNat = 20 := rfl
    simp only [keepL, List.length_drop, List.length_replicate, this]
    split <;> omega
  simp (maxSteps := 1000000) (implicitDefEqProofs := false) only [stp, if_true, if_false, Int.reduceEq, Int.reduceLT, Int.reduceLE, Int.reduceGT, Int.reduceGE, reduceCtorEq, Nat.reduceEqDiff, List.getElem?_cons_zero, List.getElem?_cons_succ, Option.map_some, i1, i4, x_mn, hl, List.length_nil, Int.natCast_zero]
  refine SCalls.mono known_ok ?_
  rintro r G ⟨rfl, rfl⟩
  simp (maxSteps := 1000000) (implicitDefEqProofs := false) only [stp, if_true, if_false, Int.reduceEq, Int.reduceLT, Int.reduceLE, Int.reduceGT, Int.reduceGE, reduceCtorEq, Nat.reduceEqDiff, List.getElem?_cons_zero, List.getElem?_cons_succ, Option.map_some, if_true]
end Go.Proofs.YtkmaikggdbielaaGreatDoor.Fw

