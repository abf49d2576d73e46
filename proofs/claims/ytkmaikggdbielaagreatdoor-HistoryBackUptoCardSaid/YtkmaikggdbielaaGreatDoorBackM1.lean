/- Part 1 of the proof. HistoryBack: of groups that were pushed the newest ones, at most max, are undone, the newest first, and done again, the other way round; then all is as it was; on the one condition that the arguments hold together at most 2^20 data, as the statement's own bound says. -/
import Derived.Test.YtkmaikggdbielaaGreatDoorW
import Derived.Test.YtkmaikggdbielaaGreatDoorProg
import Derived.Test.YtkmaikggdbielaaGreatDoorU
import Derived.Test.YtkmaikggdbielaaGreatDoorCards
import Derived.Test.YtkmaikggdbielaaGreatDoorTie
import Derived.WalkKit
import Derived.ProofKit
import Derived.OpenShut
import Derived.Deep.DeepHandedRow
import Derived.Lib.LaidTab
import Derived.Test.YtkmaikggdbielaaGreatDoorP
import Derived.KernelRfl

/- Values of the program as they lie; how a contract is begun. No condition. -/
namespace Go.Proofs.YtkmaikggdbielaaGreatDoor.Fw
open Go
set_option linter.unusedSimpArgs false
set_option linter.unusedVariables false

noncomputable abbrev PP : Program := Go.Proofs.Tryz.prog
theorem SCalls.ofFn {f : FuncId} {af : AFn} (hf : compFn PP f = some af) {vs : List V} {H : Heap} {R : V → Heap → Prop} (hl : vs.length ≤ af.n)
    (h : WF H → wpC (SCalls PP) af.body (enterFr vs) H fun e fr H' => (e = .normal ∨ e = .ret) ∧ ∃ rs, resAll fr H' af.res = some rs ∧ R (resV rs) H') : SCalls PP f vs H R :=
  SCalls.wf (by
    unfold compFn at hf
    split at hf
    · rename_i fn hfn
      split at hf
      · rename_i c hb
        split at hf
        · split at hf
          · cases hf
          · rename_i hn; exact ⟨fn, hfn, by simp [hb], hn⟩
        · cases hf
      · cases hf
    · cases hf) fun hw => SCalls.intro (SC := SCalls PP) (fun _ _ _ _ h => h) SCalls.scWf SCalls.scMono hf hl (h hw)
theorem SCalls.go {f : FuncId} {af : AFn} (hf : compFn PP f = some af) {vs : List V} {H : Heap} {R : V → Heap → Prop} (hl : vs.length ≤ af.n)
    (h : WF H → wpC (SCalls PP) af.body (enterFr vs) H (kend af.res R)) : SCalls PP f vs H R := SCalls.ofFn hf hl h

/-! ### The program's data -/
structure ValA where
  kind : Int
  n : Int
  f : Int
  s : ByteArray
def ValA.cells (v : ValA) : List V := [.int .u8 v.kind, .int .i64 v.n, .int .u64 v.f, .str v.s]
structure AttrA where
  key : Int
  val : ValA
def AttrA.cells (a : AttrA) : List V := .int .i64 a.key :: a.val.cells
structure ChgA where
  key : Int
  gone : Bool
  val : ValA
def ChgA.cells (c : ChgA) : List V := .int .i64 c.key :: .bool c.gone :: c.val.cells
structure OpA where
  kind : Int
  n : Int
  runes : V
  set : V
  patch : V
  rs : List Int
  ats : List AttrA
  chs : List ChgA
def OpA.cells (o : OpA) : List V := [.int .u8 o.kind, .int .i64 o.n, o.runes, o.set, o.patch]
structure KeyA where
  id : Int
  block : Bool
  kind : Int
  after : Bool
  before : Bool
  group : Int
def KeyA.cells (k : KeyA) : List V := [.int .i64 k.id, .bool k.block, .int .u8 k.kind, .bool k.after, .bool k.before, .int .i64 k.group]
abbrev big : Nat := 1048576
structure OpA.In (H : Heap) (o : OpA) : Prop where
  runes : SL H o.runes 1 (o.rs.map fun r => [V.int .i32 r])
  set : SL H o.set 5 (o.ats.map AttrA.cells)
  patch : SL H o.patch 6 (o.chs.map ChgA.cells)
  rl : o.rs.length ≤ big
  al : o.ats.length ≤ big
  cl : o.chs.length ≤ big
  sa : ∀ a ∈ o.ats, a.val.s.size ≤ big
  sc : ∀ c ∈ o.chs, c.val.s.size ≤ big
  nlo : -9223372036854775808 ≤ o.n
  nhi : o.n ≤ 9223372036854775807
theorem OpA.In.ext {H H' : Heap} {o : OpA} (h : o.In H) (k : Ext H H') : o.In H' := { h with runes := h.runes.ext k, set := h.set.ext k, patch := h.patch.ext k }
structure OpsIn (H : Heap) (x : V) (os : List OpA) : Prop where
  sl : SL H x 5 (os.map OpA.cells)
  ins : ∀ o ∈ os, o.In H
  len : os.length ≤ big
theorem OpsIn.ext {H H' : Heap} {x : V} {os : List OpA} (h : OpsIn H x os) (k : Ext H H') : OpsIn H' x os := ⟨h.sl.ext k, fun o ho => (h.ins o ho).ext k, h.len⟩
theorem new_get (H : Heap) (o : Ob) : (H.new o).get H.next = some o := by rw [Heap.new_get, if_pos rfl]
theorem set_get' (H : Heap) (i : Nat) (o : Ob) : (H.set i o).get i = some o := by rw [Heap.set_get, if_pos rfl]
/-! ### Rows of elements -/
theorem flatG {sz : Nat} : ∀ {es : List (List V)} (_ : ∀ e ∈ es, e.length = sz) {i j : Nat} {e : List V}, es[i]? = some e → j < sz → es.flatten[i * sz + j]? = e[j]?
  | [], h, i, j, e, he, hj => by simp at he
  | x :: es, h, 0, j, e, he, hj => by
    simp at he; subst he
    rw [List.flatten_cons, List.getElem?_append_left (by rw [h x (by simp)]; omega)]
    simp
  | x :: es, h, i + 1, j, e, he, hj => by
    have hx := h x (by simp)
    rw [List.flatten_cons, List.getElem?_append_right (by rw [hx, Nat.add_mul]; omega)]
    have := flatG (es := es) (fun y hy => h y (List.mem_cons_of_mem _ hy)) (i := i) (j := j) (e := e) (by simpa using he) hj
    rw [← this, hx, Nat.add_mul]
    congr 1
    omega
theorem flatLen {sz : Nat} : ∀ {es : List (List V)} (_ : ∀ e ∈ es, e.length = sz), es.flatten.length = es.length * sz
  | [], h => by simp
  | x :: es, h => by
    rw [List.flatten_cons, List.length_append, h x (by simp), flatLen fun y hy => h y (by simp [hy]), List.length_cons, Nat.add_mul]
    omega
theorem flatAll {es : List (List V)} (h : ∀ e ∈ es, e.all V.one = true) : es.flatten.all V.one = true := by
  rw [List.all_eq_true]
  intro v hv
  obtain ⟨e, he, hv⟩ := List.mem_flatten.1 hv
  exact List.all_eq_true.1 (h e he) v hv
/-- A row of the call's own that holds the elements es. -/
structure Own (H : Heap) (id sz : Nat) (es : List (List V)) : Prop where
  lt : id < H.next
  get : H.get id = some (.row false sz es.flatten)
  len : ∀ e ∈ es, e.length = sz ∧ e.all V.one = true
theorem Own.ext {H H' : Heap} {id sz : Nat} {es : List (List V)} (h : Own H id sz es) (k : Ext H H') : Own H' id sz es :=
  ⟨Nat.lt_of_lt_of_le h.lt k.next, by rw [k.get id h.lt]; exact h.get, h.len⟩
theorem x_iax {H : Heap} {id n i sz : Nat} (hi : i < n) : exec (.ia sz) [.slice id 0 n none, .int .i64 i] H = some (.ptr id (0 + i * sz), H) := by
  simp only [exec]
  rw [if_pos ⟨by omega, by omega⟩]
  rfl
theorem x_slc_hi {H : Heap} {id n i sz : Nat} {cells : List V} (hg : H.get id = some (.row false sz cells)) (hi : i ≤ n) : exec (.slc sz false true false) [.slice id 0 n none, .int .i64 i] H = some (.slice id (0 + 0 * sz) (i - 0) none, H) := by
  have hb : bounds3 false true false n ((none : Option Nat).getD n) [V.int .i64 i] = some (0, i, n) := by
    simp [bounds3, natV]
  simp only [exec, hb]
  rw [if_pos ⟨Nat.zero_le _, hi, Nat.le_refl _, by simp [slcOk, hg]⟩]
theorem Own.sl {H : Heap} {id sz : Nat} {es : List (List V)} (h : Own H id sz es) (cap : Option Nat) : SL H (.slice id 0 es.length cap) sz es := by
  refine ⟨h.len, .inr ⟨id, 0, cap, rfl, h.lt, fun i e he => ⟨h.lt, false, sz, es.flatten, h.get, ?_, fun j v hj => ?_⟩⟩⟩
  · have hi := (List.getElem?_eq_some_iff.1 he).1
    rw [flatLen fun e he => (h.len e he).1, (h.len e (List.mem_of_getElem? he)).1]
    have : (i + 1) * sz ≤ es.length * sz := Nat.mul_le_mul_right _ (by omega)
    rw [Nat.add_mul] at this
    omega
  · have hl := (h.len e (List.mem_of_getElem? he)).1
    rw [Nat.zero_add, flatG (fun e he => (h.len e he).1) he (by rw [← hl]; exact (List.getElem?_eq_some_iff.1 hj).1)]
    exact hj
theorem SL.src {H : Heap} {x : V} {sz : Nat} {es : List (List V)} (h : SL H x sz es) (hne : es ≠ []) : lenV x = some es.length ∧ srcCells H es.length sz x = some es.flatten := by
  obtain ⟨hl, ⟨_, rfl⟩ | ⟨id, off, cap, rfl, hid, hat⟩⟩ := h
  · exact absurd rfl hne
  · refine ⟨rfl, ?_⟩
    obtain ⟨e0, he0⟩ : ∃ e0, es[0]? = some e0 := by cases es with | nil => exact absurd rfl hne | cons a l => exact ⟨a, rfl⟩
    obtain ⟨_, ro, esz, cells, hg, _, _⟩ := hat 0 e0 he0
    have hn : 0 < es.length := by cases es with | nil => exact absurd rfl hne | cons a l => simp
    -- the last element bounds the row
    have hlast : es[es.length - 1]? = some (es[es.length - 1]'(by omega)) := List.getElem?_eq_getElem _
    obtain ⟨_, ro', esz', cells', hg', hb, _⟩ := hat _ _ hlast
    rw [hg] at hg'
    cases hg'
    rw [(hl _ (List.mem_of_getElem? hlast)).1] at hb
    have hmul : (es.length - 1) * sz + sz = es.length * sz := by
      rw [← Nat.succ_mul]; congr 1; omega
    simp only [srcCells, readN, hg]
    by_cases hz0 : es.length * sz = 0
    · rw [if_pos hz0]
      have := flatLen fun e he => (hl e he).1
      rw [hz0] at this
      rw [List.length_eq_zero_iff.1 this]
    rw [if_neg hz0, if_pos (by omega)]
    congr 1
    refine List.ext_getElem? fun q => ?_
    rw [List.getElem?_take]
    split
    · rename_i hq
      rw [List.getElem?_drop]
      have hsz : 0 < sz := by
        rcases Nat.eq_zero_or_pos sz with h0 | h0
        · rw [h0] at hq; simp at hq
        · exact h0
      have hqi : q / sz < es.length := Nat.div_lt_of_lt_mul (by rw [Nat.mul_comm]; exact hq)
      have he := List.getElem?_eq_getElem hqi
      have hqm : q % sz < sz := Nat.mod_lt _ hsz
      obtain ⟨_, ro', esz', cells', hg', _, hc⟩ := hat _ _ he
      rw [hg] at hg'
      cases hg'
      have hle := (hl _ (List.mem_of_getElem? he)).1
      have h1 := hc (q % sz) _ (List.getElem?_eq_getElem (by rw [hle]; exact hqm))
      have h2 := flatG (fun e he => (hl e he).1) he hqm
      rw [show q / sz * sz + q % sz = q by rw [Nat.mul_comm]; exact Nat.div_add_mod q sz] at h2
      have hge := List.getElem?_eq_getElem (l := es[q / sz]) (i := q % sz) (by rw [hle]; exact hqm)
      rw [h2, hge, ← h1]
      congr 1
      have := Nat.div_add_mod q sz
      rw [Nat.mul_comm] at this
      omega
    · rename_i hq
      rw [List.getElem?_eq_none (by rw [flatLen fun e he => (hl e he).1]; omega)]

/-! ### Tables of functions for the evaluator -/
def tblGet : List (Nat × AFn) → Nat → Option AFn
  | [], _ => none
  | p :: l, f => if f = p.1 then some p.2 else tblGet l f
theorem tblGet_ok {P : Program} : ∀ {l : List (Nat × AFn)} (_ : ∀ p ∈ l, compFn P p.1 = some p.2) {f : Nat} {af : AFn}, tblGet l f = some af → compFn P f = some af
  | [], h, f, af, e => by cases e
  | p :: l, h, f, af, e => by
    simp only [tblGet] at e
    split at e
    · rename_i hf
      have := h p (by simp)
      rw [hf, this, e]
    · exact tblGet_ok (fun q hq => h q (by simp [hq])) e
theorem tbl_nil {P : Program} : ∀ p ∈ ([] : List (Nat × AFn)), compFn P p.1 = some p.2 := fun p hp => by cases hp
theorem tbl_cons {P : Program} {n : Nat} {a : AFn} {l : List (Nat × AFn)} (h : compFn P n = some a) (k : ∀ p ∈ l, compFn P p.1 = some p.2) : ∀ p ∈ (n, a) :: l, compFn P p.1 = some p.2 := by
  intro p hp
  rcases List.mem_cons.1 hp with rfl | hp
  · exact h
  · exact k p hp
end Go.Proofs.YtkmaikggdbielaaGreatDoor.Fw

/- The frame: from a call over abstract values to the row and the card. No condition. -/
namespace Go.Proofs.YtkmaikggdbielaaGreatDoor.Fw
open Go Go.ChangeShapes Go.WideShapes Go.ChangeAt Go.RowKit
set_option linter.unusedSimpArgs false
set_option linter.unusedVariables false

theorem own : ownKnob PP.godebug = none := by kernel_rfl
theorem laidOut : laidOutB PP = true := by kernel_rfl

/-- A slice among the arguments. -/
theorem arg_slice {P : Program} {H : Type} {enc : TypeId × Value → H} {W : World} {base : Nat} {t e : TypeId} {v : Value} {d : DataW H} {p : List MemPlace} {n B : Nat} (ht : P.underlying t = some (.slice e)) (hp : plainT P (n + 1) t = true)
    (hval : Value.okWide P W .any base t v) (h : DataW.Trod enc P W 0 (fun _ => true) true t v d p) (hB : Rows.uptoBulk d ≤ B) :
    ∃ x ls, VRel (hPl W) (hOf W) x v ∧ SL (hOf W) x (P.cellsOf e) ls ∧ ls.length ≤ B ∧ ∀ l ∈ ls, GoodT P B (hOf W) n e l := by
  obtain ⟨a0, len, cap, rfl⟩ := okWide_slice ht hval
  obtain ⟨fuel, hf⟩ := h
  obtain ⟨h1, h2⟩ := read_good (n + 1) fuel t _ (d, p) hp hf hB
  simp only [GoodT, ht] at h2
  obtain ⟨x, ls, hx, hs, hl, hg⟩ := h2
  simp [Value.cells] at h1 hx
  exact ⟨x, ls, by rw [← hx]; exact av_rel W h1, hs, hl, hg⟩

/-- What a call over abstract values says of the world. -/
theorem below_of {m' : Nat → Pl} {H' : Heap} {W W' : World} (h : Ev (hPl W) (hOf W) W m' H' W') : Below W.heap.size W W' :=
  ⟨h.os, h.tape, h.output, h.size, fun b hb => h.block b hb fun id o ho hw => by
    have : o.owned = false := by
      simp only [hOf] at ho
      split at ho
      · split at ho
        · cases ho; rfl
        · cases ho
      · cases ho
    rw [this] at hw; cases hw⟩

theorem calls_of {f : FuncId} {vs : List V} {xs : List Value} {W : World} {c : Bool} (hc : SCalls PP f vs (hOf W) fun r H' => r = .bool c) (hv : VRelL (hPl W) (hOf W) vs xs) :
    Calls PP f xs.toArray W fun e W' => e = .returned (.bool c) ∧ Below W.heap.size W W' :=
  (hc.2 (hPl W) W xs (hOf_rel W) hv).mono fun e W' h => by
    obtain ⟨r, H', m', x, rfl, rfl, hx, _, hev⟩ := h
    exact ⟨by rw [hx.bool_inv], below_of hev⟩
end Go.Proofs.YtkmaikggdbielaaGreatDoor.Fw

/- A slice among the arguments, with what can be cut of it. No condition. -/
namespace Go.Proofs.YtkmaikggdbielaaGreatDoor.Fw
open Go Go.ChangeShapes Go.WideShapes Go.ChangeAt Go.RowKit
set_option linter.unusedSimpArgs false
set_option linter.unusedVariables false

/-- The capacity of a slice is known. -/
def CapOk (x : V) : Prop := ∀ id off n c, x = .slice id off n c → ∃ k, c = some k ∧ n ≤ k
theorem av_cap (W : World) (v : Value) : CapOk (av W v) := by
  intro id off n c h
  have key : ∀ u, abv W v = some u → u = .slice id off n c → ∃ k, c = some k ∧ n ≤ k := by
    intro u hu e
    subst e
    unfold abv at hu
    split at hu <;> try (cases hu; done)
    split at hu
    · split at hu
      · cases hu; exact ⟨0, rfl, Nat.le_refl _⟩
      · cases hu
    · split at hu
      · rename_i hk
        cases hu
        exact ⟨_, rfl, hk.2.2.2⟩
      · cases hu
  unfold av at h
  cases hv : abv W v with
  | none => rw [hv] at h; cases h
  | some u => rw [hv] at h; exact key u hv h
theorem arg_slice2 {P : Program} {H : Type} {enc : TypeId × Value → H} {W : World} {base : Nat} {t e : TypeId} {v : Value} {d : DataW H} {p : List MemPlace} {n B : Nat} (ht : P.underlying t = some (.slice e)) (hp : plainT P (n + 1) t = true)
    (hval : Value.okWide P W .any base t v) (h : DataW.Trod enc P W 0 (fun _ => true) true t v d p) (hB : Rows.uptoBulk d ≤ B) :
    ∃ x ls, VRel (hPl W) (hOf W) x v ∧ SL (hOf W) x (P.cellsOf e) ls ∧ ls.length ≤ B ∧ (∀ l ∈ ls, GoodT P B (hOf W) n e l) ∧ CapOk x := by
  obtain ⟨a0, len, cap, rfl⟩ := okWide_slice ht hval
  obtain ⟨fuel, hf⟩ := h
  obtain ⟨h1, h2⟩ := read_good (n + 1) fuel t _ (d, p) hp hf hB
  simp only [GoodT, ht] at h2
  obtain ⟨x, ls, hx, hs, hl, hg⟩ := h2
  simp [Value.cells] at h1 hx
  exact ⟨x, ls, by rw [← hx]; exact av_rel W h1, hs, hl, hg, by rw [← hx]; exact av_cap W _⟩
end Go.Proofs.YtkmaikggdbielaaGreatDoor.Fw

/- Vectors that grow, and what stays as it is while others change. No condition. -/
namespace Go.Proofs.YtkmaikggdbielaaGreatDoor.Fw
open Go
set_option linter.unusedSimpArgs false
set_option linter.unusedVariables false

/-! ### What stays -/
/-- H' has all that H has but at M's, as it was. -/
structure ExtM (M : Nat → Prop) (H H' : Heap) : Prop where
  gn : H'.gn = H.gn
  next : H.next ≤ H'.next
  get : ∀ id, id < H.next → ¬ M id → H'.get id = H.get id
theorem ExtM.refl (M : Nat → Prop) (H : Heap) : ExtM M H H := ⟨rfl, Nat.le_refl _, fun _ _ _ => rfl⟩
theorem ExtM.trans {M : Nat → Prop} {a b c : Heap} (h : ExtM M a b) (k : ExtM M b c) : ExtM M a c :=
  ⟨k.gn.trans h.gn, Nat.le_trans h.next k.next, fun id hi hm => (k.get id (Nat.lt_of_lt_of_le hi h.next) hm).trans (h.get id hi hm)⟩
theorem Ext.toM {a b : Heap} (h : Ext a b) (M : Nat → Prop) : ExtM M a b := ⟨h.gn, h.next, fun id hi _ => h.get id hi⟩
/-- Grown mutable things lie behind. -/
def MGrow (M M' : Nat → Prop) (H : Heap) : Prop := ∀ id, M' id → M id ∨ H.next ≤ id
theorem MGrow.refl (M : Nat → Prop) (H : Heap) : MGrow M M H := fun _ h => .inl h
theorem ExtM.step {M M' : Nat → Prop} {a b c : Heap} (h : ExtM M a b) (g : MGrow M M' a) (k : ExtM M' b c) : ExtM M a c :=
  ⟨k.gn.trans h.gn, Nat.le_trans h.next k.next, fun id hi hm => (k.get id (Nat.lt_of_lt_of_le hi h.next) (fun hm' => by
    rcases g id hm' with q | q
    · exact hm q
    · omega)).trans (h.get id hi hm)⟩
theorem MGrow.trans {M M' M2 : Nat → Prop} {a b : Heap} (h : MGrow M M' a) (k : MGrow M' M2 b) (hn : a.next ≤ b.next) : MGrow M M2 a := fun id h2 => by
  rcases k id h2 with q | q
  · exact h id q
  · exact .inr (Nat.le_trans hn q)
/-- P holds, whatever happens at M's. -/
def Fz (M : Nat → Prop) (H : Heap) (P : Heap → Prop) : Prop := ∀ H', ExtM M H H' → P H'
theorem Fz.here {M : Nat → Prop} {H : Heap} {P : Heap → Prop} (h : Fz M H P) : P H := h H (ExtM.refl M H)
theorem Fz.step {M M' : Nat → Prop} {H H' : Heap} {P : Heap → Prop} (h : Fz M H P) (k : ExtM M H H') (g : MGrow M M' H) : Fz M' H' P := fun _ q => h _ (k.step g q)
theorem Fz.mono {M : Nat → Prop} {H : Heap} {P Q : Heap → Prop} (h : Fz M H P) (k : ∀ H', P H' → Q H') : Fz M H Q := fun H' q => k _ (h H' q)
/-- What stays under growth alone stays where it lies outside M's. -/
theorem Fz.const {M : Nat → Prop} {H : Heap} {P : Prop} (h : P) : Fz M H fun _ => P := fun _ _ => h

theorem At.extM {M : Nat → Prop} {H H' : Heap} {id o : Nat} {e : List V} (h : At H id o e) (k : ExtM M H H') (hm : ¬ M id) : At H' id o e := by
  obtain ⟨h1, ro, esz, cells, h2, h3⟩ := h
  exact ⟨Nat.lt_of_lt_of_le h1 k.next, ro, esz, cells, by rw [k.get id h1 hm]; exact h2, h3⟩
theorem Own.extM {M : Nat → Prop} {H H' : Heap} {id sz : Nat} {es : List (List V)} (h : Own H id sz es) (k : ExtM M H H') (hm : ¬ M id) : Own H' id sz es :=
  ⟨Nat.lt_of_lt_of_le h.lt k.next, by rw [k.get id h.lt hm]; exact h.get, h.len⟩
/-- An owned row outside M's is frozen. -/
theorem Own.fz {M : Nat → Prop} {H : Heap} {id sz : Nat} {es : List (List V)} (h : Own H id sz es) (hm : ¬ M id) : Fz M H fun H' => Own H' id sz es := fun _ k => h.extM k hm

/-! ### Vectors -/
/-- r holds the elements es and may be appended to; k: the row that an append takes over. -/
def Vec (H : Heap) (r : V) (sz : Nat) (es : List (List V)) (k : Option Nat) : Prop :=
  (∀ e ∈ es, e.length = sz ∧ e.all V.one = true) ∧
  ((r = .nils ∧ es = [] ∧ k = none) ∨
   (∃ id off, r = .slice id off es.length (some es.length) ∧ SL H r sz es ∧ k = none) ∨
   (∃ id, r = .slice id 0 es.length none ∧ Own H id sz es ∧ k = some id) ∨
   (es = [] ∧ ∃ id cells, r = .slice id 0 0 none ∧ id < H.next ∧ H.get id = some (.row false sz cells) ∧ cells.all V.one = true ∧ k = some id))
theorem Vec.nil (H : Heap) (sz : Nat) : Vec H .nils sz [] none := ⟨by simp, .inl ⟨rfl, rfl, rfl⟩⟩
theorem Vec.sl {H : Heap} {r : V} {sz : Nat} {es : List (List V)} {k : Option Nat} (h : Vec H r sz es k) : SL H r sz es := by
  obtain ⟨h0, ⟨rfl, rfl, _⟩ | ⟨id, off, rfl, h, _⟩ | ⟨id, rfl, h, _⟩ | ⟨rfl, id, cells, rfl, h1, h2, h3⟩⟩ := h
  · exact ⟨h0, .inl ⟨rfl, rfl⟩⟩
  · exact h
  · exact h.sl none
  · exact ⟨h0, .inr ⟨id, 0, none, rfl, h1, fun i e he => by simp at he⟩⟩
theorem Vec.len {H : Heap} {r : V} {sz : Nat} {es : List (List V)} {k : Option Nat} (h : Vec H r sz es k) (H' : Heap) : exec .len [r] H' = some (.int .i64 es.length, H') := h.sl.len
theorem Vec.lt {H : Heap} {r : V} {sz : Nat} {es : List (List V)} {j : Nat} (h : Vec H r sz es (some j)) : j < H.next := by
  obtain ⟨_, ⟨_, _, h⟩ | ⟨_, _, _, _, h⟩ | ⟨id, _, h, e⟩ | ⟨_, id, cells, _, h1, _, _, e⟩⟩ := h
  · cases h
  · cases h
  · cases e; exact h.lt
  · cases e; exact h1
theorem Vec.one {H : Heap} {r : V} {sz : Nat} {es : List (List V)} {k : Option Nat} (h : Vec H r sz es k) : r.one = true ∧ r.cells = [r] := by
  obtain ⟨_, ⟨rfl, _⟩ | ⟨id, off, rfl, _⟩ | ⟨id, rfl, _⟩ | ⟨_, id, cells, rfl, _⟩⟩ := h <;> exact ⟨rfl, rfl⟩
/-- A vector stays where its row is untouched. -/
theorem Vec.keep {H H' : Heap} {r : V} {sz : Nat} {es : List (List V)} {k : Option Nat} (h : Vec H r sz es k) (hn : H.next ≤ H'.next) (hk : ∀ j, k = some j → H'.get j = H.get j) (hs : k = none → SL H r sz es → SL H' r sz es) : Vec H' r sz es k := by
  obtain ⟨h0, h | ⟨id, off, e1, h, e2⟩ | ⟨id, e1, h, e2⟩ | ⟨e0, id, cells, e1, h1, h2, h3, e2⟩⟩ := h
  · exact ⟨h0, .inl h⟩
  · exact ⟨h0, .inr (.inl ⟨id, off, e1, hs e2 h, e2⟩)⟩
  · exact ⟨h0, .inr (.inr (.inl ⟨id, e1, ⟨Nat.lt_of_lt_of_le h.lt hn, by rw [hk id e2]; exact h.get, h.len⟩, e2⟩))⟩
  · exact ⟨h0, .inr (.inr (.inr ⟨e0, id, cells, e1, Nat.lt_of_lt_of_le h1 hn, by rw [hk id e2]; exact h2, h3, e2⟩))⟩
theorem Vec.ext {H H' : Heap} {r : V} {sz : Nat} {es : List (List V)} {k : Option Nat} (h : Vec H r sz es k) (x : Ext H H') : Vec H' r sz es k :=
  h.keep x.next (fun j e => by subst e; exact x.get j h.lt) fun _ s => s.ext x

theorem get_new_ne {H : Heap} {o : Ob} {j : Nat} (h : j < H.next) : (H.new o).get j = H.get j := by rw [Heap.new_get, if_neg (by omega)]
theorem wf_kill_new {H : Heap} (h : WF H) (i : Nat) (o : Ob) : WF ((H.kill i).new o) := (h.kill i).new o

/-- append. -/
theorem Vec.app {H : Heap} (hw : WF H) {r x : V} {sz bytes n : Nat} {es news : List (List V)} {k : Option Nat} (h : Vec H r sz es k) (hsz : sz ≠ 0) (hn : news.length = n) (hn0 : n ≠ 0) (hx : lenV x = some n) (hs : srcCells H n sz x = some news.flatten)
    (hl : ∀ e ∈ news, e.length = sz ∧ e.all V.one = true) (hb : (es.length + n) * bytes ≤ 140737488355328) (hb2 : es.length + n ≤ 4611686018427387904) :
    ∃ H', exec (.app sz bytes) [r, x] H = some (.slice H.next 0 (es.length + n) none, H') ∧ Vec H' (.slice H.next 0 (es.length + n) none) sz (es ++ news) (some H.next) ∧ Own H' H.next sz (es ++ news) ∧
      WF H' ∧ H'.next = H.next + 1 ∧ H'.gn = H.gn ∧ ∀ j, j < H.next → k ≠ some j → H'.get j = H.get j := by
  have hfl := flatLen fun e he => (hl e he).1
  have hfa := flatAll fun e he => (hl e he).2
  have h0 := h.1
  have hlen : (es ++ news).length = es.length + n := by rw [List.length_append, hn]
  have hall : ∀ e ∈ es ++ news, e.length = sz ∧ e.all V.one = true := fun e he => by
    rcases List.mem_append.1 he with q | q
    · exact h0 e q
    · exact hl e q
  have hcond : ¬ (news.flatten.length ≠ n * sz ∨ ¬ news.flatten.all V.one = true ∨ sz = 0) := by
    rw [hfl, hn, hfa]; simp; exact hsz
  have fin : ∀ (G : Heap), WF G → G.next = H.next → G.gn = H.gn → (∀ j, j < H.next → k ≠ some j → G.get j = H.get j) → ∀ cells, cells = (es ++ news).flatten →
      Vec (G.new (.row false sz cells)) (.slice H.next 0 (es.length + n) none) sz (es ++ news) (some H.next) ∧ Own (G.new (.row false sz cells)) H.next sz (es ++ news) ∧
      WF (G.new (.row false sz cells)) ∧ (G.new (.row false sz cells)).next = H.next + 1 ∧ (G.new (.row false sz cells)).gn = H.gn ∧ ∀ j, j < H.next → k ≠ some j → (G.new (.row false sz cells)).get j = H.get j := by
    intro G hg e1 e2 e3 cells ec
    have ow : Own (G.new (.row false sz cells)) H.next sz (es ++ news) := ⟨by rw [Heap.new_next, e1]; omega, by rw [← e1, new_get, ec], hall⟩
    exact ⟨⟨hall, .inr (.inr (.inl ⟨H.next, by rw [hlen], ow, rfl⟩))⟩, ow, hg.new _, by rw [Heap.new_next, e1], e2, fun j hj hk => by rw [get_new_ne (by omega), e3 j hj hk]⟩
  obtain ⟨_, ⟨rfl, rfl, rfl⟩ | ⟨id, off, rfl, hsl, rfl⟩ | ⟨id, rfl, ho, rfl⟩ | ⟨rfl, id, cells, rfl, h1, h2, h3, rfl⟩⟩ := h
  · refine ⟨H.new (.row false sz news.flatten), ?_, fin H hw rfl rfl (fun _ _ _ => rfl) _ (by simp)⟩
    simp only [exec, appendA, hx, hs]
    rw [if_neg hcond, if_neg hn0]
    simp only [List.length_nil, Nat.zero_add] at hb hb2 ⊢
    rw [if_pos ⟨hb, by omega⟩]
  · have hz : es.length = 0 ∨ 0 < es.length := by omega
    refine ⟨H.new (.row false sz (es ++ news).flatten), ?_, fin H hw rfl rfl (fun _ _ _ => rfl) _ rfl⟩
    have hold : readN H (es.length * sz) (.slice id off es.length (some es.length)) = some es.flatten := by
      rcases hz with hz | hz
      · have : es = [] := List.eq_nil_of_length_eq_zero hz
        subst this
        simp [readN]
      · obtain ⟨_, s2⟩ := hsl.src (by intro e; rw [e] at hz; simp at hz)
        simpa [srcCells] using s2
    simp only [exec, appendA, hx, hs]
    rw [if_neg hcond, if_neg hn0, if_neg (by simp; omega), if_neg (by omega)]
    simp only [hold, Option.bind_some]
    rw [if_pos (flatAll fun e he => (h0 e he).2), List.flatten_append]
  · have hfe := flatLen fun e he => (h0 e he).1
    refine ⟨(H.kill id).new (.row false sz (es ++ news).flatten), ?_, fin (H.kill id) (hw.kill id) rfl rfl (fun j hj hk => by rw [Heap.kill_get, if_neg (fun e => hk (by rw [e]))]) _ rfl⟩
    simp only [exec, appendA, hx, hs]
    rw [if_neg hcond, if_neg hn0, if_neg (by simp; omega)]
    simp only [ho.get]
    rw [if_pos ⟨by trivial, by omega, flatAll fun e he => (h0 e he).2⟩, List.drop_zero, List.take_of_length_le (by omega), List.flatten_append]
  · refine ⟨(H.kill id).new (.row false sz news.flatten), ?_, fin (H.kill id) (hw.kill id) rfl rfl (fun j hj hk => by rw [Heap.kill_get, if_neg (fun e => hk (by rw [e]))]) _ (by simp)⟩
    simp only [exec, appendA, hx, hs]
    rw [if_neg hcond, if_neg hn0, if_neg (by simp at hb hb2 ⊢; omega)]
    simp only [h2]
    rw [if_pos ⟨by trivial, by simp, h3⟩]
    simp
/-- append of nothing. -/
theorem x_app0 {H : Heap} {r x : V} {sz bytes : Nat} (hr : r = .nils ∨ ∃ id off len cap, r = .slice id off len cap) (hx : lenV x = some 0) (hs : srcCells H 0 sz x = some []) (hsz : sz ≠ 0) : exec (.app sz bytes) [r, x] H = some (r, H) := by
  rcases hr with rfl | ⟨id, off, len, cap, rfl⟩
  · simp only [exec, appendA, hx, hs]
    rw [if_neg (by simp; exact hsz)]
    simp only [if_true]
  · simp only [exec, appendA, hx, hs]
    rw [if_neg (by simp; exact hsz)]
    simp only [if_true]
theorem SL.src0 {H : Heap} {x : V} {sz : Nat} (h : SL H x sz []) : lenV x = some 0 ∧ srcCells H 0 sz x = some [] := by
  obtain ⟨_, ⟨rfl, _⟩ | ⟨id, off, cap, rfl, _⟩⟩ := h
  · exact ⟨rfl, by simp [srcCells, readN]⟩
  · exact ⟨rfl, by simp [srcCells, readN]⟩
theorem Vec.shape {H : Heap} {r : V} {sz : Nat} {es : List (List V)} {k : Option Nat} (h : Vec H r sz es k) : r = .nils ∨ ∃ id off len cap, r = .slice id off len cap := by
  obtain ⟨_, ⟨rfl, _⟩ | ⟨id, off, rfl, _⟩ | ⟨id, rfl, _⟩ | ⟨_, id, cells, rfl, _⟩⟩ := h
  · exact .inl rfl
  · exact .inr ⟨_, _, _, _, rfl⟩
  · exact .inr ⟨_, _, _, _, rfl⟩
  · exact .inr ⟨_, _, _, _, rfl⟩

/-! ### slices.Clone -/
def cloneFn (sz bytes : Nat) : AFn := ⟨8,
 (.seq
  (.region [⟨some 2, none, .ex (.mov) [.k .nils]⟩])
  (.seq
   (.seq
    (.region [⟨some 3, none, .ex (.mov) [.s 0]⟩,
      ⟨some 4, none, .ex (.eqnil 1 false) [.s 3, .k .nils]⟩])
    (.cond (.s 4)
     (.seq
      (.region [⟨some 2, none, .ex (.mov) [.k .nils]⟩])
      .ret)
     .skip))
   (.seq
    (.region [⟨some 5, none, .ex (.bsl sz 0 [] []) []⟩,
      ⟨some 6, none, .ex (.mov) [.s 0]⟩,
      ⟨some 7, none, .ex (.app sz bytes) [.s 5, .s 6]⟩,
      ⟨some 2, none, .ex (.mov) [.s 7]⟩])
    .ret))),
 [.t 2]⟩
set_option maxRecDepth 20000 in
theorem clone_gen {f : FuncId} {sz bytes : Nat} (hc : compFn PP f = some (cloneFn sz bytes)) (hsz : sz ≠ 0) (hby : bytes ≤ 256) {x : V} {H : Heap} {es : List (List V)} (hx : SL H x sz es) (hl : es.length ≤ big) :
    SCalls PP f [x] H fun r H' => Ext H H' ∧ WF H' ∧ ∃ k, Vec H' r sz es k ∧ (∀ j, k = some j → H.next ≤ j) ∧ (es ≠ [] → ∃ j, k = some j ∧ Own H' j sz es ∧ r = .slice j 0 es.length none) ∧ (k = none → es = []) := by
  refine SCalls.go hc (by simp [cloneFn]) fun hw => ?_
  unfold big at hl
  have hbs : exec (.bsl sz 0 [] []) [] H = some (.slice H.next 0 0 (some 0), H.new (.row false sz [])) := rfl
  obtain ⟨hlen, ⟨rfl, rfl⟩ | ⟨id, off, cap, rfl, hid, hat⟩⟩ := id hx
  · have hn : exec (.eqnil 1 false) [.nils, .nils] H = some (.bool true, H) := rfl
    simp (maxSteps := 1000000) (implicitDefEqProofs := false) only [stp, if_true, if_false, Int.reduceEq, Int.reduceLT, Int.reduceLE, Int.reduceGT, Int.reduceGE, reduceCtorEq, Nat.reduceEqDiff, List.getElem?_cons_zero, List.getElem?_cons_succ, Option.map_some, cloneFn, enterFr, List.length, List.range, List.range.loop, List.zip, List.zipWith, hn]
    exact ⟨Ext.refl H, hw, none, Vec.nil _ _, by simp, by simp, by simp⟩
  · have hn : ∀ n, exec (.eqnil 1 false) [.slice id off n cap, .nils] H = some (.bool false, H) := fun _ => rfl
    have hx1 : Ext H (H.new (.row false sz [])) := (Ext.refl H).new _
    have hw1 : WF (H.new (.row false sz [])) := hw.new _
    have hsl1 := hx.ext hx1
    by_cases he : es = []
    · subst he
      obtain ⟨q1, q2⟩ := hsl1.src0
      have happ : exec (.app sz bytes) [.slice H.next 0 0 (some 0), .slice id off 0 cap] (H.new (.row false sz [])) = some (.slice H.next 0 0 (some 0), H.new (.row false sz [])) := x_app0 (.inr ⟨_, _, _, _, rfl⟩) q1 q2 hsz
      simp (maxSteps := 1000000) (implicitDefEqProofs := false) only [stp, if_true, if_false, Int.reduceEq, Int.reduceLT, Int.reduceLE, Int.reduceGT, Int.reduceGE, reduceCtorEq, Nat.reduceEqDiff, List.getElem?_cons_zero, List.getElem?_cons_succ, Option.map_some, cloneFn, enterFr, List.length, List.range, List.range.loop, List.zip, List.zipWith, hn, hbs, happ]
      exact ⟨hx1, hw1, none, ⟨by simp, .inr (.inl ⟨_, _, rfl, ⟨by simp, .inr ⟨H.next, 0, some 0, rfl, Nat.lt_succ_self _, fun i e h => by simp at h⟩⟩, rfl⟩)⟩, by simp, by simp, by simp⟩
    · obtain ⟨s1, s2⟩ := hsl1.src he
      have hln : es.length ≠ 0 := fun h => he (List.length_eq_zero_iff.1 h)
      have hv0 : Vec (H.new (.row false sz [])) (.slice H.next 0 0 (some 0)) sz [] none := ⟨by simp, .inr (.inl ⟨_, _, rfl, ⟨by simp, .inr ⟨H.next, 0, some 0, rfl, Nat.lt_succ_self _, fun i e h => by simp at h⟩⟩, rfl⟩)⟩
      have hmul : (([] : List (List V)).length + es.length) * bytes ≤ 140737488355328 := by
        simp only [List.length_nil, Nat.zero_add]
        have := Nat.mul_le_mul hl hby
        omega
      obtain ⟨H', e1, e2, e3, e4, e5, e6, e7⟩ := hv0.app (bytes := bytes) hw1 hsz rfl hln s1 s2 hlen hmul (by simp; omega)
      simp only [List.length_nil, Nat.zero_add, List.nil_append] at e1 e2 e3
      simp (maxSteps := 1000000) (implicitDefEqProofs := false) only [stp, if_true, if_false, Int.reduceEq, Int.reduceLT, Int.reduceLE, Int.reduceGT, Int.reduceGE, reduceCtorEq, Nat.reduceEqDiff, List.getElem?_cons_zero, List.getElem?_cons_succ, Option.map_some, cloneFn, enterFr, List.length, List.range, List.range.loop, List.zip, List.zipWith, hn, hbs, e1]
      have hxx : Ext H H' := ⟨e6, by rw [e5]; simp only [Heap.new_next]; omega, fun j hj => by rw [e7 j (by simp only [Heap.new_next]; omega) (by simp), get_new_ne hj]⟩
      exact ⟨hxx, e4, _, e2, fun j hj => by cases hj; simp only [Heap.new_next]; omega, fun _ => ⟨_, rfl, e3, rfl⟩, fun h => by cases h⟩
end Go.Proofs.YtkmaikggdbielaaGreatDoor.Fw

/- The abstract code of functions of the program, and that it is theirs. No condition. Printed by a program (wip/Print.lean, wip/mkfns.py). -/
namespace Go.Proofs.YtkmaikggdbielaaGreatDoor.Fw
open Go

/-- rubric/schema.New -/
def fn9 : AFn := ⟨53,
 (.seq
  (.region [⟨some 2, none, .ex (.mov) [.k .nilp]⟩,
    ⟨some 3, none, .ex (.mov) [.k (.int .i64 0)]⟩])
  (.seq
   (.seq
    (.region [⟨some 9, none, .ex (.mov) [.s 0]⟩,
      ⟨some 10, none, .ex (.len) [.s 9]⟩,
      ⟨some 11, none, .ex (.ibin .gtr) [.s 10, .k (.int .i64 64)]⟩])
    (.cond (.s 11)
     (.seq
      (.region [⟨some 2, none, .ex (.mov) [.k .nilp]⟩,
        ⟨some 3, none, .ex (.mov) [.k (.int .i64 3)]⟩])
      .ret)
     .skip))
   (.seq
    (.region [⟨some 12, none, .ex (.mov) [.s 0]⟩,
      ⟨some 13, none, .callf 31 [.s 12]⟩,
      ⟨some 14, none, .ex (.mkmap) []⟩,
      ⟨some 15, none, .ex (.build [.nils, .nilm] [(0, 1), (1, 1)]) [.s 13, .s 14]⟩,
      ⟨some 16, none, .ex (.box) [.s 15]⟩,
      ⟨some 4, none, .ex (.mov) [.s 16]⟩])
    (.seq
     (.seq
      (.region [⟨some 17, none, .ex (.mov) [.s 0]⟩,
        ⟨some 18, none, .ex (.len) [.s 17]⟩,
        ⟨some 19, none, .ex (.mov) [.k (.int .i64 0)]⟩])
      (.block 0
       (.loop
        (.seq
         (.region [⟨some 20, none, .ex (.ibin .lss) [.s 19, .s 18]⟩])
         (.seq
          (.cond (.s 20)
           .skip
           (.exit 0))
          (.seq
           (.block 1
            (.seq
             (.region [⟨some 21, none, .ex (.ia 6) [.s 17, .s 19]⟩,
               ⟨some 22, none, .ex (.lda 6) [.s 21]⟩,
               ⟨some 6, none, .ex (.alloc [(.int .i64 0), (.bool false), (.int .u8 0), (.bool false), (.bool false), (.int .i64 0)]) []⟩,
               ⟨none, none, .ex (.st 6) [.s 6, .s 22]⟩])
             (.seq
              (.seq
               (.draw (.op ⟨some 24, none, .ex (.mov) [.s 4]⟩ (.op ⟨some 25, none, .ex (.nilck) [.s 24]⟩ (.op ⟨some 26, none, .ex (.fa 1) [.s 25]⟩ (.op ⟨some 27, none, .ex (.ld 1) [.s 26]⟩ (.op ⟨some 28, none, .ex (.fa 0) [.s 6]⟩ (.op ⟨some 29, none, .ex (.ld 1) [.s 28]⟩ (.op ⟨some 30, none, .ex (.look 0 (.agg [(.int .i64 0), (.bool false), (.int .u8 0), (.bool false), (.bool false), (.int .i64 0)]) true) [.s 27, .s 29]⟩ (.op ⟨some 23, none, .ex (.mov) [.s 30]⟩ (.op ⟨some 31, none, .ex (.ext 0) [.s 23]⟩ (.op ⟨some 32, none, .ex (.ext 1) [.s 23]⟩ (.op ⟨some 7, none, .ex (.alloc [(.int .i64 0), (.bool false), (.int .u8 0), (.bool false), (.bool false), (.int .i64 0)]) []⟩ (.op ⟨none, none, .ex (.st 6) [.s 7, .s 31]⟩ (.op ⟨some 8, none, .ex (.mov) [.s 32]⟩ .done))))))))))))))
               (.seq
                (.region [⟨some 33, none, .ex (.mov) [.s 8]⟩,
                  ⟨some 34, none, .ex (.mov) [.s 33]⟩,
                  ⟨some 35, some (34, false), .ex (.lda 6) [.s 6]⟩,
                  ⟨some 36, some (34, false), .callf 32 [.s 35]⟩,
                  ⟨some 37, some (34, false), .ex (.bnot) [.s 36]⟩,
                  ⟨some 38, none, .ex (.pick) [.s 34, .k (.bool true), .s 37]⟩])
                (.cond (.s 38)
                 (.seq
                  (.region [⟨some 2, none, .ex (.mov) [.k .nilp]⟩,
                    ⟨some 3, none, .ex (.mov) [.k (.int .i64 3)]⟩])
                  .ret)
                 .skip)))
              (.draw (.op ⟨some 39, none, .ex (.mov) [.s 4]⟩ (.op ⟨some 40, none, .ex (.nilck) [.s 39]⟩ (.op ⟨some 41, none, .ex (.fa 1) [.s 40]⟩ (.op ⟨some 42, none, .ex (.ld 1) [.s 41]⟩ (.op ⟨some 43, none, .ex (.fa 0) [.s 6]⟩ (.op ⟨some 44, none, .ex (.ld 1) [.s 43]⟩ (.op ⟨some 45, none, .ex (.lda 6) [.s 6]⟩ (.op ⟨none, none, .ex (.mset 0) [.s 42, .s 44, .s 45]⟩ .done))))))))))))
           (.region [⟨some 46, none, .ex (.ibin .add) [.s 19, .k (.int .i64 1)]⟩,
             ⟨some 19, none, .ex (.mov) [.s 46]⟩])))))))
     (.seq
      (.region [⟨some 47, none, .ex (.mov) [.s 4]⟩,
        ⟨some 48, none, .ex (.nilck) [.s 47]⟩,
        ⟨some 49, none, .ex (.fa 0) [.s 48]⟩,
        ⟨some 50, none, .ex (.ld 1) [.s 49]⟩,
        ⟨some 51, none, .callf 33 [.s 50, .k (.fn (.func 34) [] [])]⟩])
      (.seq
       (.region [⟨some 52, none, .ex (.mov) [.s 4]⟩,
         ⟨some 2, none, .ex (.mov) [.s 52]⟩,
         ⟨some 3, none, .ex (.mov) [.k (.int .i64 0)]⟩])
       .ret)))))),
 [.t 2, .t 3]⟩
theorem c9 : compFn Go.Proofs.Tryz.prog 9 = some fn9 := by kernel_rfl

/-- rubric/history.New -/
def fn10 : AFn := ⟨16,
 (.seq
  (.region [⟨some 4, none, .ex (.mov) [.k .nilp]⟩,
    ⟨some 5, none, .ex (.mov) [.k (.int .i64 0)]⟩])
  (.seq
   (.seq
    (.region [⟨some 6, none, .ex (.mov) [.s 1]⟩,
      ⟨some 7, none, .ex (.ibin .lss) [.s 6, .k (.int .i64 0)]⟩,
      ⟨some 8, none, .ex (.mov) [.s 7]⟩,
      ⟨some 9, some (8, false), .ex (.mov) [.s 1]⟩,
      ⟨some 10, some (8, false), .ex (.ibin .gtr) [.s 9, .k (.int .i64 65536)]⟩,
      ⟨some 11, none, .ex (.pick) [.s 8, .k (.bool true), .s 10]⟩])
    (.cond (.s 11)
     (.seq
      (.region [⟨some 4, none, .ex (.mov) [.k .nilp]⟩,
        ⟨some 5, none, .ex (.mov) [.k (.int .i64 2)]⟩])
      .ret)
     .skip))
   (.seq
    (.region [⟨some 12, none, .ex (.mov) [.s 0]⟩,
      ⟨some 13, none, .ex (.mov) [.s 1]⟩,
      ⟨some 14, none, .ex (.build [.nilp, (.int .i64 0), (.bool false), .nils, .nils, (.bool false), .nils] [(0, 1), (1, 1), (2, 1)]) [.s 12, .s 13, .k (.bool true)]⟩,
      ⟨some 15, none, .ex (.box) [.s 14]⟩,
      ⟨some 4, none, .ex (.mov) [.s 15]⟩,
      ⟨some 5, none, .ex (.mov) [.k (.int .i64 0)]⟩])
    .ret))),
 [.t 4, .t 5]⟩
theorem c10 : compFn Go.Proofs.Tryz.prog 10 = some fn10 := by kernel_rfl

/-- rubric/rubriclaw27.known -/
def fn11 : AFn := ⟨137,
 (.seq
  (.region [⟨some 0, none, .ex (.mov) [.k (.bool false)]⟩])
  (.seq
   (.region [⟨some 22, none, .callf 9 [.k .nils]⟩,
     ⟨some 21, none, .ex (.mov) [.s 22]⟩,
     ⟨some 23, none, .ex (.ext 0) [.s 21]⟩,
     ⟨some 24, none, .ex (.ext 1) [.s 21]⟩,
     ⟨some 1, none, .ex (.mov) [.s 23]⟩,
     ⟨some 2, none, .ex (.mov) [.s 24]⟩])
   (.seq
    (.region [⟨some 26, none, .ex (.mov) [.s 1]⟩,
      ⟨some 27, none, .callf 10 [.s 26, .k (.int .i64 2)]⟩,
      ⟨some 25, none, .ex (.mov) [.s 27]⟩,
      ⟨some 28, none, .ex (.ext 0) [.s 25]⟩,
      ⟨some 29, none, .ex (.ext 1) [.s 25]⟩,
      ⟨some 3, none, .ex (.mov) [.s 28]⟩,
      ⟨some 4, none, .ex (.mov) [.s 29]⟩])
    (.seq
     (.seq
      (.region [⟨some 30, none, .ex (.mov) [.s 2]⟩,
        ⟨some 31, none, .ex (.ibin .neq) [.s 30, .k (.int .i64 0)]⟩,
        ⟨some 32, none, .ex (.mov) [.s 31]⟩,
        ⟨some 33, some (32, false), .ex (.mov) [.s 4]⟩,
        ⟨some 34, some (32, false), .ex (.ibin .neq) [.s 33, .k (.int .i64 0)]⟩,
        ⟨some 35, none, .ex (.pick) [.s 32, .k (.bool true), .s 34]⟩,
        ⟨some 36, none, .ex (.mov) [.s 35]⟩,
        ⟨some 37, some (36, false), .ex (.mov) [.s 3]⟩,
        ⟨some 38, some (36, false), .ex (.eqnil 0 false) [.s 37, .k .nilp]⟩,
        ⟨some 39, none, .ex (.pick) [.s 36, .k (.bool true), .s 38]⟩])
      (.cond (.s 39)
       (.seq
        (.region [⟨some 0, none, .ex (.mov) [.k (.bool false)]⟩])
        .ret)
       .skip))
     (.seq
      (.seq
       (.region [⟨some 40, none, .ex (.build [(.int .i32 0), (.int .i32 0), (.int .i32 0)] [(0, 1), (1, 1), (2, 1)]) [.k (.int .i32 97), .k (.int .i32 98), .k (.int .i32 99)]⟩,
         ⟨some 41, none, .ex (.mov) [.k (.int .i64 0)]⟩])
       (.block 0
        (.loop
         (.seq
          (.region [⟨some 42, none, .ex (.ibin .lss) [.s 41, .k (.int .i64 3)]⟩])
          (.seq
           (.cond (.s 42)
            .skip
            (.exit 0))
           (.seq
            (.block 1
             (.seq
              (.region [⟨some 43, none, .ex (.idxa 3) [.s 40, .s 41]⟩,
                ⟨some 6, none, .ex (.mov) [.s 43]⟩])
              (.seq
               (.region [⟨some 45, none, .ex (.mov) [.s 6]⟩,
                 ⟨some 46, none, .callf 12 [.s 45]⟩,
                 ⟨some 44, none, .ex (.mov) [.s 46]⟩,
                 ⟨some 47, none, .ex (.ext 0) [.s 44]⟩,
                 ⟨some 48, none, .ex (.ext 1) [.s 44]⟩,
                 ⟨some 7, none, .ex (.mov) [.s 47]⟩,
                 ⟨some 8, none, .ex (.mov) [.s 48]⟩])
               (.seq
                (.region [⟨some 49, none, .ex (.mov) [.s 3]⟩,
                  ⟨some 50, none, .ex (.mov) [.s 7]⟩,
                  ⟨some 51, none, .ex (.mov) [.s 8]⟩,
                  ⟨some 52, none, .callf 13 [.s 49, .s 50, .s 51]⟩,
                  ⟨some 53, none, .ex (.ibin .neq) [.s 52, .k (.int .i64 0)]⟩])
                (.cond (.s 53)
                 (.seq
                  (.region [⟨some 0, none, .ex (.mov) [.k (.bool false)]⟩])
                  .ret)
                 .skip)))))
            (.region [⟨some 54, none, .ex (.ibin .add) [.s 41, .k (.int .i64 1)]⟩,
              ⟨some 41, none, .ex (.mov) [.s 54]⟩])))))))
      (.seq
       (.region [⟨some 56, none, .ex (.mov) [.s 3]⟩,
         ⟨some 57, none, .callf 14 [.s 56]⟩,
         ⟨some 55, none, .ex (.mov) [.s 57]⟩,
         ⟨some 58, none, .ex (.ext 0) [.s 55]⟩,
         ⟨some 59, none, .ex (.ext 1) [.s 55]⟩,
         ⟨some 9, none, .ex (.mov) [.s 58]⟩,
         ⟨some 10, none, .ex (.mov) [.s 59]⟩])
       (.seq
        (.region [⟨some 61, none, .ex (.mov) [.s 3]⟩,
          ⟨some 62, none, .callf 14 [.s 61]⟩,
          ⟨some 60, none, .ex (.mov) [.s 62]⟩,
          ⟨some 63, none, .ex (.ext 0) [.s 60]⟩,
          ⟨some 64, none, .ex (.ext 1) [.s 60]⟩,
          ⟨some 11, none, .ex (.mov) [.s 63]⟩,
          ⟨some 12, none, .ex (.mov) [.s 64]⟩])
        (.seq
         (.region [⟨some 66, none, .ex (.mov) [.s 3]⟩,
           ⟨some 67, none, .callf 14 [.s 66]⟩,
           ⟨some 65, none, .ex (.mov) [.s 67]⟩,
           ⟨some 68, none, .ex (.ext 0) [.s 65]⟩,
           ⟨some 69, none, .ex (.ext 1) [.s 65]⟩,
           ⟨some 13, none, .ex (.mov) [.s 68]⟩,
           ⟨some 14, none, .ex (.mov) [.s 69]⟩])
         (.seq
          (.region [⟨some 71, none, .ex (.mov) [.s 3]⟩,
            ⟨some 72, none, .callf 16 [.s 71]⟩,
            ⟨some 70, none, .ex (.mov) [.s 72]⟩,
            ⟨some 73, none, .ex (.ext 0) [.s 70]⟩,
            ⟨some 74, none, .ex (.ext 1) [.s 70]⟩,
            ⟨some 15, none, .ex (.mov) [.s 73]⟩,
            ⟨some 16, none, .ex (.mov) [.s 74]⟩])
          (.seq
           (.region [⟨some 76, none, .callf 12 [.k (.int .i32 98)]⟩,
             ⟨some 75, none, .ex (.mov) [.s 76]⟩,
             ⟨some 77, none, .ex (.ext 0) [.s 75]⟩,
             ⟨some 78, none, .ex (.ext 1) [.s 75]⟩,
             ⟨some 17, none, .ex (.mov) [.s 77]⟩,
             ⟨some 18, none, .ex (.mov) [.s 78]⟩])
           (.seq
            (.region [⟨some 80, none, .ex (.mov) [.s 3]⟩,
              ⟨some 81, none, .callf 15 [.s 80]⟩,
              ⟨some 79, none, .ex (.mov) [.s 81]⟩,
              ⟨some 82, none, .ex (.ext 0) [.s 79]⟩,
              ⟨some 83, none, .ex (.ext 1) [.s 79]⟩,
              ⟨some 19, none, .ex (.mov) [.s 82]⟩,
              ⟨some 20, none, .ex (.mov) [.s 83]⟩])
            (.seq
             (.region [⟨some 84, none, .ex (.mov) [.s 10]⟩,
               ⟨some 85, none, .ex (.ibin .eql) [.s 84, .k (.int .i64 0)]⟩,
               ⟨some 86, none, .ex (.mov) [.s 85]⟩,
               ⟨some 87, some (86, true), .ex (.mov) [.s 12]⟩,
               ⟨some 88, some (86, true), .ex (.ibin .eql) [.s 87, .k (.int .i64 0)]⟩,
               ⟨some 89, none, .ex (.pick) [.s 86, .s 88, .k (.bool false)]⟩,
               ⟨some 90, none, .ex (.mov) [.s 89]⟩,
               ⟨some 91, some (90, true), .ex (.mov) [.s 14]⟩,
               ⟨some 92, some (90, true), .ex (.ibin .eql) [.s 91, .k (.int .i64 10)]⟩,
               ⟨some 93, none, .ex (.pick) [.s 90, .s 92, .k (.bool false)]⟩,
               ⟨some 94, none, .ex (.mov) [.s 93]⟩,
               ⟨some 95, some (94, true), .ex (.mov) [.s 16]⟩,
               ⟨some 96, some (94, true), .ex (.ibin .eql) [.s 95, .k (.int .i64 0)]⟩,
               ⟨some 97, none, .ex (.pick) [.s 94, .s 96, .k (.bool false)]⟩,
               ⟨some 98, none, .ex (.mov) [.s 97]⟩,
               ⟨some 99, some (98, true), .ex (.mov) [.s 9]⟩,
               ⟨some 100, some (98, true), .ex (.mov) [.s 18]⟩,
               ⟨some 101, some (98, true), .callf 17 [.s 99, .s 100]⟩,
               ⟨some 102, none, .ex (.pick) [.s 98, .s 101, .k (.bool false)]⟩,
               ⟨some 103, none, .ex (.mov) [.s 102]⟩,
               ⟨some 104, some (103, true), .ex (.mov) [.s 15]⟩,
               ⟨some 105, some (103, true), .ex (.mov) [.s 17]⟩,
               ⟨some 106, some (103, true), .callf 17 [.s 104, .s 105]⟩,
               ⟨some 107, none, .ex (.pick) [.s 103, .s 106, .k (.bool false)]⟩,
               ⟨some 108, none, .ex (.mov) [.s 107]⟩,
               ⟨some 109, some (108, true), .ex (.mov) [.s 19]⟩,
               ⟨some 110, some (108, true), .ex (.ibin .eql) [.s 109, .k (.int .i64 1)]⟩,
               ⟨some 111, none, .ex (.pick) [.s 108, .s 110, .k (.bool false)]⟩,
               ⟨some 112, none, .ex (.mov) [.s 111]⟩,
               ⟨some 113, some (112, true), .ex (.mov) [.s 20]⟩,
               ⟨some 114, some (112, true), .ex (.ibin .eql) [.s 113, .k (.int .i64 1)]⟩,
               ⟨some 115, none, .ex (.pick) [.s 112, .s 114, .k (.bool false)]⟩,
               ⟨some 116, none, .ex (.mov) [.s 115]⟩,
               ⟨some 117, some (116, true), .ex (.mov) [.s 3]⟩,
               ⟨some 118, some (116, true), .ex (.mov) [.s 17]⟩,
               ⟨some 119, some (116, true), .ex (.mov) [.s 18]⟩,
               ⟨some 120, some (116, true), .callf 13 [.s 117, .s 118, .s 119]⟩,
               ⟨some 121, some (116, true), .ex (.ibin .eql) [.s 120, .k (.int .i64 0)]⟩,
               ⟨some 122, none, .ex (.pick) [.s 116, .s 121, .k (.bool false)]⟩,
               ⟨some 123, none, .ex (.mov) [.s 122]⟩,
               ⟨some 124, some (123, true), .ex (.mov) [.s 3]⟩,
               ⟨some 125, some (123, true), .callf 22 [.s 124]⟩,
               ⟨some 126, some (123, true), .ex (.ibin .eql) [.s 125, .k (.int .i64 0)]⟩,
               ⟨some 127, none, .ex (.pick) [.s 123, .s 126, .k (.bool false)]⟩,
               ⟨some 128, none, .ex (.mov) [.s 127]⟩,
               ⟨some 129, some (128, true), .ex (.mov) [.s 3]⟩,
               ⟨some 130, some (128, true), .callf 22 [.s 129]⟩,
               ⟨some 131, some (128, true), .ex (.ibin .eql) [.s 130, .k (.int .i64 9)]⟩,
               ⟨some 132, none, .ex (.pick) [.s 128, .s 131, .k (.bool false)]⟩,
               ⟨some 133, none, .ex (.mov) [.s 132]⟩,
               ⟨some 134, some (133, true), .ex (.mov) [.s 3]⟩,
               ⟨some 135, some (133, true), .callf 28 [.s 134]⟩,
               ⟨some 136, none, .ex (.pick) [.s 133, .s 135, .k (.bool false)]⟩,
               ⟨some 0, none, .ex (.mov) [.s 136]⟩])
             .ret)))))))))))),
 [.t 0]⟩
theorem c11 : compFn Go.Proofs.Tryz.prog 11 = some fn11 := by kernel_rfl

/-- rubric/rubriclaw27.in -/
def fn12 : AFn := ⟨10,
 (.seq
  (.region [⟨some 2, none, .ex (.mov) [.k .nils]⟩,
    ⟨some 3, none, .ex (.mov) [.k .nils]⟩])
  (.seq
   (.region [⟨some 4, none, .ex (.mov) [.s 0]⟩,
     ⟨some 5, none, .ex (.bsl 1 1 [(.int .i32 0)] [(0, 1)]) [.s 4]⟩,
     ⟨some 6, none, .ex (.build [(.int .u8 0), (.int .i64 0), .nils, .nils, .nils] [(0, 1), (2, 1)]) [.k (.int .u8 2), .s 5]⟩,
     ⟨some 7, none, .ex (.bsl 5 1 [(.int .u8 0), (.int .i64 0), .nils, .nils, .nils] [(0, 5)]) [.s 6]⟩,
     ⟨some 8, none, .ex (.build [(.int .u8 0), (.int .i64 0), .nils, .nils, .nils] [(0, 1), (1, 1)]) [.k (.int .u8 3), .k (.int .i64 1)]⟩,
     ⟨some 9, none, .ex (.bsl 5 1 [(.int .u8 0), (.int .i64 0), .nils, .nils, .nils] [(0, 5)]) [.s 8]⟩,
     ⟨some 2, none, .ex (.mov) [.s 7]⟩,
     ⟨some 3, none, .ex (.mov) [.s 9]⟩])
   .ret)),
 [.t 2, .t 3]⟩
theorem c12 : compFn Go.Proofs.Tryz.prog 12 = some fn12 := by kernel_rfl

/-- (*rubric/history.History).Push -/
def fn13 : AFn := ⟨42,
 (.seq
  (.region [⟨some 6, none, .ex (.mov) [.k (.int .i64 0)]⟩])
  (.seq
   (.seq
    (.region [⟨some 10, none, .ex (.mov) [.s 0]⟩,
      ⟨some 11, none, .callf 36 [.s 10]⟩,
      ⟨some 12, none, .ex (.bnot) [.s 11]⟩])
    (.cond (.s 12)
     (.seq
      (.region [⟨some 6, none, .ex (.mov) [.k (.int .i64 1)]⟩])
      .ret)
     .skip))
   (.seq
    (.region [⟨some 13, none, .ex (.mov) [.s 1]⟩,
      ⟨some 14, none, .callf 37 [.s 13]⟩,
      ⟨some 15, none, .ex (.mov) [.s 2]⟩,
      ⟨some 16, none, .callf 37 [.s 15]⟩,
      ⟨some 17, none, .ex (.build [.nils, .nils] [(0, 1), (1, 1)]) [.s 14, .s 16]⟩,
      ⟨some 7, none, .ex (.alloc [.nils, .nils]) []⟩,
      ⟨none, none, .ex (.st 2) [.s 7, .s 17]⟩])
    (.seq
     (.seq
      (.region [⟨some 18, none, .ex (.mov) [.s 0]⟩,
        ⟨some 19, none, .ex (.nilck) [.s 18]⟩,
        ⟨some 20, none, .ex (.fa 5) [.s 19]⟩,
        ⟨some 21, none, .ex (.ld 1) [.s 20]⟩])
      (.cond (.s 21)
       (.seq
        (.region [⟨some 23, none, .ex (.mov) [.s 0]⟩,
          ⟨some 24, none, .ex (.lda 2) [.s 7]⟩,
          ⟨some 25, none, .callf 38 [.s 23, .s 24]⟩,
          ⟨some 22, none, .ex (.mov) [.s 25]⟩,
          ⟨some 26, none, .ex (.ext 0) [.s 22]⟩,
          ⟨some 27, none, .ex (.ext 1) [.s 22]⟩,
          ⟨some 8, none, .ex (.alloc [.nils, .nils]) []⟩,
          ⟨none, none, .ex (.st 2) [.s 8, .s 26]⟩,
          ⟨some 9, none, .ex (.mov) [.s 27]⟩])
        (.seq
         (.seq
          (.region [⟨some 28, none, .ex (.mov) [.s 9]⟩,
            ⟨some 29, none, .ex (.ibin .neq) [.s 28, .k (.int .i64 0)]⟩])
          (.cond (.s 29)
           (.seq
            (.region [⟨some 30, none, .ex (.mov) [.s 9]⟩,
              ⟨some 6, none, .ex (.mov) [.s 30]⟩])
            .ret)
           .skip))
         (.region [⟨some 31, none, .ex (.mov) [.s 0]⟩,
           ⟨some 32, none, .ex (.lda 2) [.s 8]⟩,
           ⟨some 33, none, .ex (.bsl 2 1 [.nils, .nils] [(0, 2)]) [.s 32]⟩,
           ⟨some 34, none, .ex (.nilck) [.s 31]⟩,
           ⟨some 35, none, .ex (.fa 6) [.s 34]⟩,
           ⟨none, none, .ex (.st 1) [.s 35, .s 33]⟩])))
       (.region [⟨some 36, none, .ex (.mov) [.s 0]⟩,
         ⟨some 37, none, .ex (.lda 2) [.s 7]⟩,
         ⟨some 38, none, .callf 39 [.s 36, .s 37]⟩])))
     (.seq
      (.region [⟨some 39, none, .ex (.mov) [.s 0]⟩,
        ⟨some 40, none, .ex (.nilck) [.s 39]⟩,
        ⟨some 41, none, .ex (.fa 4) [.s 40]⟩,
        ⟨none, none, .ex (.st 1) [.s 41, .k .nils]⟩])
      (.seq
       (.region [⟨some 6, none, .ex (.mov) [.k (.int .i64 0)]⟩])
       .ret)))))),
 [.t 6]⟩
theorem c13 : compFn Go.Proofs.Tryz.prog 13 = some fn13 := by kernel_rfl

/-- (*rubric/history.History).Undo -/
def fn14 : AFn := ⟨24,
 (.seq
  (.region [⟨some 2, none, .ex (.mov) [.k .nils]⟩,
    ⟨some 3, none, .ex (.mov) [.k (.int .i64 0)]⟩])
  (.seq
   (.seq
    (.region [⟨some 6, none, .ex (.mov) [.s 0]⟩,
      ⟨some 7, none, .callf 36 [.s 6]⟩,
      ⟨some 8, none, .ex (.bnot) [.s 7]⟩])
    (.cond (.s 8)
     (.seq
      (.region [⟨some 2, none, .ex (.mov) [.k .nils]⟩,
        ⟨some 3, none, .ex (.mov) [.k (.int .i64 1)]⟩])
      .ret)
     .skip))
   (.seq
    (.draw (.op ⟨some 10, none, .ex (.mov) [.s 0]⟩ (.op ⟨some 11, none, .ex (.mov) [.s 0]⟩ (.op ⟨some 12, none, .ex (.nilck) [.s 11]⟩ (.op ⟨some 13, none, .ex (.fa 3) [.s 12]⟩ (.op ⟨some 14, none, .ex (.mov) [.s 0]⟩ (.op ⟨some 15, none, .ex (.nilck) [.s 14]⟩ (.op ⟨some 16, none, .ex (.fa 4) [.s 15]⟩ (.fork (.op ⟨some 17, none, .callf 40 [.s 10, .s 13, .s 16]⟩ (.op ⟨some 9, none, .ex (.mov) [.s 17]⟩ (.op ⟨some 18, none, .ex (.ext 0) [.s 9]⟩ (.op ⟨some 19, none, .ex (.ext 1) [.s 9]⟩ (.op ⟨some 4, none, .ex (.alloc [.nils, .nils]) []⟩ (.op ⟨none, none, .ex (.st 2) [.s 4, .s 18]⟩ (.op ⟨some 5, none, .ex (.mov) [.s 19]⟩ .done))))))) (.op ⟨some 4, none, .ex (.alloc [.nils, .nils]) []⟩ (.op ⟨some 17, none, .callf 40 [.s 10, .s 13, .s 16]⟩ (.op ⟨some 9, none, .ex (.mov) [.s 17]⟩ (.op ⟨some 18, none, .ex (.ext 0) [.s 9]⟩ (.op ⟨some 19, none, .ex (.ext 1) [.s 9]⟩ (.op ⟨none, none, .ex (.st 2) [.s 4, .s 18]⟩ (.op ⟨some 5, none, .ex (.mov) [.s 19]⟩ .done))))))))))))))))
    (.seq
     (.region [⟨some 20, none, .ex (.fa 1) [.s 4]⟩,
       ⟨some 21, none, .ex (.ld 1) [.s 20]⟩,
       ⟨some 22, none, .callf 37 [.s 21]⟩,
       ⟨some 23, none, .ex (.mov) [.s 5]⟩,
       ⟨some 2, none, .ex (.mov) [.s 22]⟩,
       ⟨some 3, none, .ex (.mov) [.s 23]⟩])
     .ret)))),
 [.t 2, .t 3]⟩
theorem c14 : compFn Go.Proofs.Tryz.prog 14 = some fn14 := by kernel_rfl

/-- (*rubric/history.History).Depths -/
def fn15 : AFn := ⟨17,
 (.seq
  (.region [⟨some 2, none, .ex (.mov) [.k (.int .i64 0)]⟩,
    ⟨some 3, none, .ex (.mov) [.k (.int .i64 0)]⟩])
  (.seq
   (.seq
    (.region [⟨some 4, none, .ex (.mov) [.s 0]⟩,
      ⟨some 5, none, .callf 36 [.s 4]⟩,
      ⟨some 6, none, .ex (.bnot) [.s 5]⟩])
    (.cond (.s 6)
     (.seq
      (.region [⟨some 2, none, .ex (.mov) [.k (.int .i64 0)]⟩,
        ⟨some 3, none, .ex (.mov) [.k (.int .i64 0)]⟩])
      .ret)
     .skip))
   (.seq
    (.draw (.op ⟨some 7, none, .ex (.mov) [.s 0]⟩ (.op ⟨some 8, none, .ex (.nilck) [.s 7]⟩ (.op ⟨some 9, none, .ex (.fa 3) [.s 8]⟩ (.op ⟨some 10, none, .ex (.ld 1) [.s 9]⟩ (.op ⟨some 11, none, .ex (.len) [.s 10]⟩ (.op ⟨some 12, none, .ex (.mov) [.s 0]⟩ (.op ⟨some 13, none, .ex (.nilck) [.s 12]⟩ (.op ⟨some 14, none, .ex (.fa 4) [.s 13]⟩ (.op ⟨some 15, none, .ex (.ld 1) [.s 14]⟩ (.op ⟨some 16, none, .ex (.len) [.s 15]⟩ (.op ⟨some 2, none, .ex (.mov) [.s 11]⟩ (.op ⟨some 3, none, .ex (.mov) [.s 16]⟩ .done)))))))))))))
    .ret))),
 [.t 2, .t 3]⟩
theorem c15 : compFn Go.Proofs.Tryz.prog 15 = some fn15 := by kernel_rfl

/-- (*rubric/history.History).Redo -/
def fn16 : AFn := ⟨24,
 (.seq
  (.region [⟨some 2, none, .ex (.mov) [.k .nils]⟩,
    ⟨some 3, none, .ex (.mov) [.k (.int .i64 0)]⟩])
  (.seq
   (.seq
    (.region [⟨some 6, none, .ex (.mov) [.s 0]⟩,
      ⟨some 7, none, .callf 36 [.s 6]⟩,
      ⟨some 8, none, .ex (.bnot) [.s 7]⟩])
    (.cond (.s 8)
     (.seq
      (.region [⟨some 2, none, .ex (.mov) [.k .nils]⟩,
        ⟨some 3, none, .ex (.mov) [.k (.int .i64 1)]⟩])
      .ret)
     .skip))
   (.seq
    (.draw (.op ⟨some 10, none, .ex (.mov) [.s 0]⟩ (.op ⟨some 11, none, .ex (.mov) [.s 0]⟩ (.op ⟨some 12, none, .ex (.nilck) [.s 11]⟩ (.op ⟨some 13, none, .ex (.fa 4) [.s 12]⟩ (.op ⟨some 14, none, .ex (.mov) [.s 0]⟩ (.op ⟨some 15, none, .ex (.nilck) [.s 14]⟩ (.op ⟨some 16, none, .ex (.fa 3) [.s 15]⟩ (.fork (.op ⟨some 17, none, .callf 40 [.s 10, .s 13, .s 16]⟩ (.op ⟨some 9, none, .ex (.mov) [.s 17]⟩ (.op ⟨some 18, none, .ex (.ext 0) [.s 9]⟩ (.op ⟨some 19, none, .ex (.ext 1) [.s 9]⟩ (.op ⟨some 4, none, .ex (.alloc [.nils, .nils]) []⟩ (.op ⟨none, none, .ex (.st 2) [.s 4, .s 18]⟩ (.op ⟨some 5, none, .ex (.mov) [.s 19]⟩ .done))))))) (.op ⟨some 4, none, .ex (.alloc [.nils, .nils]) []⟩ (.op ⟨some 17, none, .callf 40 [.s 10, .s 13, .s 16]⟩ (.op ⟨some 9, none, .ex (.mov) [.s 17]⟩ (.op ⟨some 18, none, .ex (.ext 0) [.s 9]⟩ (.op ⟨some 19, none, .ex (.ext 1) [.s 9]⟩ (.op ⟨none, none, .ex (.st 2) [.s 4, .s 18]⟩ (.op ⟨some 5, none, .ex (.mov) [.s 19]⟩ .done))))))))))))))))
    (.seq
     (.region [⟨some 20, none, .ex (.fa 0) [.s 4]⟩,
       ⟨some 21, none, .ex (.ld 1) [.s 20]⟩,
       ⟨some 22, none, .callf 37 [.s 21]⟩,
       ⟨some 23, none, .ex (.mov) [.s 5]⟩,
       ⟨some 2, none, .ex (.mov) [.s 22]⟩,
       ⟨some 3, none, .ex (.mov) [.s 23]⟩])
     .ret)))),
 [.t 2, .t 3]⟩
theorem c16 : compFn Go.Proofs.Tryz.prog 16 = some fn16 := by kernel_rfl

/-- rubric/rubricref15.Same -/
def fn17 : AFn := ⟨63,
 (.seq
  (.region [⟨some 4, none, .ex (.mov) [.k (.bool false)]⟩])
  (.seq
   (.seq
    (.region [⟨some 8, none, .ex (.mov) [.s 0]⟩,
      ⟨some 9, none, .ex (.len) [.s 8]⟩,
      ⟨some 10, none, .ex (.mov) [.s 1]⟩,
      ⟨some 11, none, .ex (.len) [.s 10]⟩,
      ⟨some 12, none, .ex (.ibin .neq) [.s 9, .s 11]⟩])
    (.cond (.s 12)
     (.seq
      (.region [⟨some 4, none, .ex (.mov) [.k (.bool false)]⟩])
      .ret)
     .skip))
   (.seq
    (.seq
     (.region [⟨some 5, none, .ex (.mov) [.k (.int .i64 0)]⟩])
     (.block 0
      (.loop
       (.seq
        (.seq
         (.region [⟨some 13, none, .ex (.mov) [.s 5]⟩,
           ⟨some 14, none, .ex (.mov) [.s 0]⟩,
           ⟨some 15, none, .ex (.len) [.s 14]⟩,
           ⟨some 16, none, .ex (.ibin .lss) [.s 13, .s 15]⟩])
         (.cond (.s 16)
          .skip
          (.exit 0)))
        (.seq
         (.block 1
          (.seq
           (.draw (.op ⟨some 19, none, .ex (.mov) [.s 0]⟩ (.op ⟨some 20, none, .ex (.mov) [.s 5]⟩ (.op ⟨some 21, none, .ex (.ia 5) [.s 19, .s 20]⟩ (.op ⟨some 22, none, .ex (.lda 5) [.s 21]⟩ (.op ⟨some 23, none, .ex (.mov) [.s 1]⟩ (.op ⟨some 24, none, .ex (.mov) [.s 5]⟩ (.op ⟨some 25, none, .ex (.ia 5) [.s 23, .s 24]⟩ (.fork (.op ⟨some 26, none, .ex (.lda 5) [.s 25]⟩ (.fork (.op ⟨some 6, none, .ex (.alloc [(.int .u8 0), (.int .i64 0), .nils, .nils, .nils]) []⟩ (.op ⟨some 7, none, .ex (.alloc [(.int .u8 0), (.int .i64 0), .nils, .nils, .nils]) []⟩ (.op ⟨none, none, .ex (.st 5) [.s 6, .s 22]⟩ (.op ⟨none, none, .ex (.st 5) [.s 7, .s 26]⟩ .done)))) (.op ⟨some 7, none, .ex (.alloc [(.int .u8 0), (.int .i64 0), .nils, .nils, .nils]) []⟩ (.op ⟨some 6, none, .ex (.alloc [(.int .u8 0), (.int .i64 0), .nils, .nils, .nils]) []⟩ (.op ⟨none, none, .ex (.st 5) [.s 6, .s 22]⟩ (.op ⟨none, none, .ex (.st 5) [.s 7, .s 26]⟩ .done)))))) (.fork (.op ⟨some 6, none, .ex (.alloc [(.int .u8 0), (.int .i64 0), .nils, .nils, .nils]) []⟩ (.fork (.op ⟨some 26, none, .ex (.lda 5) [.s 25]⟩ (.op ⟨some 7, none, .ex (.alloc [(.int .u8 0), (.int .i64 0), .nils, .nils, .nils]) []⟩ (.op ⟨none, none, .ex (.st 5) [.s 6, .s 22]⟩ (.op ⟨none, none, .ex (.st 5) [.s 7, .s 26]⟩ .done)))) (.op ⟨some 7, none, .ex (.alloc [(.int .u8 0), (.int .i64 0), .nils, .nils, .nils]) []⟩ (.fork (.op ⟨some 26, none, .ex (.lda 5) [.s 25]⟩ (.op ⟨none, none, .ex (.st 5) [.s 6, .s 22]⟩ (.op ⟨none, none, .ex (.st 5) [.s 7, .s 26]⟩ .done))) (.op ⟨none, none, .ex (.st 5) [.s 6, .s 22]⟩ (.op ⟨some 26, none, .ex (.lda 5) [.s 25]⟩ (.op ⟨none, none, .ex (.st 5) [.s 7, .s 26]⟩ .done))))))) (.op ⟨some 7, none, .ex (.alloc [(.int .u8 0), (.int .i64 0), .nils, .nils, .nils]) []⟩ (.fork (.op ⟨some 26, none, .ex (.lda 5) [.s 25]⟩ (.op ⟨some 6, none, .ex (.alloc [(.int .u8 0), (.int .i64 0), .nils, .nils, .nils]) []⟩ (.op ⟨none, none, .ex (.st 5) [.s 6, .s 22]⟩ (.op ⟨none, none, .ex (.st 5) [.s 7, .s 26]⟩ .done)))) (.op ⟨some 6, none, .ex (.alloc [(.int .u8 0), (.int .i64 0), .nils, .nils, .nils]) []⟩ (.fork (.op ⟨some 26, none, .ex (.lda 5) [.s 25]⟩ (.op ⟨none, none, .ex (.st 5) [.s 6, .s 22]⟩ (.op ⟨none, none, .ex (.st 5) [.s 7, .s 26]⟩ .done))) (.op ⟨none, none, .ex (.st 5) [.s 6, .s 22]⟩ (.op ⟨some 26, none, .ex (.lda 5) [.s 25]⟩ (.op ⟨none, none, .ex (.st 5) [.s 7, .s 26]⟩ .done)))))))))))))))))
           (.seq
            (.region [⟨some 27, none, .ex (.fa 0) [.s 6]⟩,
              ⟨some 28, none, .ex (.ld 1) [.s 27]⟩,
              ⟨some 29, none, .ex (.fa 0) [.s 7]⟩,
              ⟨some 30, none, .ex (.ld 1) [.s 29]⟩,
              ⟨some 31, none, .ex (.ibin .neq) [.s 28, .s 30]⟩,
              ⟨some 32, none, .ex (.mov) [.s 31]⟩,
              ⟨some 33, some (32, false), .ex (.fa 1) [.s 6]⟩,
              ⟨some 34, some (32, false), .ex (.ld 1) [.s 33]⟩,
              ⟨some 35, some (32, false), .ex (.fa 1) [.s 7]⟩,
              ⟨some 36, some (32, false), .ex (.ld 1) [.s 35]⟩,
              ⟨some 37, some (32, false), .ex (.ibin .neq) [.s 34, .s 36]⟩,
              ⟨some 38, none, .ex (.pick) [.s 32, .k (.bool true), .s 37]⟩,
              ⟨some 39, none, .ex (.mov) [.s 38]⟩,
              ⟨some 40, some (39, false), .ex (.fa 2) [.s 6]⟩,
              ⟨some 41, some (39, false), .ex (.ld 1) [.s 40]⟩,
              ⟨some 42, some (39, false), .ex (.fa 2) [.s 7]⟩,
              ⟨some 43, some (39, false), .ex (.ld 1) [.s 42]⟩,
              ⟨some 44, some (39, false), .callf 41 [.s 41, .s 43]⟩,
              ⟨some 45, some (39, false), .ex (.bnot) [.s 44]⟩,
              ⟨some 46, none, .ex (.pick) [.s 39, .k (.bool true), .s 45]⟩,
              ⟨some 47, none, .ex (.mov) [.s 46]⟩,
              ⟨some 48, some (47, false), .ex (.fa 3) [.s 6]⟩,
              ⟨some 49, some (47, false), .ex (.ld 1) [.s 48]⟩,
              ⟨some 50, some (47, false), .ex (.fa 3) [.s 7]⟩,
              ⟨some 51, some (47, false), .ex (.ld 1) [.s 50]⟩,
              ⟨some 52, some (47, false), .callf 42 [.s 49, .s 51]⟩,
              ⟨some 53, some (47, false), .ex (.bnot) [.s 52]⟩,
              ⟨some 54, none, .ex (.pick) [.s 47, .k (.bool true), .s 53]⟩,
              ⟨some 55, none, .ex (.mov) [.s 54]⟩,
              ⟨some 56, some (55, false), .ex (.fa 4) [.s 6]⟩,
              ⟨some 57, some (55, false), .ex (.ld 1) [.s 56]⟩,
              ⟨some 58, some (55, false), .ex (.fa 4) [.s 7]⟩,
              ⟨some 59, some (55, false), .ex (.ld 1) [.s 58]⟩,
              ⟨some 60, some (55, false), .callf 43 [.s 57, .s 59]⟩,
              ⟨some 61, some (55, false), .ex (.bnot) [.s 60]⟩,
              ⟨some 62, none, .ex (.pick) [.s 55, .k (.bool true), .s 61]⟩])
            (.cond (.s 62)
             (.seq
              (.region [⟨some 4, none, .ex (.mov) [.k (.bool false)]⟩])
              .ret)
             .skip))))
         (.region [⟨some 17, none, .ex (.mov) [.s 5]⟩,
           ⟨some 18, none, .ex (.ibin .add) [.s 17, .k (.int .i64 1)]⟩,
           ⟨some 5, none, .ex (.mov) [.s 18]⟩]))))))
    (.seq
     (.region [⟨some 4, none, .ex (.mov) [.k (.bool true)]⟩])
     .ret)))),
 [.t 4]⟩
theorem c17 : compFn Go.Proofs.Tryz.prog 17 = some fn17 := by kernel_rfl

/-- (*rubric/history.History).Begin -/
def fn22 : AFn := ⟨18,
 (.seq
  (.region [⟨some 2, none, .ex (.mov) [.k (.int .i64 0)]⟩])
  (.seq
   (.block 0
    (.seq
     (.region [⟨some 4, none, .ex (.mov) [.s 0]⟩,
       ⟨some 5, none, .callf 36 [.s 4]⟩,
       ⟨some 6, none, .ex (.bnot) [.s 5]⟩,
       ⟨some 3, none, .ex (.mov) [.s 6]⟩])
     (.cond (.s 3)
      (.seq
       (.region [⟨some 2, none, .ex (.mov) [.k (.int .i64 1)]⟩])
       .ret)
      (.seq
       (.region [⟨some 8, none, .ex (.mov) [.s 0]⟩,
         ⟨some 9, none, .ex (.nilck) [.s 8]⟩,
         ⟨some 10, none, .ex (.fa 5) [.s 9]⟩,
         ⟨some 11, none, .ex (.ld 1) [.s 10]⟩,
         ⟨some 7, none, .ex (.mov) [.s 11]⟩])
       (.cond (.s 7)
        (.seq
         (.region [⟨some 2, none, .ex (.mov) [.k (.int .i64 9)]⟩])
         .ret)
        .skip)))))
   (.seq
    (.region [⟨some 12, none, .ex (.mov) [.s 0]⟩,
      ⟨some 13, none, .ex (.mov) [.s 0]⟩,
      ⟨some 14, none, .ex (.nilck) [.s 12]⟩,
      ⟨some 15, none, .ex (.fa 5) [.s 14]⟩,
      ⟨none, none, .ex (.st 1) [.s 15, .k (.bool true)]⟩,
      ⟨some 16, none, .ex (.nilck) [.s 13]⟩,
      ⟨some 17, none, .ex (.fa 6) [.s 16]⟩,
      ⟨none, none, .ex (.st 1) [.s 17, .k .nils]⟩])
    (.seq
     (.region [⟨some 2, none, .ex (.mov) [.k (.int .i64 0)]⟩])
     .ret)))),
 [.t 2]⟩
theorem c22 : compFn Go.Proofs.Tryz.prog 22 = some fn22 := by kernel_rfl

/-- (*rubric/history.History).End -/
def fn24 : AFn := ⟨34,
 (.seq
  (.region [⟨some 2, none, .ex (.mov) [.k (.int .i64 0)]⟩])
  (.seq
   (.block 0
    (.seq
     (.region [⟨some 6, none, .ex (.mov) [.s 0]⟩,
       ⟨some 7, none, .callf 36 [.s 6]⟩,
       ⟨some 8, none, .ex (.bnot) [.s 7]⟩,
       ⟨some 5, none, .ex (.mov) [.s 8]⟩])
     (.cond (.s 5)
      (.seq
       (.region [⟨some 2, none, .ex (.mov) [.k (.int .i64 1)]⟩])
       .ret)
      (.seq
       (.region [⟨some 10, none, .ex (.mov) [.s 0]⟩,
         ⟨some 11, none, .ex (.nilck) [.s 10]⟩,
         ⟨some 12, none, .ex (.fa 5) [.s 11]⟩,
         ⟨some 13, none, .ex (.ld 1) [.s 12]⟩,
         ⟨some 14, none, .ex (.bnot) [.s 13]⟩,
         ⟨some 9, none, .ex (.mov) [.s 14]⟩])
       (.cond (.s 9)
        (.seq
         (.region [⟨some 2, none, .ex (.mov) [.k (.int .i64 9)]⟩])
         .ret)
        .skip)))))
   (.seq
    (.seq
     (.region [⟨some 15, none, .ex (.mov) [.s 0]⟩,
       ⟨some 16, none, .ex (.nilck) [.s 15]⟩,
       ⟨some 17, none, .ex (.fa 6) [.s 16]⟩,
       ⟨some 18, none, .ex (.ld 1) [.s 17]⟩,
       ⟨some 19, none, .ex (.len) [.s 18]⟩,
       ⟨some 20, none, .ex (.mov) [.k (.int .i64 0)]⟩])
     (.block 1
      (.loop
       (.seq
        (.region [⟨some 21, none, .ex (.ibin .lss) [.s 20, .s 19]⟩])
        (.seq
         (.cond (.s 21)
          .skip
          (.exit 1))
         (.seq
          (.block 2
           (.seq
            (.region [⟨some 22, none, .ex (.ia 2) [.s 18, .s 20]⟩,
              ⟨some 23, none, .ex (.lda 2) [.s 22]⟩,
              ⟨some 4, none, .ex (.alloc [.nils, .nils]) []⟩,
              ⟨none, none, .ex (.st 2) [.s 4, .s 23]⟩])
            (.region [⟨some 24, none, .ex (.mov) [.s 0]⟩,
              ⟨some 25, none, .ex (.lda 2) [.s 4]⟩,
              ⟨some 26, none, .callf 39 [.s 24, .s 25]⟩])))
          (.region [⟨some 27, none, .ex (.ibin .add) [.s 20, .k (.int .i64 1)]⟩,
            ⟨some 20, none, .ex (.mov) [.s 27]⟩])))))))
    (.seq
     (.region [⟨some 28, none, .ex (.mov) [.s 0]⟩,
       ⟨some 29, none, .ex (.mov) [.s 0]⟩,
       ⟨some 30, none, .ex (.nilck) [.s 28]⟩,
       ⟨some 31, none, .ex (.fa 5) [.s 30]⟩,
       ⟨none, none, .ex (.st 1) [.s 31, .k (.bool false)]⟩,
       ⟨some 32, none, .ex (.nilck) [.s 29]⟩,
       ⟨some 33, none, .ex (.fa 6) [.s 32]⟩,
       ⟨none, none, .ex (.st 1) [.s 33, .k .nils]⟩])
     (.seq
      (.region [⟨some 2, none, .ex (.mov) [.k (.int .i64 0)]⟩])
      .ret))))),
 [.t 2]⟩
theorem c24 : compFn Go.Proofs.Tryz.prog 24 = some fn24 := by kernel_rfl

/-- (*rubric/history.History).Open -/
def fn28 : AFn := ⟨11,
 (.seq
  (.region [⟨some 2, none, .ex (.mov) [.k (.bool false)]⟩])
  (.seq
   (.region [⟨some 3, none, .ex (.mov) [.s 0]⟩,
     ⟨some 4, none, .callf 36 [.s 3]⟩,
     ⟨some 5, none, .ex (.mov) [.s 4]⟩,
     ⟨some 6, some (5, true), .ex (.mov) [.s 0]⟩,
     ⟨some 7, some (5, true), .ex (.nilck) [.s 6]⟩,
     ⟨some 8, some (5, true), .ex (.fa 5) [.s 7]⟩,
     ⟨some 9, some (5, true), .ex (.ld 1) [.s 8]⟩,
     ⟨some 10, none, .ex (.pick) [.s 5, .s 9, .k (.bool false)]⟩,
     ⟨some 2, none, .ex (.mov) [.s 10]⟩])
   .ret)),
 [.t 2]⟩
theorem c28 : compFn Go.Proofs.Tryz.prog 28 = some fn28 := by kernel_rfl

/-- rubric/rubricref15.Size -/
def fn29 : AFn := ⟨83,
 (.seq
  (.region [⟨some 2, none, .ex (.mov) [.k (.int .i64 0)]⟩])
  (.seq
   (.region [⟨some 3, none, .ex (.mov) [.k (.int .i64 0)]⟩])
   (.seq
    (.seq
     (.region [⟨some 4, none, .ex (.mov) [.k (.int .i64 0)]⟩])
     (.block 0
      (.loop
       (.seq
        (.seq
         (.region [⟨some 7, none, .ex (.mov) [.s 4]⟩,
           ⟨some 8, none, .ex (.mov) [.s 0]⟩,
           ⟨some 9, none, .ex (.len) [.s 8]⟩,
           ⟨some 10, none, .ex (.ibin .lss) [.s 7, .s 9]⟩])
         (.cond (.s 10)
          .skip
          (.exit 0)))
        (.seq
         (.block 1
          (.seq
           (.draw (.op ⟨some 13, none, .ex (.mov) [.s 3]⟩ (.op ⟨some 14, none, .ex (.ibin .add) [.s 13, .k (.int .i64 1)]⟩ (.op ⟨some 15, none, .ex (.mov) [.s 0]⟩ (.op ⟨some 16, none, .ex (.mov) [.s 4]⟩ (.op ⟨some 17, none, .ex (.ia 5) [.s 15, .s 16]⟩ (.op ⟨some 18, none, .ex (.fa 2) [.s 17]⟩ (.op ⟨some 19, none, .ex (.ld 1) [.s 18]⟩ (.op ⟨some 20, none, .ex (.len) [.s 19]⟩ (.op ⟨some 21, none, .ex (.ibin .add) [.s 14, .s 20]⟩ (.op ⟨some 22, none, .ex (.mov) [.s 0]⟩ (.op ⟨some 23, none, .ex (.mov) [.s 4]⟩ (.op ⟨some 24, none, .ex (.ia 5) [.s 22, .s 23]⟩ (.op ⟨some 25, none, .ex (.fa 3) [.s 24]⟩ (.op ⟨some 26, none, .ex (.ld 1) [.s 25]⟩ (.op ⟨some 27, none, .ex (.len) [.s 26]⟩ (.op ⟨some 28, none, .ex (.ibin .add) [.s 21, .s 27]⟩ (.op ⟨some 29, none, .ex (.mov) [.s 0]⟩ (.op ⟨some 30, none, .ex (.mov) [.s 4]⟩ (.op ⟨some 31, none, .ex (.ia 5) [.s 29, .s 30]⟩ (.op ⟨some 32, none, .ex (.fa 4) [.s 31]⟩ (.op ⟨some 33, none, .ex (.ld 1) [.s 32]⟩ (.op ⟨some 34, none, .ex (.len) [.s 33]⟩ (.op ⟨some 35, none, .ex (.ibin .add) [.s 28, .s 34]⟩ (.op ⟨some 3, none, .ex (.mov) [.s 35]⟩ .done)))))))))))))))))))))))))
           (.seq
            (.seq
             (.region [⟨some 5, none, .ex (.mov) [.k (.int .i64 0)]⟩])
             (.block 2
              (.loop
               (.seq
                (.seq
                 (.region [⟨some 36, none, .ex (.mov) [.s 5]⟩,
                   ⟨some 37, none, .ex (.mov) [.s 0]⟩,
                   ⟨some 38, none, .ex (.mov) [.s 4]⟩,
                   ⟨some 39, none, .ex (.ia 5) [.s 37, .s 38]⟩,
                   ⟨some 40, none, .ex (.fa 3) [.s 39]⟩,
                   ⟨some 41, none, .ex (.ld 1) [.s 40]⟩,
                   ⟨some 42, none, .ex (.len) [.s 41]⟩,
                   ⟨some 43, none, .ex (.ibin .lss) [.s 36, .s 42]⟩])
                 (.cond (.s 43)
                  .skip
                  (.exit 2)))
                (.seq
                 (.block 3
                  (.region [⟨some 46, none, .ex (.mov) [.s 3]⟩,
                    ⟨some 47, none, .ex (.mov) [.s 0]⟩,
                    ⟨some 48, none, .ex (.mov) [.s 4]⟩,
                    ⟨some 49, none, .ex (.ia 5) [.s 47, .s 48]⟩,
                    ⟨some 50, none, .ex (.fa 3) [.s 49]⟩,
                    ⟨some 51, none, .ex (.ld 1) [.s 50]⟩,
                    ⟨some 52, none, .ex (.mov) [.s 5]⟩,
                    ⟨some 53, none, .ex (.ia 5) [.s 51, .s 52]⟩,
                    ⟨some 54, none, .ex (.fa 1) [.s 53]⟩,
                    ⟨some 55, none, .ex (.fa 3) [.s 54]⟩,
                    ⟨some 56, none, .ex (.ld 1) [.s 55]⟩,
                    ⟨some 57, none, .ex (.slen) [.s 56]⟩,
                    ⟨some 58, none, .ex (.ibin .add) [.s 46, .s 57]⟩,
                    ⟨some 3, none, .ex (.mov) [.s 58]⟩]))
                 (.region [⟨some 44, none, .ex (.mov) [.s 5]⟩,
                   ⟨some 45, none, .ex (.ibin .add) [.s 44, .k (.int .i64 1)]⟩,
                   ⟨some 5, none, .ex (.mov) [.s 45]⟩]))))))
            (.seq
             (.region [⟨some 6, none, .ex (.mov) [.k (.int .i64 0)]⟩])
             (.block 4
              (.loop
               (.seq
                (.seq
                 (.region [⟨some 59, none, .ex (.mov) [.s 6]⟩,
                   ⟨some 60, none, .ex (.mov) [.s 0]⟩,
                   ⟨some 61, none, .ex (.mov) [.s 4]⟩,
                   ⟨some 62, none, .ex (.ia 5) [.s 60, .s 61]⟩,
                   ⟨some 63, none, .ex (.fa 4) [.s 62]⟩,
                   ⟨some 64, none, .ex (.ld 1) [.s 63]⟩,
                   ⟨some 65, none, .ex (.len) [.s 64]⟩,
                   ⟨some 66, none, .ex (.ibin .lss) [.s 59, .s 65]⟩])
                 (.cond (.s 66)
                  .skip
                  (.exit 4)))
                (.seq
                 (.block 5
                  (.region [⟨some 69, none, .ex (.mov) [.s 3]⟩,
                    ⟨some 70, none, .ex (.mov) [.s 0]⟩,
                    ⟨some 71, none, .ex (.mov) [.s 4]⟩,
                    ⟨some 72, none, .ex (.ia 5) [.s 70, .s 71]⟩,
                    ⟨some 73, none, .ex (.fa 4) [.s 72]⟩,
                    ⟨some 74, none, .ex (.ld 1) [.s 73]⟩,
                    ⟨some 75, none, .ex (.mov) [.s 6]⟩,
                    ⟨some 76, none, .ex (.ia 6) [.s 74, .s 75]⟩,
                    ⟨some 77, none, .ex (.fa 2) [.s 76]⟩,
                    ⟨some 78, none, .ex (.fa 3) [.s 77]⟩,
                    ⟨some 79, none, .ex (.ld 1) [.s 78]⟩,
                    ⟨some 80, none, .ex (.slen) [.s 79]⟩,
                    ⟨some 81, none, .ex (.ibin .add) [.s 69, .s 80]⟩,
                    ⟨some 3, none, .ex (.mov) [.s 81]⟩]))
                 (.region [⟨some 67, none, .ex (.mov) [.s 6]⟩,
                   ⟨some 68, none, .ex (.ibin .add) [.s 67, .k (.int .i64 1)]⟩,
                   ⟨some 6, none, .ex (.mov) [.s 68]⟩])))))))))
         (.region [⟨some 11, none, .ex (.mov) [.s 4]⟩,
           ⟨some 12, none, .ex (.ibin .add) [.s 11, .k (.int .i64 1)]⟩,
           ⟨some 4, none, .ex (.mov) [.s 12]⟩]))))))
    (.seq
     (.region [⟨some 82, none, .ex (.mov) [.s 3]⟩,
       ⟨some 2, none, .ex (.mov) [.s 82]⟩])
     .ret)))),
 [.t 2]⟩
theorem c29 : compFn Go.Proofs.Tryz.prog 29 = some fn29 := by kernel_rfl

/-- slices.Clone[[]rubric/api.Key,rubric/api.Key] -/
def fn31 : AFn := ⟨8,
 (.seq
  (.region [⟨some 2, none, .ex (.mov) [.k .nils]⟩])
  (.seq
   (.seq
    (.region [⟨some 3, none, .ex (.mov) [.s 0]⟩,
      ⟨some 4, none, .ex (.eqnil 1 false) [.s 3, .k .nils]⟩])
    (.cond (.s 4)
     (.seq
      (.region [⟨some 2, none, .ex (.mov) [.k .nils]⟩])
      .ret)
     .skip))
   (.seq
    (.region [⟨some 5, none, .ex (.bsl 6 0 [] []) []⟩,
      ⟨some 6, none, .ex (.mov) [.s 0]⟩,
      ⟨some 7, none, .ex (.app 6 24) [.s 5, .s 6]⟩,
      ⟨some 2, none, .ex (.mov) [.s 7]⟩])
    .ret))),
 [.t 2]⟩
theorem c31 : compFn Go.Proofs.Tryz.prog 31 = some fn31 := by kernel_rfl

/-- rubric/schema.may -/
def fn32 : AFn := ⟨41,
 (.seq
  (.region [⟨some 1, none, .ex (.box) [.s 0]⟩,
    ⟨some 2, none, .ex (.mov) [.k (.bool false)]⟩])
  (.seq
   (.block 0
    (.seq
     (.region [⟨some 4, none, .ex (.fa 0) [.s 1]⟩,
       ⟨some 5, none, .ex (.ld 1) [.s 4]⟩,
       ⟨some 6, none, .ex (.ibin .lss) [.s 5, .k (.int .i64 1)]⟩,
       ⟨some 7, none, .ex (.mov) [.s 6]⟩,
       ⟨some 8, some (7, false), .ex (.fa 0) [.s 1]⟩,
       ⟨some 9, some (7, false), .ex (.ld 1) [.s 8]⟩,
       ⟨some 10, some (7, false), .ex (.ibin .gtr) [.s 9, .k (.int .i64 1000)]⟩,
       ⟨some 11, none, .ex (.pick) [.s 7, .k (.bool true), .s 10]⟩,
       ⟨some 12, none, .ex (.mov) [.s 11]⟩,
       ⟨some 13, some (12, false), .ex (.fa 2) [.s 1]⟩,
       ⟨some 14, some (12, false), .ex (.ld 1) [.s 13]⟩,
       ⟨some 15, some (12, false), .ex (.ibin .lss) [.s 14, .k (.int .u8 1)]⟩,
       ⟨some 16, none, .ex (.pick) [.s 12, .k (.bool true), .s 15]⟩,
       ⟨some 17, none, .ex (.mov) [.s 16]⟩,
       ⟨some 18, some (17, false), .ex (.fa 2) [.s 1]⟩,
       ⟨some 19, some (17, false), .ex (.ld 1) [.s 18]⟩,
       ⟨some 20, some (17, false), .ex (.ibin .gtr) [.s 19, .k (.int .u8 4)]⟩,
       ⟨some 21, none, .ex (.pick) [.s 17, .k (.bool true), .s 20]⟩,
       ⟨some 3, none, .ex (.mov) [.s 21]⟩])
     (.cond (.s 3)
      (.seq
       (.region [⟨some 2, none, .ex (.mov) [.k (.bool false)]⟩])
       .ret)
      (.seq
       (.region [⟨some 23, none, .ex (.fa 1) [.s 1]⟩,
         ⟨some 24, none, .ex (.ld 1) [.s 23]⟩,
         ⟨some 22, none, .ex (.mov) [.s 24]⟩])
       (.cond (.s 22)
        (.seq
         (.region [⟨some 25, none, .ex (.fa 4) [.s 1]⟩,
           ⟨some 26, none, .ex (.ld 1) [.s 25]⟩,
           ⟨some 27, none, .ex (.bnot) [.s 26]⟩,
           ⟨some 28, none, .ex (.mov) [.s 27]⟩,
           ⟨some 29, some (28, true), .ex (.fa 5) [.s 1]⟩,
           ⟨some 30, some (28, true), .ex (.ld 1) [.s 29]⟩,
           ⟨some 31, some (28, true), .ex (.ibin .geq) [.s 30, .k (.int .i64 0)]⟩,
           ⟨some 32, none, .ex (.pick) [.s 28, .s 31, .k (.bool false)]⟩,
           ⟨some 33, none, .ex (.mov) [.s 32]⟩,
           ⟨some 34, some (33, true), .ex (.fa 5) [.s 1]⟩,
           ⟨some 35, some (33, true), .ex (.ld 1) [.s 34]⟩,
           ⟨some 36, some (33, true), .ex (.ibin .leq) [.s 35, .k (.int .i64 8)]⟩,
           ⟨some 37, none, .ex (.pick) [.s 33, .s 36, .k (.bool false)]⟩,
           ⟨some 2, none, .ex (.mov) [.s 37]⟩])
         .ret)
        .skip)))))
   (.seq
    (.region [⟨some 38, none, .ex (.fa 5) [.s 1]⟩,
      ⟨some 39, none, .ex (.ld 1) [.s 38]⟩,
      ⟨some 40, none, .ex (.ibin .eql) [.s 39, .k (.int .i64 0)]⟩,
      ⟨some 2, none, .ex (.mov) [.s 40]⟩])
    .ret))),
 [.t 2]⟩
theorem c32 : compFn Go.Proofs.Tryz.prog 32 = some fn32 := by kernel_rfl

/-- slices.SortFunc[[]rubric/api.Key,rubric/api.Key] -/
def fn33 : AFn := ⟨14,
 (.seq
  (.region [⟨some 5, none, .ex (.mov) [.s 0]⟩,
    ⟨some 6, none, .ex (.len) [.s 5]⟩,
    ⟨some 4, none, .ex (.mov) [.s 6]⟩])
  (.region [⟨some 7, none, .ex (.mov) [.s 0]⟩,
    ⟨some 8, none, .ex (.mov) [.s 4]⟩,
    ⟨some 9, none, .ex (.mov) [.s 4]⟩,
    ⟨some 10, none, .ex (.toInt .u64) [.s 9]⟩,
    ⟨some 11, none, .callf 48 [.s 10]⟩,
    ⟨some 12, none, .ex (.mov) [.s 1]⟩,
    ⟨some 13, none, .callf 47 [.s 7, .k (.int .i64 0), .s 8, .s 11, .s 12]⟩])),
 []⟩
theorem c33 : compFn Go.Proofs.Tryz.prog 33 = some fn33 := by kernel_rfl

/-- rubric/schema.New$1 -/
def fn34 : AFn := ⟨10,
 (.seq
  (.region [⟨some 2, none, .ex (.box) [.s 0]⟩,
    ⟨some 3, none, .ex (.box) [.s 1]⟩,
    ⟨some 4, none, .ex (.mov) [.k (.int .i64 0)]⟩])
  (.seq
   (.region [⟨some 5, none, .ex (.fa 0) [.s 2]⟩,
     ⟨some 6, none, .ex (.ld 1) [.s 5]⟩,
     ⟨some 7, none, .ex (.fa 0) [.s 3]⟩,
     ⟨some 8, none, .ex (.ld 1) [.s 7]⟩,
     ⟨some 9, none, .callf 35 [.s 6, .s 8]⟩,
     ⟨some 4, none, .ex (.mov) [.s 9]⟩])
   .ret)),
 [.t 4]⟩
theorem c34 : compFn Go.Proofs.Tryz.prog 34 = some fn34 := by kernel_rfl

/-- cmp.Compare[int] -/
def fn35 : AFn := ⟨20,
 (.seq
  (.region [⟨some 4, none, .ex (.mov) [.k (.int .i64 0)]⟩])
  (.seq
   (.region [⟨some 7, none, .ex (.mov) [.s 0]⟩,
     ⟨some 8, none, .callf 49 [.s 7]⟩,
     ⟨some 5, none, .ex (.mov) [.s 8]⟩])
   (.seq
    (.region [⟨some 9, none, .ex (.mov) [.s 1]⟩,
      ⟨some 10, none, .callf 49 [.s 9]⟩,
      ⟨some 6, none, .ex (.mov) [.s 10]⟩])
    (.seq
     (.seq
      (.region [⟨some 11, none, .ex (.mov) [.s 5]⟩])
      (.cond (.s 11)
       (.seq
        (.seq
         (.region [⟨some 12, none, .ex (.mov) [.s 6]⟩])
         (.cond (.s 12)
          (.seq
           (.region [⟨some 4, none, .ex (.mov) [.k (.int .i64 0)]⟩])
           .ret)
          .skip))
        (.seq
         (.region [⟨some 4, none, .ex (.mov) [.k (.int .i64 (-1))]⟩])
         .ret))
       .skip))
     (.seq
      (.seq
       (.region [⟨some 13, none, .ex (.mov) [.s 6]⟩])
       (.cond (.s 13)
        (.seq
         (.region [⟨some 4, none, .ex (.mov) [.k (.int .i64 1)]⟩])
         .ret)
        .skip))
      (.seq
       (.seq
        (.region [⟨some 14, none, .ex (.mov) [.s 0]⟩,
          ⟨some 15, none, .ex (.mov) [.s 1]⟩,
          ⟨some 16, none, .ex (.ibin .lss) [.s 14, .s 15]⟩])
        (.cond (.s 16)
         (.seq
          (.region [⟨some 4, none, .ex (.mov) [.k (.int .i64 (-1))]⟩])
          .ret)
         .skip))
       (.seq
        (.seq
         (.region [⟨some 17, none, .ex (.mov) [.s 0]⟩,
           ⟨some 18, none, .ex (.mov) [.s 1]⟩,
           ⟨some 19, none, .ex (.ibin .gtr) [.s 17, .s 18]⟩])
         (.cond (.s 19)
          (.seq
           (.region [⟨some 4, none, .ex (.mov) [.k (.int .i64 1)]⟩])
           .ret)
          .skip))
        (.seq
         (.region [⟨some 4, none, .ex (.mov) [.k (.int .i64 0)]⟩])
         .ret)))))))),
 [.t 4]⟩
theorem c35 : compFn Go.Proofs.Tryz.prog 35 = some fn35 := by kernel_rfl

/-- (*rubric/history.History).ready -/
def fn36 : AFn := ⟨11,
 (.seq
  (.region [⟨some 2, none, .ex (.mov) [.k (.bool false)]⟩])
  (.seq
   (.region [⟨some 3, none, .ex (.mov) [.s 0]⟩,
     ⟨some 4, none, .ex (.eqnil 0 true) [.s 3, .k .nilp]⟩,
     ⟨some 5, none, .ex (.mov) [.s 4]⟩,
     ⟨some 6, some (5, true), .ex (.mov) [.s 0]⟩,
     ⟨some 7, some (5, true), .ex (.nilck) [.s 6]⟩,
     ⟨some 8, some (5, true), .ex (.fa 2) [.s 7]⟩,
     ⟨some 9, some (5, true), .ex (.ld 1) [.s 8]⟩,
     ⟨some 10, none, .ex (.pick) [.s 5, .s 9, .k (.bool false)]⟩,
     ⟨some 2, none, .ex (.mov) [.s 10]⟩])
   .ret)),
 [.t 2]⟩
theorem c36 : compFn Go.Proofs.Tryz.prog 36 = some fn36 := by kernel_rfl

/-- rubric/ops.Copy -/
def fn37 : AFn := ⟨44,
 (.seq
  (.region [⟨some 2, none, .ex (.mov) [.k .nils]⟩])
  (.seq
   (.region [⟨some 5, none, .ex (.mov) [.s 0]⟩,
     ⟨some 6, none, .callf 50 [.s 5]⟩,
     ⟨some 3, none, .ex (.mov) [.s 6]⟩])
   (.seq
    (.seq
     (.region [⟨some 7, none, .ex (.mov) [.s 3]⟩,
       ⟨some 8, none, .ex (.len) [.s 7]⟩,
       ⟨some 9, none, .ex (.mov) [.k (.int .i64 0)]⟩])
     (.block 0
      (.loop
       (.seq
        (.region [⟨some 10, none, .ex (.ibin .lss) [.s 9, .s 8]⟩])
        (.seq
         (.cond (.s 10)
          .skip
          (.exit 0))
         (.seq
          (.block 1
           (.seq
            (.region [⟨some 11, none, .ex (.mov) [.s 9]⟩,
              ⟨some 4, none, .ex (.mov) [.s 11]⟩])
            (.draw (.op ⟨some 12, none, .ex (.mov) [.s 3]⟩ (.op ⟨some 13, none, .ex (.mov) [.s 4]⟩ (.op ⟨some 14, none, .ex (.mov) [.s 3]⟩ (.op ⟨some 15, none, .ex (.mov) [.s 4]⟩ (.op ⟨some 16, none, .ex (.mov) [.s 3]⟩ (.op ⟨some 17, none, .ex (.mov) [.s 4]⟩ (.op ⟨some 18, none, .ex (.mov) [.s 3]⟩ (.op ⟨some 19, none, .ex (.mov) [.s 4]⟩ (.op ⟨some 20, none, .ex (.ia 5) [.s 18, .s 19]⟩ (.op ⟨some 21, none, .ex (.fa 2) [.s 20]⟩ (.op ⟨some 22, none, .ex (.ld 1) [.s 21]⟩ (.op ⟨some 24, none, .ex (.mov) [.s 3]⟩ (.op ⟨some 25, none, .ex (.mov) [.s 4]⟩ (.op ⟨some 26, none, .ex (.ia 5) [.s 24, .s 25]⟩ (.op ⟨some 27, none, .ex (.fa 3) [.s 26]⟩ (.op ⟨some 30, none, .ex (.mov) [.s 3]⟩ (.op ⟨some 31, none, .ex (.mov) [.s 4]⟩ (.op ⟨some 32, none, .ex (.ia 5) [.s 30, .s 31]⟩ (.op ⟨some 33, none, .ex (.fa 4) [.s 32]⟩ (.fork (.op ⟨some 23, none, .callf 51 [.s 22]⟩ (.op ⟨some 28, none, .ex (.ld 1) [.s 27]⟩ (.fork (.op ⟨some 29, none, .callf 52 [.s 28]⟩ (.op ⟨some 34, none, .ex (.ld 1) [.s 33]⟩ (.op ⟨some 35, none, .callf 53 [.s 34]⟩ (.op ⟨some 36, none, .ex (.ia 5) [.s 12, .s 13]⟩ (.op ⟨some 37, none, .ex (.fa 2) [.s 36]⟩ (.op ⟨none, none, .ex (.st 1) [.s 37, .s 23]⟩ (.op ⟨some 38, none, .ex (.ia 5) [.s 14, .s 15]⟩ (.op ⟨some 39, none, .ex (.fa 3) [.s 38]⟩ (.op ⟨none, none, .ex (.st 1) [.s 39, .s 29]⟩ (.op ⟨some 40, none, .ex (.ia 5) [.s 16, .s 17]⟩ (.op ⟨some 41, none, .ex (.fa 4) [.s 40]⟩ (.op ⟨none, none, .ex (.st 1) [.s 41, .s 35]⟩ .done)))))))))))) (.op ⟨some 34, none, .ex (.ld 1) [.s 33]⟩ (.op ⟨some 29, none, .callf 52 [.s 28]⟩ (.op ⟨some 35, none, .callf 53 [.s 34]⟩ (.op ⟨some 36, none, .ex (.ia 5) [.s 12, .s 13]⟩ (.op ⟨some 37, none, .ex (.fa 2) [.s 36]⟩ (.op ⟨none, none, .ex (.st 1) [.s 37, .s 23]⟩ (.op ⟨some 38, none, .ex (.ia 5) [.s 14, .s 15]⟩ (.op ⟨some 39, none, .ex (.fa 3) [.s 38]⟩ (.op ⟨none, none, .ex (.st 1) [.s 39, .s 29]⟩ (.op ⟨some 40, none, .ex (.ia 5) [.s 16, .s 17]⟩ (.op ⟨some 41, none, .ex (.fa 4) [.s 40]⟩ (.op ⟨none, none, .ex (.st 1) [.s 41, .s 35]⟩ .done))))))))))))))) (.fork (.op ⟨some 28, none, .ex (.ld 1) [.s 27]⟩ (.fork (.op ⟨some 23, none, .callf 51 [.s 22]⟩ (.fork (.op ⟨some 29, none, .callf 52 [.s 28]⟩ (.op ⟨some 34, none, .ex (.ld 1) [.s 33]⟩ (.op ⟨some 35, none, .callf 53 [.s 34]⟩ (.op ⟨some 36, none, .ex (.ia 5) [.s 12, .s 13]⟩ (.op ⟨some 37, none, .ex (.fa 2) [.s 36]⟩ (.op ⟨none, none, .ex (.st 1) [.s 37, .s 23]⟩ (.op ⟨some 38, none, .ex (.ia 5) [.s 14, .s 15]⟩ (.op ⟨some 39, none, .ex (.fa 3) [.s 38]⟩ (.op ⟨none, none, .ex (.st 1) [.s 39, .s 29]⟩ (.op ⟨some 40, none, .ex (.ia 5) [.s 16, .s 17]⟩ (.op ⟨some 41, none, .ex (.fa 4) [.s 40]⟩ (.op ⟨none, none, .ex (.st 1) [.s 41, .s 35]⟩ .done)))))))))))) (.op ⟨some 34, none, .ex (.ld 1) [.s 33]⟩ (.op ⟨some 29, none, .callf 52 [.s 28]⟩ (.op ⟨some 35, none, .callf 53 [.s 34]⟩ (.op ⟨some 36, none, .ex (.ia 5) [.s 12, .s 13]⟩ (.op ⟨some 37, none, .ex (.fa 2) [.s 36]⟩ (.op ⟨none, none, .ex (.st 1) [.s 37, .s 23]⟩ (.op ⟨some 38, none, .ex (.ia 5) [.s 14, .s 15]⟩ (.op ⟨some 39, none, .ex (.fa 3) [.s 38]⟩ (.op ⟨none, none, .ex (.st 1) [.s 39, .s 29]⟩ (.op ⟨some 40, none, .ex (.ia 5) [.s 16, .s 17]⟩ (.op ⟨some 41, none, .ex (.fa 4) [.s 40]⟩ (.op ⟨none, none, .ex (.st 1) [.s 41, .s 35]⟩ .done)))))))))))))) (.op ⟨some 34, none, .ex (.ld 1) [.s 33]⟩ (.op ⟨some 23, none, .callf 51 [.s 22]⟩ (.op ⟨some 29, none, .callf 52 [.s 28]⟩ (.op ⟨some 35, none, .callf 53 [.s 34]⟩ (.op ⟨some 36, none, .ex (.ia 5) [.s 12, .s 13]⟩ (.op ⟨some 37, none, .ex (.fa 2) [.s 36]⟩ (.op ⟨none, none, .ex (.st 1) [.s 37, .s 23]⟩ (.op ⟨some 38, none, .ex (.ia 5) [.s 14, .s 15]⟩ (.op ⟨some 39, none, .ex (.fa 3) [.s 38]⟩ (.op ⟨none, none, .ex (.st 1) [.s 39, .s 29]⟩ (.op ⟨some 40, none, .ex (.ia 5) [.s 16, .s 17]⟩ (.op ⟨some 41, none, .ex (.fa 4) [.s 40]⟩ (.op ⟨none, none, .ex (.st 1) [.s 41, .s 35]⟩ .done))))))))))))))) (.op ⟨some 34, none, .ex (.ld 1) [.s 33]⟩ (.fork (.op ⟨some 23, none, .callf 51 [.s 22]⟩ (.op ⟨some 28, none, .ex (.ld 1) [.s 27]⟩ (.op ⟨some 29, none, .callf 52 [.s 28]⟩ (.op ⟨some 35, none, .callf 53 [.s 34]⟩ (.op ⟨some 36, none, .ex (.ia 5) [.s 12, .s 13]⟩ (.op ⟨some 37, none, .ex (.fa 2) [.s 36]⟩ (.op ⟨none, none, .ex (.st 1) [.s 37, .s 23]⟩ (.op ⟨some 38, none, .ex (.ia 5) [.s 14, .s 15]⟩ (.op ⟨some 39, none, .ex (.fa 3) [.s 38]⟩ (.op ⟨none, none, .ex (.st 1) [.s 39, .s 29]⟩ (.op ⟨some 40, none, .ex (.ia 5) [.s 16, .s 17]⟩ (.op ⟨some 41, none, .ex (.fa 4) [.s 40]⟩ (.op ⟨none, none, .ex (.st 1) [.s 41, .s 35]⟩ .done))))))))))))) (.op ⟨some 28, none, .ex (.ld 1) [.s 27]⟩ (.op ⟨some 23, none, .callf 51 [.s 22]⟩ (.op ⟨some 29, none, .callf 52 [.s 28]⟩ (.op ⟨some 35, none, .callf 53 [.s 34]⟩ (.op ⟨some 36, none, .ex (.ia 5) [.s 12, .s 13]⟩ (.op ⟨some 37, none, .ex (.fa 2) [.s 36]⟩ (.op ⟨none, none, .ex (.st 1) [.s 37, .s 23]⟩ (.op ⟨some 38, none, .ex (.ia 5) [.s 14, .s 15]⟩ (.op ⟨some 39, none, .ex (.fa 3) [.s 38]⟩ (.op ⟨none, none, .ex (.st 1) [.s 39, .s 29]⟩ (.op ⟨some 40, none, .ex (.ia 5) [.s 16, .s 17]⟩ (.op ⟨some 41, none, .ex (.fa 4) [.s 40]⟩ (.op ⟨none, none, .ex (.st 1) [.s 41, .s 35]⟩ .done)))))))))))))))))))))))))))))))))))))))
          (.region [⟨some 42, none, .ex (.ibin .add) [.s 9, .k (.int .i64 1)]⟩,
            ⟨some 9, none, .ex (.mov) [.s 42]⟩])))))))
    (.seq
     (.region [⟨some 43, none, .ex (.mov) [.s 3]⟩,
       ⟨some 2, none, .ex (.mov) [.s 43]⟩])
     .ret)))),
 [.t 2]⟩
theorem c37 : compFn Go.Proofs.Tryz.prog 37 = some fn37 := by kernel_rfl

/-- (*rubric/history.History).keep -/
def fn39 : AFn := ⟨52,
 (.seq
  (.region [⟨some 3, none, .ex (.box) [.s 1]⟩])
  (.seq
   (.draw (.op ⟨some 5, none, .ex (.mov) [.s 0]⟩ (.op ⟨some 6, none, .ex (.mov) [.s 0]⟩ (.op ⟨some 7, none, .ex (.nilck) [.s 6]⟩ (.op ⟨some 8, none, .ex (.fa 3) [.s 7]⟩ (.op ⟨some 9, none, .ex (.ld 1) [.s 8]⟩ (.op ⟨some 10, none, .ex (.lda 2) [.s 3]⟩ (.op ⟨some 11, none, .ex (.bsl 2 1 [.nils, .nils] [(0, 2)]) [.s 10]⟩ (.op ⟨some 12, none, .ex (.app 2 48) [.s 9, .s 11]⟩ (.op ⟨some 13, none, .ex (.nilck) [.s 5]⟩ (.op ⟨some 14, none, .ex (.fa 3) [.s 13]⟩ (.op ⟨none, none, .ex (.st 1) [.s 14, .s 12]⟩ .done))))))))))))
   (.seq
    (.draw (.op ⟨some 15, none, .ex (.mov) [.s 0]⟩ (.op ⟨some 16, none, .ex (.nilck) [.s 15]⟩ (.op ⟨some 17, none, .ex (.fa 3) [.s 16]⟩ (.op ⟨some 18, none, .ex (.ld 1) [.s 17]⟩ (.op ⟨some 19, none, .ex (.len) [.s 18]⟩ (.op ⟨some 20, none, .ex (.mov) [.s 0]⟩ (.op ⟨some 21, none, .ex (.nilck) [.s 20]⟩ (.op ⟨some 22, none, .ex (.fa 1) [.s 21]⟩ (.op ⟨some 23, none, .ex (.ld 1) [.s 22]⟩ (.op ⟨some 24, none, .ex (.ibin .sub) [.s 19, .s 23]⟩ (.op ⟨some 4, none, .ex (.mov) [.s 24]⟩ .done))))))))))))
    (.seq
     (.region [⟨some 25, none, .ex (.mov) [.s 4]⟩,
       ⟨some 26, none, .ex (.ibin .gtr) [.s 25, .k (.int .i64 0)]⟩])
     (.cond (.s 26)
      (.seq
       (.region [⟨some 27, none, .ex (.mov) [.s 0]⟩,
         ⟨some 28, none, .ex (.nilck) [.s 27]⟩,
         ⟨some 29, none, .ex (.fa 3) [.s 28]⟩,
         ⟨some 30, none, .ex (.ld 1) [.s 29]⟩,
         ⟨some 31, none, .ex (.mov) [.s 4]⟩,
         ⟨some 32, none, .ex (.slc 2 false true false) [.s 30, .s 31]⟩,
         ⟨none, none, .ex (.clear [.nils, .nils]) [.s 32]⟩])
       (.draw (.op ⟨some 33, none, .ex (.mov) [.s 0]⟩ (.op ⟨some 34, none, .ex (.mov) [.s 0]⟩ (.op ⟨some 35, none, .ex (.nilck) [.s 34]⟩ (.op ⟨some 36, none, .ex (.fa 3) [.s 35]⟩ (.op ⟨some 37, none, .ex (.ld 1) [.s 36]⟩ (.op ⟨some 38, none, .ex (.mov) [.s 4]⟩ (.op ⟨some 39, none, .ex (.mov) [.s 0]⟩ (.op ⟨some 40, none, .ex (.nilck) [.s 39]⟩ (.op ⟨some 41, none, .ex (.fa 3) [.s 40]⟩ (.op ⟨some 42, none, .ex (.ld 1) [.s 41]⟩ (.op ⟨some 43, none, .ex (.len) [.s 42]⟩ (.op ⟨some 44, none, .ex (.mov) [.s 0]⟩ (.op ⟨some 45, none, .ex (.nilck) [.s 44]⟩ (.op ⟨some 46, none, .ex (.fa 3) [.s 45]⟩ (.op ⟨some 47, none, .ex (.ld 1) [.s 46]⟩ (.op ⟨some 48, none, .ex (.len) [.s 47]⟩ (.op ⟨some 49, none, .ex (.slc 2 true true true) [.s 37, .s 38, .s 43, .s 48]⟩ (.op ⟨some 50, none, .ex (.nilck) [.s 33]⟩ (.op ⟨some 51, none, .ex (.fa 3) [.s 50]⟩ (.op ⟨none, none, .ex (.st 1) [.s 51, .s 49]⟩ .done))))))))))))))))))))))
      .skip))))),
 []⟩
theorem c39 : compFn Go.Proofs.Tryz.prog 39 = some fn39 := by kernel_rfl

/-- (*rubric/history.History).move -/
def fn40 : AFn := ⟨48,
 (.seq
  (.region [⟨some 6, none, .ex (.alloc [.nils, .nils]) []⟩,
    ⟨some 7, none, .ex (.mov) [.k (.int .i64 0)]⟩])
  (.seq
   (.region [⟨some 10, none, .ex (.mov) [.s 1]⟩,
     ⟨some 11, none, .ex (.nilck) [.s 10]⟩,
     ⟨some 12, none, .ex (.ld 1) [.s 11]⟩,
     ⟨some 13, none, .ex (.len) [.s 12]⟩,
     ⟨some 14, none, .ex (.ibin .sub) [.s 13, .k (.int .i64 1)]⟩,
     ⟨some 8, none, .ex (.mov) [.s 14]⟩])
   (.seq
    (.block 0
     (.seq
      (.region [⟨some 16, none, .ex (.mov) [.s 0]⟩,
        ⟨some 17, none, .ex (.nilck) [.s 16]⟩,
        ⟨some 18, none, .ex (.fa 5) [.s 17]⟩,
        ⟨some 19, none, .ex (.ld 1) [.s 18]⟩,
        ⟨some 15, none, .ex (.mov) [.s 19]⟩])
      (.cond (.s 15)
       (.seq
        (.region [⟨some 20, none, .ex (.build [.nils, .nils] []) []⟩,
          ⟨none, none, .ex (.st 2) [.s 6, .s 20]⟩,
          ⟨some 7, none, .ex (.mov) [.k (.int .i64 9)]⟩])
        .ret)
       (.seq
        (.region [⟨some 22, none, .ex (.mov) [.s 8]⟩,
          ⟨some 23, none, .ex (.ibin .lss) [.s 22, .k (.int .i64 0)]⟩,
          ⟨some 21, none, .ex (.mov) [.s 23]⟩])
        (.cond (.s 21)
         (.seq
          (.region [⟨some 24, none, .ex (.build [.nils, .nils] []) []⟩,
            ⟨none, none, .ex (.st 2) [.s 6, .s 24]⟩,
            ⟨some 7, none, .ex (.mov) [.k (.int .i64 10)]⟩])
          .ret)
         .skip)))))
    (.seq
     (.region [⟨some 25, none, .ex (.mov) [.s 1]⟩,
       ⟨some 26, none, .ex (.nilck) [.s 25]⟩,
       ⟨some 27, none, .ex (.ld 1) [.s 26]⟩,
       ⟨some 28, none, .ex (.mov) [.s 8]⟩,
       ⟨some 29, none, .ex (.ia 2) [.s 27, .s 28]⟩,
       ⟨some 30, none, .ex (.lda 2) [.s 29]⟩,
       ⟨some 9, none, .ex (.alloc [.nils, .nils]) []⟩,
       ⟨none, none, .ex (.st 2) [.s 9, .s 30]⟩])
     (.seq
      (.region [⟨some 31, none, .ex (.mov) [.s 1]⟩,
        ⟨some 32, none, .ex (.mov) [.s 1]⟩,
        ⟨some 33, none, .ex (.nilck) [.s 32]⟩,
        ⟨some 34, none, .ex (.ld 1) [.s 33]⟩,
        ⟨some 35, none, .ex (.mov) [.s 8]⟩,
        ⟨some 36, none, .ex (.slc 2 false true false) [.s 34, .s 35]⟩,
        ⟨some 37, none, .callf 55 [.s 36]⟩,
        ⟨some 38, none, .ex (.nilck) [.s 31]⟩,
        ⟨none, none, .ex (.st 1) [.s 38, .s 37]⟩])
      (.seq
       (.draw (.op ⟨some 39, none, .ex (.mov) [.s 2]⟩ (.op ⟨some 40, none, .ex (.mov) [.s 2]⟩ (.op ⟨some 41, none, .ex (.nilck) [.s 40]⟩ (.op ⟨some 42, none, .ex (.ld 1) [.s 41]⟩ (.op ⟨some 43, none, .ex (.lda 2) [.s 9]⟩ (.op ⟨some 44, none, .ex (.bsl 2 1 [.nils, .nils] [(0, 2)]) [.s 43]⟩ (.op ⟨some 45, none, .ex (.app 2 48) [.s 42, .s 44]⟩ (.op ⟨some 46, none, .ex (.nilck) [.s 39]⟩ (.op ⟨none, none, .ex (.st 1) [.s 46, .s 45]⟩ .done))))))))))
       (.seq
        (.region [⟨some 47, none, .ex (.lda 2) [.s 9]⟩,
          ⟨none, none, .ex (.st 2) [.s 6, .s 47]⟩,
          ⟨some 7, none, .ex (.mov) [.k (.int .i64 0)]⟩])
        .ret))))))),
 [.ca 6 2, .t 7]⟩
theorem c40 : compFn Go.Proofs.Tryz.prog 40 = some fn40 := by kernel_rfl

/-- rubric/rubricref01.Same -/
def fn41 : AFn := ⟨26,
 (.seq
  (.region [⟨some 4, none, .ex (.mov) [.k (.bool false)]⟩])
  (.seq
   (.seq
    (.region [⟨some 6, none, .ex (.mov) [.s 0]⟩,
      ⟨some 7, none, .ex (.len) [.s 6]⟩,
      ⟨some 8, none, .ex (.mov) [.s 1]⟩,
      ⟨some 9, none, .ex (.len) [.s 8]⟩,
      ⟨some 10, none, .ex (.ibin .neq) [.s 7, .s 9]⟩])
    (.cond (.s 10)
     (.seq
      (.region [⟨some 4, none, .ex (.mov) [.k (.bool false)]⟩])
      .ret)
     .skip))
   (.seq
    (.seq
     (.region [⟨some 5, none, .ex (.mov) [.k (.int .i64 0)]⟩])
     (.block 0
      (.loop
       (.seq
        (.seq
         (.region [⟨some 11, none, .ex (.mov) [.s 5]⟩,
           ⟨some 12, none, .ex (.mov) [.s 0]⟩,
           ⟨some 13, none, .ex (.len) [.s 12]⟩,
           ⟨some 14, none, .ex (.ibin .lss) [.s 11, .s 13]⟩])
         (.cond (.s 14)
          .skip
          (.exit 0)))
        (.seq
         (.block 1
          (.seq
           (.draw (.op ⟨some 17, none, .ex (.mov) [.s 0]⟩ (.op ⟨some 18, none, .ex (.mov) [.s 5]⟩ (.op ⟨some 19, none, .ex (.ia 1) [.s 17, .s 18]⟩ (.op ⟨some 20, none, .ex (.ld 1) [.s 19]⟩ (.op ⟨some 21, none, .ex (.mov) [.s 1]⟩ (.op ⟨some 22, none, .ex (.mov) [.s 5]⟩ (.op ⟨some 23, none, .ex (.ia 1) [.s 21, .s 22]⟩ (.op ⟨some 24, none, .ex (.ld 1) [.s 23]⟩ (.op ⟨some 25, none, .ex (.ibin .neq) [.s 20, .s 24]⟩ .done))))))))))
           (.cond (.s 25)
            (.seq
             (.region [⟨some 4, none, .ex (.mov) [.k (.bool false)]⟩])
             .ret)
            .skip)))
         (.region [⟨some 15, none, .ex (.mov) [.s 5]⟩,
           ⟨some 16, none, .ex (.ibin .add) [.s 15, .k (.int .i64 1)]⟩,
           ⟨some 5, none, .ex (.mov) [.s 16]⟩]))))))
    (.seq
     (.region [⟨some 4, none, .ex (.mov) [.k (.bool true)]⟩])
     .ret)))),
 [.t 4]⟩
theorem c41 : compFn Go.Proofs.Tryz.prog 41 = some fn41 := by kernel_rfl

/-- rubric/rubricref05.Same -/
def fn42 : AFn := ⟨26,
 (.seq
  (.region [⟨some 4, none, .ex (.mov) [.k (.bool false)]⟩])
  (.seq
   (.seq
    (.region [⟨some 6, none, .ex (.mov) [.s 0]⟩,
      ⟨some 7, none, .ex (.len) [.s 6]⟩,
      ⟨some 8, none, .ex (.mov) [.s 1]⟩,
      ⟨some 9, none, .ex (.len) [.s 8]⟩,
      ⟨some 10, none, .ex (.ibin .neq) [.s 7, .s 9]⟩])
    (.cond (.s 10)
     (.seq
      (.region [⟨some 4, none, .ex (.mov) [.k (.bool false)]⟩])
      .ret)
     .skip))
   (.seq
    (.seq
     (.region [⟨some 5, none, .ex (.mov) [.k (.int .i64 0)]⟩])
     (.block 0
      (.loop
       (.seq
        (.seq
         (.region [⟨some 11, none, .ex (.mov) [.s 5]⟩,
           ⟨some 12, none, .ex (.mov) [.s 0]⟩,
           ⟨some 13, none, .ex (.len) [.s 12]⟩,
           ⟨some 14, none, .ex (.ibin .lss) [.s 11, .s 13]⟩])
         (.cond (.s 14)
          .skip
          (.exit 0)))
        (.seq
         (.block 1
          (.seq
           (.draw (.op ⟨some 17, none, .ex (.mov) [.s 0]⟩ (.op ⟨some 18, none, .ex (.mov) [.s 5]⟩ (.op ⟨some 19, none, .ex (.ia 5) [.s 17, .s 18]⟩ (.op ⟨some 20, none, .ex (.lda 5) [.s 19]⟩ (.op ⟨some 21, none, .ex (.mov) [.s 1]⟩ (.op ⟨some 22, none, .ex (.mov) [.s 5]⟩ (.op ⟨some 23, none, .ex (.ia 5) [.s 21, .s 22]⟩ (.op ⟨some 24, none, .ex (.lda 5) [.s 23]⟩ (.op ⟨some 25, none, .ex (.eqagg true [0, 0, 0, 0, 2]) [.s 20, .s 24]⟩ .done))))))))))
           (.cond (.s 25)
            (.seq
             (.region [⟨some 4, none, .ex (.mov) [.k (.bool false)]⟩])
             .ret)
            .skip)))
         (.region [⟨some 15, none, .ex (.mov) [.s 5]⟩,
           ⟨some 16, none, .ex (.ibin .add) [.s 15, .k (.int .i64 1)]⟩,
           ⟨some 5, none, .ex (.mov) [.s 16]⟩]))))))
    (.seq
     (.region [⟨some 4, none, .ex (.mov) [.k (.bool true)]⟩])
     .ret)))),
 [.t 4]⟩
theorem c42 : compFn Go.Proofs.Tryz.prog 42 = some fn42 := by kernel_rfl

/-- rubric/rubricref06.Same -/
def fn43 : AFn := ⟨26,
 (.seq
  (.region [⟨some 4, none, .ex (.mov) [.k (.bool false)]⟩])
  (.seq
   (.seq
    (.region [⟨some 6, none, .ex (.mov) [.s 0]⟩,
      ⟨some 7, none, .ex (.len) [.s 6]⟩,
      ⟨some 8, none, .ex (.mov) [.s 1]⟩,
      ⟨some 9, none, .ex (.len) [.s 8]⟩,
      ⟨some 10, none, .ex (.ibin .neq) [.s 7, .s 9]⟩])
    (.cond (.s 10)
     (.seq
      (.region [⟨some 4, none, .ex (.mov) [.k (.bool false)]⟩])
      .ret)
     .skip))
   (.seq
    (.seq
     (.region [⟨some 5, none, .ex (.mov) [.k (.int .i64 0)]⟩])
     (.block 0
      (.loop
       (.seq
        (.seq
         (.region [⟨some 11, none, .ex (.mov) [.s 5]⟩,
           ⟨some 12, none, .ex (.mov) [.s 0]⟩,
           ⟨some 13, none, .ex (.len) [.s 12]⟩,
           ⟨some 14, none, .ex (.ibin .lss) [.s 11, .s 13]⟩])
         (.cond (.s 14)
          .skip
          (.exit 0)))
        (.seq
         (.block 1
          (.seq
           (.draw (.op ⟨some 17, none, .ex (.mov) [.s 0]⟩ (.op ⟨some 18, none, .ex (.mov) [.s 5]⟩ (.op ⟨some 19, none, .ex (.ia 6) [.s 17, .s 18]⟩ (.op ⟨some 20, none, .ex (.lda 6) [.s 19]⟩ (.op ⟨some 21, none, .ex (.mov) [.s 1]⟩ (.op ⟨some 22, none, .ex (.mov) [.s 5]⟩ (.op ⟨some 23, none, .ex (.ia 6) [.s 21, .s 22]⟩ (.op ⟨some 24, none, .ex (.lda 6) [.s 23]⟩ (.op ⟨some 25, none, .ex (.eqagg true [0, 1, 0, 0, 0, 2]) [.s 20, .s 24]⟩ .done))))))))))
           (.cond (.s 25)
            (.seq
             (.region [⟨some 4, none, .ex (.mov) [.k (.bool false)]⟩])
             .ret)
            .skip)))
         (.region [⟨some 15, none, .ex (.mov) [.s 5]⟩,
           ⟨some 16, none, .ex (.ibin .add) [.s 15, .k (.int .i64 1)]⟩,
           ⟨some 5, none, .ex (.mov) [.s 16]⟩]))))))
    (.seq
     (.region [⟨some 4, none, .ex (.mov) [.k (.bool true)]⟩])
     .ret)))),
 [.t 4]⟩
theorem c43 : compFn Go.Proofs.Tryz.prog 43 = some fn43 := by kernel_rfl

/-- slices.pdqsortCmpFunc[rubric/api.Key] -/
def fn47 : AFn := ⟨148,
 (.seq
  (.region [⟨some 10, none, .ex (.mov) [.k (.bool true)]⟩])
  (.seq
   (.region [⟨some 11, none, .ex (.mov) [.k (.bool true)]⟩])
   (.block 0
    (.loop
     (.block 1
      (.seq
       (.region [⟨some 21, none, .ex (.mov) [.s 2]⟩,
         ⟨some 22, none, .ex (.mov) [.s 1]⟩,
         ⟨some 23, none, .ex (.ibin .sub) [.s 21, .s 22]⟩,
         ⟨some 12, none, .ex (.mov) [.s 23]⟩])
       (.seq
        (.seq
         (.region [⟨some 24, none, .ex (.mov) [.s 12]⟩,
           ⟨some 25, none, .ex (.ibin .leq) [.s 24, .k (.int .i64 12)]⟩])
         (.cond (.s 25)
          (.seq
           (.region [⟨some 26, none, .ex (.mov) [.s 0]⟩,
             ⟨some 27, none, .ex (.mov) [.s 1]⟩,
             ⟨some 28, none, .ex (.mov) [.s 2]⟩,
             ⟨some 29, none, .ex (.mov) [.s 4]⟩,
             ⟨some 30, none, .callf 62 [.s 26, .s 27, .s 28, .s 29]⟩])
           .ret)
          .skip))
        (.seq
         (.seq
          (.region [⟨some 31, none, .ex (.mov) [.s 3]⟩,
            ⟨some 32, none, .ex (.ibin .eql) [.s 31, .k (.int .i64 0)]⟩])
          (.cond (.s 32)
           (.seq
            (.region [⟨some 33, none, .ex (.mov) [.s 0]⟩,
              ⟨some 34, none, .ex (.mov) [.s 1]⟩,
              ⟨some 35, none, .ex (.mov) [.s 2]⟩,
              ⟨some 36, none, .ex (.mov) [.s 4]⟩,
              ⟨some 37, none, .callf 63 [.s 33, .s 34, .s 35, .s 36]⟩])
            .ret)
           .skip))
         (.seq
          (.seq
           (.region [⟨some 38, none, .ex (.mov) [.s 10]⟩,
             ⟨some 39, none, .ex (.bnot) [.s 38]⟩])
           (.cond (.s 39)
            (.seq
             (.region [⟨some 40, none, .ex (.mov) [.s 0]⟩,
               ⟨some 41, none, .ex (.mov) [.s 1]⟩,
               ⟨some 42, none, .ex (.mov) [.s 2]⟩,
               ⟨some 43, none, .ex (.mov) [.s 4]⟩,
               ⟨some 44, none, .callf 64 [.s 40, .s 41, .s 42, .s 43]⟩])
             (.region [⟨some 45, none, .ex (.mov) [.s 3]⟩,
               ⟨some 46, none, .ex (.ibin .sub) [.s 45, .k (.int .i64 1)]⟩,
               ⟨some 3, none, .ex (.mov) [.s 46]⟩]))
            .skip))
          (.seq
           (.region [⟨some 48, none, .ex (.mov) [.s 0]⟩,
             ⟨some 49, none, .ex (.mov) [.s 1]⟩,
             ⟨some 50, none, .ex (.mov) [.s 2]⟩,
             ⟨some 51, none, .ex (.mov) [.s 4]⟩,
             ⟨some 52, none, .callf 65 [.s 48, .s 49, .s 50, .s 51]⟩,
             ⟨some 47, none, .ex (.mov) [.s 52]⟩,
             ⟨some 53, none, .ex (.ext 0) [.s 47]⟩,
             ⟨some 54, none, .ex (.ext 1) [.s 47]⟩,
             ⟨some 13, none, .ex (.mov) [.s 53]⟩,
             ⟨some 14, none, .ex (.mov) [.s 54]⟩])
           (.seq
            (.seq
             (.region [⟨some 55, none, .ex (.mov) [.s 14]⟩,
               ⟨some 56, none, .ex (.ibin .eql) [.s 55, .k (.int .i64 2)]⟩])
             (.cond (.s 56)
              (.seq
               (.region [⟨some 57, none, .ex (.mov) [.s 0]⟩,
                 ⟨some 58, none, .ex (.mov) [.s 1]⟩,
                 ⟨some 59, none, .ex (.mov) [.s 2]⟩,
                 ⟨some 60, none, .ex (.mov) [.s 4]⟩,
                 ⟨some 61, none, .callf 66 [.s 57, .s 58, .s 59, .s 60]⟩])
               (.seq
                (.region [⟨some 62, none, .ex (.mov) [.s 2]⟩,
                  ⟨some 63, none, .ex (.ibin .sub) [.s 62, .k (.int .i64 1)]⟩,
                  ⟨some 64, none, .ex (.mov) [.s 13]⟩,
                  ⟨some 65, none, .ex (.mov) [.s 1]⟩,
                  ⟨some 66, none, .ex (.ibin .sub) [.s 64, .s 65]⟩,
                  ⟨some 67, none, .ex (.ibin .sub) [.s 63, .s 66]⟩,
                  ⟨some 13, none, .ex (.mov) [.s 67]⟩])
                (.region [⟨some 14, none, .ex (.mov) [.k (.int .i64 1)]⟩])))
              .skip))
            (.seq
             (.seq
              (.region [⟨some 68, none, .ex (.mov) [.s 10]⟩,
                ⟨some 69, none, .ex (.mov) [.s 68]⟩,
                ⟨some 70, some (69, true), .ex (.mov) [.s 11]⟩,
                ⟨some 71, none, .ex (.pick) [.s 69, .s 70, .k (.bool false)]⟩,
                ⟨some 72, none, .ex (.mov) [.s 71]⟩,
                ⟨some 73, some (72, true), .ex (.mov) [.s 14]⟩,
                ⟨some 74, some (72, true), .ex (.ibin .eql) [.s 73, .k (.int .i64 1)]⟩,
                ⟨some 75, none, .ex (.pick) [.s 72, .s 74, .k (.bool false)]⟩])
              (.cond (.s 75)
               (.seq
                (.region [⟨some 76, none, .ex (.mov) [.s 0]⟩,
                  ⟨some 77, none, .ex (.mov) [.s 1]⟩,
                  ⟨some 78, none, .ex (.mov) [.s 2]⟩,
                  ⟨some 79, none, .ex (.mov) [.s 4]⟩,
                  ⟨some 80, none, .callf 67 [.s 76, .s 77, .s 78, .s 79]⟩])
                (.cond (.s 80)
                 .ret
                 .skip))
               .skip))
             (.seq
              (.seq
               (.draw (.op ⟨some 81, none, .ex (.mov) [.s 1]⟩ (.op ⟨some 82, none, .ex (.ibin .gtr) [.s 81, .k (.int .i64 0)]⟩ (.op ⟨some 83, none, .ex (.mov) [.s 82]⟩ (.op ⟨some 84, some (83, true), .ex (.mov) [.s 4]⟩ (.op ⟨some 85, some (83, true), .ex (.mov) [.s 0]⟩ (.op ⟨some 86, some (83, true), .ex (.mov) [.s 1]⟩ (.op ⟨some 87, some (83, true), .ex (.ibin .sub) [.s 86, .k (.int .i64 1)]⟩ (.op ⟨some 88, some (83, true), .ex (.ia 6) [.s 85, .s 87]⟩ (.op ⟨some 89, some (83, true), .ex (.lda 6) [.s 88]⟩ (.op ⟨some 90, some (83, true), .ex (.mov) [.s 0]⟩ (.op ⟨some 91, some (83, true), .ex (.mov) [.s 13]⟩ (.op ⟨some 92, some (83, true), .ex (.ia 6) [.s 90, .s 91]⟩ (.op ⟨some 93, some (83, true), .ex (.lda 6) [.s 92]⟩ (.op ⟨some 94, some (83, true), .callv (.s 84) [.s 89, .s 93]⟩ (.op ⟨some 95, some (83, true), .ex (.ibin .lss) [.s 94, .k (.int .i64 0)]⟩ (.op ⟨some 96, some (83, true), .ex (.bnot) [.s 95]⟩ (.op ⟨some 97, none, .ex (.pick) [.s 83, .s 96, .k (.bool false)]⟩ .done))))))))))))))))))
               (.cond (.s 97)
                (.seq
                 (.region [⟨some 98, none, .ex (.mov) [.s 0]⟩,
                   ⟨some 99, none, .ex (.mov) [.s 1]⟩,
                   ⟨some 100, none, .ex (.mov) [.s 2]⟩,
                   ⟨some 101, none, .ex (.mov) [.s 13]⟩,
                   ⟨some 102, none, .ex (.mov) [.s 4]⟩,
                   ⟨some 103, none, .callf 68 [.s 98, .s 99, .s 100, .s 101, .s 102]⟩,
                   ⟨some 15, none, .ex (.mov) [.s 103]⟩])
                 (.seq
                  (.region [⟨some 104, none, .ex (.mov) [.s 15]⟩,
                    ⟨some 1, none, .ex (.mov) [.s 104]⟩])
                  (.exit 1)))
                .skip))
              (.seq
               (.region [⟨some 106, none, .ex (.mov) [.s 0]⟩,
                 ⟨some 107, none, .ex (.mov) [.s 1]⟩,
                 ⟨some 108, none, .ex (.mov) [.s 2]⟩,
                 ⟨some 109, none, .ex (.mov) [.s 13]⟩,
                 ⟨some 110, none, .ex (.mov) [.s 4]⟩,
                 ⟨some 111, none, .callf 69 [.s 106, .s 107, .s 108, .s 109, .s 110]⟩,
                 ⟨some 105, none, .ex (.mov) [.s 111]⟩,
                 ⟨some 112, none, .ex (.ext 0) [.s 105]⟩,
                 ⟨some 113, none, .ex (.ext 1) [.s 105]⟩,
                 ⟨some 16, none, .ex (.mov) [.s 112]⟩,
                 ⟨some 17, none, .ex (.mov) [.s 113]⟩])
               (.seq
                (.region [⟨some 114, none, .ex (.mov) [.s 17]⟩,
                  ⟨some 11, none, .ex (.mov) [.s 114]⟩])
                (.seq
                 (.region [⟨some 115, none, .ex (.mov) [.s 16]⟩,
                   ⟨some 116, none, .ex (.mov) [.s 1]⟩,
                   ⟨some 117, none, .ex (.ibin .sub) [.s 115, .s 116]⟩,
                   ⟨some 118, none, .ex (.mov) [.s 2]⟩,
                   ⟨some 119, none, .ex (.mov) [.s 16]⟩,
                   ⟨some 120, none, .ex (.ibin .sub) [.s 118, .s 119]⟩,
                   ⟨some 18, none, .ex (.mov) [.s 117]⟩,
                   ⟨some 19, none, .ex (.mov) [.s 120]⟩])
                 (.seq
                  (.region [⟨some 121, none, .ex (.mov) [.s 12]⟩,
                    ⟨some 122, none, .ex (.ibin .quo) [.s 121, .k (.int .i64 8)]⟩,
                    ⟨some 20, none, .ex (.mov) [.s 122]⟩])
                  (.seq
                   (.region [⟨some 123, none, .ex (.mov) [.s 18]⟩,
                     ⟨some 124, none, .ex (.mov) [.s 19]⟩,
                     ⟨some 125, none, .ex (.ibin .lss) [.s 123, .s 124]⟩])
                   (.cond (.s 125)
                    (.seq
                     (.region [⟨some 126, none, .ex (.mov) [.s 18]⟩,
                       ⟨some 127, none, .ex (.mov) [.s 20]⟩,
                       ⟨some 128, none, .ex (.ibin .geq) [.s 126, .s 127]⟩,
                       ⟨some 10, none, .ex (.mov) [.s 128]⟩])
                     (.seq
                      (.region [⟨some 129, none, .ex (.mov) [.s 0]⟩,
                        ⟨some 130, none, .ex (.mov) [.s 1]⟩,
                        ⟨some 131, none, .ex (.mov) [.s 16]⟩,
                        ⟨some 132, none, .ex (.mov) [.s 3]⟩,
                        ⟨some 133, none, .ex (.mov) [.s 4]⟩,
                        ⟨some 134, none, .callf 47 [.s 129, .s 130, .s 131, .s 132, .s 133]⟩])
                      (.region [⟨some 135, none, .ex (.mov) [.s 16]⟩,
                        ⟨some 136, none, .ex (.ibin .add) [.s 135, .k (.int .i64 1)]⟩,
                        ⟨some 1, none, .ex (.mov) [.s 136]⟩])))
                    (.seq
                     (.region [⟨some 137, none, .ex (.mov) [.s 19]⟩,
                       ⟨some 138, none, .ex (.mov) [.s 20]⟩,
                       ⟨some 139, none, .ex (.ibin .geq) [.s 137, .s 138]⟩,
                       ⟨some 10, none, .ex (.mov) [.s 139]⟩])
                     (.seq
                      (.region [⟨some 140, none, .ex (.mov) [.s 0]⟩,
                        ⟨some 141, none, .ex (.mov) [.s 16]⟩,
                        ⟨some 142, none, .ex (.ibin .add) [.s 141, .k (.int .i64 1)]⟩,
                        ⟨some 143, none, .ex (.mov) [.s 2]⟩,
                        ⟨some 144, none, .ex (.mov) [.s 3]⟩,
                        ⟨some 145, none, .ex (.mov) [.s 4]⟩,
                        ⟨some 146, none, .callf 47 [.s 140, .s 142, .s 143, .s 144, .s 145]⟩])
                      (.region [⟨some 147, none, .ex (.mov) [.s 16]⟩,
                        ⟨some 2, none, .ex (.mov) [.s 147]⟩])))))))))))))))))))))),
 []⟩
theorem c47 : compFn Go.Proofs.Tryz.prog 47 = some fn47 := by kernel_rfl

/-- math/bits.Len -/
def fn48 : AFn := ⟨8,
 (.seq
  (.region [⟨some 2, none, .ex (.mov) [.k (.int .i64 0)]⟩])
  (.seq
   (.cond (.k (.bool false))
    (.seq
     (.region [⟨some 3, none, .ex (.mov) [.s 0]⟩,
       ⟨some 4, none, .ex (.toInt .u32) [.s 3]⟩,
       ⟨some 5, none, .callf 70 [.s 4]⟩,
       ⟨some 2, none, .ex (.mov) [.s 5]⟩])
     .ret)
    .skip)
   (.seq
    (.region [⟨some 6, none, .ex (.mov) [.s 0]⟩,
      ⟨some 7, none, .callf 71 [.s 6]⟩,
      ⟨some 2, none, .ex (.mov) [.s 7]⟩])
    .ret))),
 [.t 2]⟩
theorem c48 : compFn Go.Proofs.Tryz.prog 48 = some fn48 := by kernel_rfl

/-- cmp.isNaN[int] -/
def fn49 : AFn := ⟨6,
 (.seq
  (.region [⟨some 2, none, .ex (.mov) [.k (.bool false)]⟩])
  (.seq
   (.region [⟨some 3, none, .ex (.mov) [.s 0]⟩,
     ⟨some 4, none, .ex (.mov) [.s 0]⟩,
     ⟨some 5, none, .ex (.ibin .neq) [.s 3, .s 4]⟩,
     ⟨some 2, none, .ex (.mov) [.s 5]⟩])
   .ret)),
 [.t 2]⟩
theorem c49 : compFn Go.Proofs.Tryz.prog 49 = some fn49 := by kernel_rfl

/-- slices.Clone[[]rubric/api.Op,rubric/api.Op] -/
def fn50 : AFn := ⟨8,
 (.seq
  (.region [⟨some 2, none, .ex (.mov) [.k .nils]⟩])
  (.seq
   (.seq
    (.region [⟨some 3, none, .ex (.mov) [.s 0]⟩,
      ⟨some 4, none, .ex (.eqnil 1 false) [.s 3, .k .nils]⟩])
    (.cond (.s 4)
     (.seq
      (.region [⟨some 2, none, .ex (.mov) [.k .nils]⟩])
      .ret)
     .skip))
   (.seq
    (.region [⟨some 5, none, .ex (.bsl 5 0 [] []) []⟩,
      ⟨some 6, none, .ex (.mov) [.s 0]⟩,
      ⟨some 7, none, .ex (.app 5 88) [.s 5, .s 6]⟩,
      ⟨some 2, none, .ex (.mov) [.s 7]⟩])
    .ret))),
 [.t 2]⟩
theorem c50 : compFn Go.Proofs.Tryz.prog 50 = some fn50 := by kernel_rfl

/-- slices.Clone[[]int32,int32] -/
def fn51 : AFn := ⟨8,
 (.seq
  (.region [⟨some 2, none, .ex (.mov) [.k .nils]⟩])
  (.seq
   (.seq
    (.region [⟨some 3, none, .ex (.mov) [.s 0]⟩,
      ⟨some 4, none, .ex (.eqnil 1 false) [.s 3, .k .nils]⟩])
    (.cond (.s 4)
     (.seq
      (.region [⟨some 2, none, .ex (.mov) [.k .nils]⟩])
      .ret)
     .skip))
   (.seq
    (.region [⟨some 5, none, .ex (.bsl 1 0 [] []) []⟩,
      ⟨some 6, none, .ex (.mov) [.s 0]⟩,
      ⟨some 7, none, .ex (.app 1 4) [.s 5, .s 6]⟩,
      ⟨some 2, none, .ex (.mov) [.s 7]⟩])
    .ret))),
 [.t 2]⟩
theorem c51 : compFn Go.Proofs.Tryz.prog 51 = some fn51 := by kernel_rfl

/-- rubric/attrs.Copy -/
def fn52 : AFn := ⟨5,
 (.seq
  (.region [⟨some 2, none, .ex (.mov) [.k .nils]⟩])
  (.seq
   (.region [⟨some 3, none, .ex (.mov) [.s 0]⟩,
     ⟨some 4, none, .callf 72 [.s 3]⟩,
     ⟨some 2, none, .ex (.mov) [.s 4]⟩])
   .ret)),
 [.t 2]⟩
theorem c52 : compFn Go.Proofs.Tryz.prog 52 = some fn52 := by kernel_rfl

/-- rubric/patch.Copy -/
def fn53 : AFn := ⟨5,
 (.seq
  (.region [⟨some 2, none, .ex (.mov) [.k .nils]⟩])
  (.seq
   (.region [⟨some 3, none, .ex (.mov) [.s 0]⟩,
     ⟨some 4, none, .callf 73 [.s 3]⟩,
     ⟨some 2, none, .ex (.mov) [.s 4]⟩])
   .ret)),
 [.t 2]⟩
theorem c53 : compFn Go.Proofs.Tryz.prog 53 = some fn53 := by kernel_rfl

/-- slices.Clone[[]rubric/history.group,rubric/history.group] -/
def fn55 : AFn := ⟨8,
 (.seq
  (.region [⟨some 2, none, .ex (.mov) [.k .nils]⟩])
  (.seq
   (.seq
    (.region [⟨some 3, none, .ex (.mov) [.s 0]⟩,
      ⟨some 4, none, .ex (.eqnil 1 false) [.s 3, .k .nils]⟩])
    (.cond (.s 4)
     (.seq
      (.region [⟨some 2, none, .ex (.mov) [.k .nils]⟩])
      .ret)
     .skip))
   (.seq
    (.region [⟨some 5, none, .ex (.bsl 2 0 [] []) []⟩,
      ⟨some 6, none, .ex (.mov) [.s 0]⟩,
      ⟨some 7, none, .ex (.app 2 48) [.s 5, .s 6]⟩,
      ⟨some 2, none, .ex (.mov) [.s 7]⟩])
    .ret))),
 [.t 2]⟩
theorem c55 : compFn Go.Proofs.Tryz.prog 55 = some fn55 := by kernel_rfl

/-- slices.insertionSortCmpFunc[rubric/api.Key] -/
def fn62 : AFn := ⟨53,
 (.seq
  (.region [⟨some 10, none, .ex (.mov) [.s 1]⟩,
    ⟨some 11, none, .ex (.ibin .add) [.s 10, .k (.int .i64 1)]⟩,
    ⟨some 8, none, .ex (.mov) [.s 11]⟩])
  (.block 0
   (.loop
    (.seq
     (.seq
      (.region [⟨some 12, none, .ex (.mov) [.s 8]⟩,
        ⟨some 13, none, .ex (.mov) [.s 2]⟩,
        ⟨some 14, none, .ex (.ibin .lss) [.s 12, .s 13]⟩])
      (.cond (.s 14)
       .skip
       (.exit 0)))
     (.seq
      (.block 1
       (.seq
        (.region [⟨some 17, none, .ex (.mov) [.s 8]⟩,
          ⟨some 9, none, .ex (.mov) [.s 17]⟩])
        (.block 2
         (.loop
          (.seq
           (.seq
            (.draw (.op ⟨some 18, none, .ex (.mov) [.s 9]⟩ (.op ⟨some 19, none, .ex (.mov) [.s 1]⟩ (.op ⟨some 20, none, .ex (.ibin .gtr) [.s 18, .s 19]⟩ (.op ⟨some 21, none, .ex (.mov) [.s 20]⟩ (.op ⟨some 22, some (21, true), .ex (.mov) [.s 3]⟩ (.op ⟨some 23, some (21, true), .ex (.mov) [.s 0]⟩ (.op ⟨some 24, some (21, true), .ex (.mov) [.s 9]⟩ (.op ⟨some 25, some (21, true), .ex (.ia 6) [.s 23, .s 24]⟩ (.op ⟨some 26, some (21, true), .ex (.lda 6) [.s 25]⟩ (.op ⟨some 27, some (21, true), .ex (.mov) [.s 0]⟩ (.op ⟨some 28, some (21, true), .ex (.mov) [.s 9]⟩ (.op ⟨some 29, some (21, true), .ex (.ibin .sub) [.s 28, .k (.int .i64 1)]⟩ (.op ⟨some 30, some (21, true), .ex (.ia 6) [.s 27, .s 29]⟩ (.op ⟨some 31, some (21, true), .ex (.lda 6) [.s 30]⟩ (.op ⟨some 32, some (21, true), .callv (.s 22) [.s 26, .s 31]⟩ (.op ⟨some 33, some (21, true), .ex (.ibin .lss) [.s 32, .k (.int .i64 0)]⟩ (.op ⟨some 34, none, .ex (.pick) [.s 21, .s 33, .k (.bool false)]⟩ .done))))))))))))))))))
            (.cond (.s 34)
             .skip
             (.exit 2)))
           (.seq
            (.block 3
             (.draw (.op ⟨some 37, none, .ex (.mov) [.s 0]⟩ (.op ⟨some 38, none, .ex (.mov) [.s 9]⟩ (.op ⟨some 39, none, .ex (.mov) [.s 0]⟩ (.op ⟨some 40, none, .ex (.mov) [.s 9]⟩ (.op ⟨some 41, none, .ex (.ibin .sub) [.s 40, .k (.int .i64 1)]⟩ (.op ⟨some 42, none, .ex (.mov) [.s 0]⟩ (.op ⟨some 43, none, .ex (.mov) [.s 9]⟩ (.op ⟨some 44, none, .ex (.ibin .sub) [.s 43, .k (.int .i64 1)]⟩ (.op ⟨some 45, none, .ex (.ia 6) [.s 42, .s 44]⟩ (.op ⟨some 46, none, .ex (.lda 6) [.s 45]⟩ (.op ⟨some 47, none, .ex (.mov) [.s 0]⟩ (.op ⟨some 48, none, .ex (.mov) [.s 9]⟩ (.op ⟨some 49, none, .ex (.ia 6) [.s 47, .s 48]⟩ (.op ⟨some 50, none, .ex (.lda 6) [.s 49]⟩ (.op ⟨some 51, none, .ex (.ia 6) [.s 37, .s 38]⟩ (.op ⟨none, none, .ex (.st 6) [.s 51, .s 46]⟩ (.op ⟨some 52, none, .ex (.ia 6) [.s 39, .s 41]⟩ (.op ⟨none, none, .ex (.st 6) [.s 52, .s 50]⟩ .done))))))))))))))))))))
            (.region [⟨some 35, none, .ex (.mov) [.s 9]⟩,
              ⟨some 36, none, .ex (.ibin .sub) [.s 35, .k (.int .i64 1)]⟩,
              ⟨some 9, none, .ex (.mov) [.s 36]⟩])))))))
      (.region [⟨some 15, none, .ex (.mov) [.s 8]⟩,
        ⟨some 16, none, .ex (.ibin .add) [.s 15, .k (.int .i64 1)]⟩,
        ⟨some 8, none, .ex (.mov) [.s 16]⟩])))))),
 []⟩
theorem c62 : compFn Go.Proofs.Tryz.prog 62 = some fn62 := by kernel_rfl

/-- math/bits.Len64 -/
def fn71 : AFn := ⟨25,
 (.seq
  (.region [⟨some 2, none, .ex (.mov) [.k (.int .i64 0)]⟩])
  (.seq
   (.seq
    (.region [⟨some 3, none, .ex (.mov) [.s 0]⟩,
      ⟨some 4, none, .ex (.ibin .geq) [.s 3, .k (.int .u64 4294967296)]⟩])
    (.cond (.s 4)
     (.seq
      (.region [⟨some 5, none, .ex (.mov) [.s 0]⟩,
        ⟨some 6, none, .ex (.ibin .shr) [.s 5, .k (.int .u64 32)]⟩,
        ⟨some 0, none, .ex (.mov) [.s 6]⟩])
      (.region [⟨some 2, none, .ex (.mov) [.k (.int .i64 32)]⟩]))
     .skip))
   (.seq
    (.seq
     (.region [⟨some 7, none, .ex (.mov) [.s 0]⟩,
       ⟨some 8, none, .ex (.ibin .geq) [.s 7, .k (.int .u64 65536)]⟩])
     (.cond (.s 8)
      (.seq
       (.region [⟨some 9, none, .ex (.mov) [.s 0]⟩,
         ⟨some 10, none, .ex (.ibin .shr) [.s 9, .k (.int .u64 16)]⟩,
         ⟨some 0, none, .ex (.mov) [.s 10]⟩])
       (.region [⟨some 11, none, .ex (.mov) [.s 2]⟩,
         ⟨some 12, none, .ex (.ibin .add) [.s 11, .k (.int .i64 16)]⟩,
         ⟨some 2, none, .ex (.mov) [.s 12]⟩]))
      .skip))
    (.seq
     (.seq
      (.region [⟨some 13, none, .ex (.mov) [.s 0]⟩,
        ⟨some 14, none, .ex (.ibin .geq) [.s 13, .k (.int .u64 256)]⟩])
      (.cond (.s 14)
       (.seq
        (.region [⟨some 15, none, .ex (.mov) [.s 0]⟩,
          ⟨some 16, none, .ex (.ibin .shr) [.s 15, .k (.int .u64 8)]⟩,
          ⟨some 0, none, .ex (.mov) [.s 16]⟩])
        (.region [⟨some 17, none, .ex (.mov) [.s 2]⟩,
          ⟨some 18, none, .ex (.ibin .add) [.s 17, .k (.int .i64 8)]⟩,
          ⟨some 2, none, .ex (.mov) [.s 18]⟩]))
       .skip))
     (.seq
      (.region [⟨some 19, none, .ex (.mov) [.s 2]⟩,
        ⟨some 20, none, .ex (.mov) [.s 0]⟩,
        ⟨some 21, none, .ex (.toInt .u8) [.s 20]⟩,
        ⟨some 22, none, .ex (.idxs) [.k (.str ⟨#[0, 1, 2, 2, 3, 3, 3, 3, 4, 4, 4, 4, 4, 4, 4, 4, 5, 5, 5, 5, 5, 5, 5, 5, 5, 5, 5, 5, 5, 5, 5, 5, 6, 6, 6, 6, 6, 6, 6, 6, 6, 6, 6, 6, 6, 6, 6, 6, 6, 6, 6, 6, 6, 6, 6, 6, 6, 6, 6, 6, 6, 6, 6, 6, 7, 7, 7, 7, 7, 7, 7, 7, 7, 7, 7, 7, 7, 7, 7, 7, 7, 7, 7, 7, 7, 7, 7, 7, 7, 7, 7, 7, 7, 7, 7, 7, 7, 7, 7, 7, 7, 7, 7, 7, 7, 7, 7, 7, 7, 7, 7, 7, 7, 7, 7, 7, 7, 7, 7, 7, 7, 7, 7, 7, 7, 7, 7, 7, 8, 8, 8, 8, 8, 8, 8, 8, 8, 8, 8, 8, 8, 8, 8, 8, 8, 8, 8, 8, 8, 8, 8, 8, 8, 8, 8, 8, 8, 8, 8, 8, 8, 8, 8, 8, 8, 8, 8, 8, 8, 8, 8, 8, 8, 8, 8, 8, 8, 8, 8, 8, 8, 8, 8, 8, 8, 8, 8, 8, 8, 8, 8, 8, 8, 8, 8, 8, 8, 8, 8, 8, 8, 8, 8, 8, 8, 8, 8, 8, 8, 8, 8, 8, 8, 8, 8, 8, 8, 8, 8, 8, 8, 8, 8, 8, 8, 8, 8, 8, 8, 8, 8, 8, 8, 8, 8, 8, 8, 8, 8, 8, 8, 8, 8, 8, 8, 8, 8, 8, 8, 8, 8, 8, 8, 8, 8, 8]⟩), .s 21]⟩,
        ⟨some 23, none, .ex (.toInt .i64) [.s 22]⟩,
        ⟨some 24, none, .ex (.ibin .add) [.s 19, .s 23]⟩,
        ⟨some 2, none, .ex (.mov) [.s 24]⟩])
      .ret))))),
 [.t 2]⟩
theorem c71 : compFn Go.Proofs.Tryz.prog 71 = some fn71 := by kernel_rfl

/-- slices.Clone[[]rubric/api.Attr,rubric/api.Attr] -/
def fn72 : AFn := ⟨8,
 (.seq
  (.region [⟨some 2, none, .ex (.mov) [.k .nils]⟩])
  (.seq
   (.seq
    (.region [⟨some 3, none, .ex (.mov) [.s 0]⟩,
      ⟨some 4, none, .ex (.eqnil 1 false) [.s 3, .k .nils]⟩])
    (.cond (.s 4)
     (.seq
      (.region [⟨some 2, none, .ex (.mov) [.k .nils]⟩])
      .ret)
     .skip))
   (.seq
    (.region [⟨some 5, none, .ex (.bsl 5 0 [] []) []⟩,
      ⟨some 6, none, .ex (.mov) [.s 0]⟩,
      ⟨some 7, none, .ex (.app 5 48) [.s 5, .s 6]⟩,
      ⟨some 2, none, .ex (.mov) [.s 7]⟩])
    .ret))),
 [.t 2]⟩
theorem c72 : compFn Go.Proofs.Tryz.prog 72 = some fn72 := by kernel_rfl

/-- slices.Clone[[]rubric/api.Change,rubric/api.Change] -/
def fn73 : AFn := ⟨8,
 (.seq
  (.region [⟨some 2, none, .ex (.mov) [.k .nils]⟩])
  (.seq
   (.seq
    (.region [⟨some 3, none, .ex (.mov) [.s 0]⟩,
      ⟨some 4, none, .ex (.eqnil 1 false) [.s 3, .k .nils]⟩])
    (.cond (.s 4)
     (.seq
      (.region [⟨some 2, none, .ex (.mov) [.k .nils]⟩])
      .ret)
     .skip))
   (.seq
    (.region [⟨some 5, none, .ex (.bsl 6 0 [] []) []⟩,
      ⟨some 6, none, .ex (.mov) [.s 0]⟩,
      ⟨some 7, none, .ex (.app 6 56) [.s 5, .s 6]⟩,
      ⟨some 2, none, .ex (.mov) [.s 7]⟩])
    .ret))),
 [.t 2]⟩
theorem c73 : compFn Go.Proofs.Tryz.prog 73 = some fn73 := by kernel_rfl

/-- rubric/rubriclaw27.HistoryBack -/
def fn3 : AFn := ⟨201,
 (.seq
  (.region [⟨some 4, none, .ex (.mov) [.k (.bool false)]⟩])
  (.seq
   (.region [⟨some 31, none, .callf 9 [.k .nils]⟩,
     ⟨some 30, none, .ex (.mov) [.s 31]⟩,
     ⟨some 32, none, .ex (.ext 0) [.s 30]⟩,
     ⟨some 33, none, .ex (.ext 1) [.s 30]⟩,
     ⟨some 5, none, .ex (.mov) [.s 32]⟩,
     ⟨some 6, none, .ex (.mov) [.s 33]⟩])
   (.seq
    (.region [⟨some 35, none, .ex (.mov) [.s 5]⟩,
      ⟨some 36, none, .ex (.mov) [.s 0]⟩,
      ⟨some 37, none, .callf 10 [.s 35, .s 36]⟩,
      ⟨some 34, none, .ex (.mov) [.s 37]⟩,
      ⟨some 38, none, .ex (.ext 0) [.s 34]⟩,
      ⟨some 39, none, .ex (.ext 1) [.s 34]⟩,
      ⟨some 7, none, .ex (.mov) [.s 38]⟩,
      ⟨some 8, none, .ex (.mov) [.s 39]⟩])
    (.seq
     (.seq
      (.region [⟨some 40, none, .ex (.mov) [.s 6]⟩,
        ⟨some 41, none, .ex (.ibin .neq) [.s 40, .k (.int .i64 0)]⟩,
        ⟨some 42, none, .ex (.mov) [.s 41]⟩,
        ⟨some 43, some (42, false), .ex (.mov) [.s 8]⟩,
        ⟨some 44, some (42, false), .ex (.ibin .neq) [.s 43, .k (.int .i64 0)]⟩,
        ⟨some 45, none, .ex (.pick) [.s 42, .k (.bool true), .s 44]⟩,
        ⟨some 46, none, .ex (.mov) [.s 45]⟩,
        ⟨some 47, some (46, false), .ex (.mov) [.s 7]⟩,
        ⟨some 48, some (46, false), .ex (.eqnil 0 false) [.s 47, .k .nilp]⟩,
        ⟨some 49, none, .ex (.pick) [.s 46, .k (.bool true), .s 48]⟩,
        ⟨some 50, none, .ex (.mov) [.s 49]⟩,
        ⟨some 51, some (50, false), .ex (.mov) [.s 1]⟩,
        ⟨some 52, some (50, false), .ex (.len) [.s 51]⟩,
        ⟨some 53, some (50, false), .ex (.ibin .gtr) [.s 52, .k (.int .i64 40)]⟩,
        ⟨some 54, none, .ex (.pick) [.s 50, .k (.bool true), .s 53]⟩])
      (.cond (.s 54)
       (.seq
        (.region [⟨some 55, none, .callf 11 []⟩,
          ⟨some 4, none, .ex (.mov) [.s 55]⟩])
        .ret)
       .skip))
     (.seq
      (.seq
       (.region [⟨some 56, none, .ex (.mov) [.s 1]⟩,
         ⟨some 57, none, .ex (.len) [.s 56]⟩,
         ⟨some 58, none, .ex (.mov) [.k (.int .i64 0)]⟩])
       (.block 0
        (.loop
         (.seq
          (.region [⟨some 59, none, .ex (.ibin .lss) [.s 58, .s 57]⟩])
          (.seq
           (.cond (.s 59)
            .skip
            (.exit 0))
           (.seq
            (.block 1
             (.seq
              (.region [⟨some 60, none, .ex (.ia 1) [.s 56, .s 58]⟩,
                ⟨some 61, none, .ex (.ld 1) [.s 60]⟩,
                ⟨some 10, none, .ex (.mov) [.s 61]⟩])
              (.seq
               (.region [⟨some 63, none, .ex (.mov) [.s 10]⟩,
                 ⟨some 64, none, .ex (.toInt .u64) [.s 63]⟩,
                 ⟨some 65, none, .ex (.ibin .rem) [.s 64, .k (.int .u64 26)]⟩,
                 ⟨some 66, none, .ex (.ibin .add) [.k (.int .u64 97), .s 65]⟩,
                 ⟨some 67, none, .ex (.toInt .i32) [.s 66]⟩,
                 ⟨some 68, none, .callf 12 [.s 67]⟩,
                 ⟨some 62, none, .ex (.mov) [.s 68]⟩,
                 ⟨some 69, none, .ex (.ext 0) [.s 62]⟩,
                 ⟨some 70, none, .ex (.ext 1) [.s 62]⟩,
                 ⟨some 11, none, .ex (.mov) [.s 69]⟩,
                 ⟨some 12, none, .ex (.mov) [.s 70]⟩])
               (.seq
                (.region [⟨some 71, none, .ex (.mov) [.s 12]⟩,
                  ⟨some 72, none, .ex (.mov) [.s 10]⟩,
                  ⟨some 73, none, .ex (.toInt .u64) [.s 72]⟩,
                  ⟨some 74, none, .ex (.ibin .rem) [.s 73, .k (.int .u64 9)]⟩,
                  ⟨some 75, none, .ex (.toInt .i64) [.s 74]⟩,
                  ⟨some 76, none, .ex (.ibin .add) [.k (.int .i64 1), .s 75]⟩,
                  ⟨some 77, none, .ex (.ia 5) [.s 71, .k (.int .i64 0)]⟩,
                  ⟨some 78, none, .ex (.fa 1) [.s 77]⟩,
                  ⟨none, none, .ex (.st 1) [.s 78, .s 76]⟩])
                (.seq
                 (.region [⟨some 79, none, .ex (.mov) [.s 7]⟩,
                   ⟨some 80, none, .ex (.mov) [.s 11]⟩,
                   ⟨some 81, none, .ex (.mov) [.s 12]⟩,
                   ⟨some 82, none, .callf 13 [.s 79, .s 80, .s 81]⟩,
                   ⟨some 83, none, .ex (.ibin .neq) [.s 82, .k (.int .i64 0)]⟩])
                 (.cond (.s 83)
                  (.seq
                   (.region [⟨some 4, none, .ex (.mov) [.k (.bool false)]⟩])
                   .ret)
                  .skip))))))
            (.region [⟨some 84, none, .ex (.ibin .add) [.s 58, .k (.int .i64 1)]⟩,
              ⟨some 58, none, .ex (.mov) [.s 84]⟩])))))))
      (.seq
       (.region [⟨some 85, none, .ex (.mov) [.s 0]⟩,
         ⟨some 86, none, .ex (.mov) [.s 1]⟩,
         ⟨some 87, none, .ex (.len) [.s 86]⟩,
         ⟨some 88, none, .ex (.mn) [.s 85, .s 87]⟩,
         ⟨some 13, none, .ex (.mov) [.s 88]⟩])
       (.seq
        (.seq
         (.region [⟨some 89, none, .ex (.mov) [.k (.int .i64 0)]⟩])
         (.block 2
          (.loop
           (.seq
            (.region [⟨some 90, none, .ex (.ibin .lss) [.s 89, .k (.int .i64 2)]⟩])
            (.seq
             (.cond (.s 90)
              .skip
              (.exit 2))
             (.seq
              (.block 3
               (.seq
                (.region [⟨some 91, none, .ex (.mov) [.s 89]⟩,
                  ⟨some 14, none, .ex (.mov) [.s 91]⟩])
                (.seq
                 (.seq
                  (.region [⟨some 92, none, .ex (.mov) [.s 13]⟩,
                    ⟨some 93, none, .ex (.mov) [.k (.int .i64 0)]⟩])
                  (.block 4
                   (.loop
                    (.seq
                     (.region [⟨some 94, none, .ex (.ibin .lss) [.s 93, .s 92]⟩])
                     (.seq
                      (.cond (.s 94)
                       .skip
                       (.exit 4))
                      (.seq
                       (.block 5
                        (.seq
                         (.region [⟨some 95, none, .ex (.mov) [.s 93]⟩,
                           ⟨some 15, none, .ex (.mov) [.s 95]⟩])
                         (.seq
                          (.region [⟨some 96, none, .ex (.mov) [.s 1]⟩,
                            ⟨some 97, none, .ex (.mov) [.s 1]⟩,
                            ⟨some 98, none, .ex (.len) [.s 97]⟩,
                            ⟨some 99, none, .ex (.ibin .sub) [.s 98, .k (.int .i64 1)]⟩,
                            ⟨some 100, none, .ex (.mov) [.s 15]⟩,
                            ⟨some 101, none, .ex (.ibin .sub) [.s 99, .s 100]⟩,
                            ⟨some 102, none, .ex (.ia 1) [.s 96, .s 101]⟩,
                            ⟨some 103, none, .ex (.ld 1) [.s 102]⟩,
                            ⟨some 16, none, .ex (.mov) [.s 103]⟩])
                          (.seq
                           (.region [⟨some 105, none, .ex (.mov) [.s 7]⟩,
                             ⟨some 106, none, .callf 14 [.s 105]⟩,
                             ⟨some 104, none, .ex (.mov) [.s 106]⟩,
                             ⟨some 107, none, .ex (.ext 0) [.s 104]⟩,
                             ⟨some 108, none, .ex (.ext 1) [.s 104]⟩,
                             ⟨some 17, none, .ex (.mov) [.s 107]⟩,
                             ⟨some 18, none, .ex (.mov) [.s 108]⟩])
                           (.seq
                            (.seq
                             (.region [⟨some 109, none, .ex (.mov) [.s 18]⟩,
                               ⟨some 110, none, .ex (.ibin .neq) [.s 109, .k (.int .i64 0)]⟩,
                               ⟨some 111, none, .ex (.mov) [.s 110]⟩,
                               ⟨some 112, some (111, false), .ex (.mov) [.s 17]⟩,
                               ⟨some 113, some (111, false), .ex (.len) [.s 112]⟩,
                               ⟨some 114, some (111, false), .ex (.ibin .neq) [.s 113, .k (.int .i64 1)]⟩,
                               ⟨some 115, none, .ex (.pick) [.s 111, .k (.bool true), .s 114]⟩,
                               ⟨some 116, none, .ex (.mov) [.s 115]⟩,
                               ⟨some 117, some (116, false), .ex (.mov) [.s 17]⟩,
                               ⟨some 118, some (116, false), .ex (.ia 5) [.s 117, .k (.int .i64 0)]⟩,
                               ⟨some 119, some (116, false), .ex (.fa 1) [.s 118]⟩,
                               ⟨some 120, some (116, false), .ex (.ld 1) [.s 119]⟩,
                               ⟨some 121, some (116, false), .ex (.mov) [.s 16]⟩,
                               ⟨some 122, some (116, false), .ex (.toInt .u64) [.s 121]⟩,
                               ⟨some 123, some (116, false), .ex (.ibin .rem) [.s 122, .k (.int .u64 9)]⟩,
                               ⟨some 124, some (116, false), .ex (.toInt .i64) [.s 123]⟩,
                               ⟨some 125, some (116, false), .ex (.ibin .add) [.k (.int .i64 1), .s 124]⟩,
                               ⟨some 126, some (116, false), .ex (.ibin .neq) [.s 120, .s 125]⟩,
                               ⟨some 127, none, .ex (.pick) [.s 116, .k (.bool true), .s 126]⟩])
                             (.cond (.s 127)
                              (.seq
                               (.region [⟨some 4, none, .ex (.mov) [.k (.bool false)]⟩])
                               .ret)
                              .skip))
                            (.seq
                             (.region [⟨some 129, none, .ex (.mov) [.s 7]⟩,
                               ⟨some 130, none, .callf 15 [.s 129]⟩,
                               ⟨some 128, none, .ex (.mov) [.s 130]⟩,
                               ⟨some 131, none, .ex (.ext 0) [.s 128]⟩,
                               ⟨some 132, none, .ex (.ext 1) [.s 128]⟩,
                               ⟨some 19, none, .ex (.mov) [.s 131]⟩,
                               ⟨some 20, none, .ex (.mov) [.s 132]⟩])
                             (.seq
                              (.region [⟨some 133, none, .ex (.mov) [.s 19]⟩,
                                ⟨some 134, none, .ex (.mov) [.s 13]⟩,
                                ⟨some 135, none, .ex (.ibin .sub) [.s 134, .k (.int .i64 1)]⟩,
                                ⟨some 136, none, .ex (.mov) [.s 15]⟩,
                                ⟨some 137, none, .ex (.ibin .sub) [.s 135, .s 136]⟩,
                                ⟨some 138, none, .ex (.ibin .neq) [.s 133, .s 137]⟩,
                                ⟨some 139, none, .ex (.mov) [.s 138]⟩,
                                ⟨some 140, some (139, false), .ex (.mov) [.s 20]⟩,
                                ⟨some 141, some (139, false), .ex (.mov) [.s 15]⟩,
                                ⟨some 142, some (139, false), .ex (.ibin .add) [.s 141, .k (.int .i64 1)]⟩,
                                ⟨some 143, some (139, false), .ex (.ibin .neq) [.s 140, .s 142]⟩,
                                ⟨some 144, none, .ex (.pick) [.s 139, .k (.bool true), .s 143]⟩])
                              (.cond (.s 144)
                               (.seq
                                (.region [⟨some 4, none, .ex (.mov) [.k (.bool false)]⟩])
                                .ret)
                               .skip))))))))
                       (.region [⟨some 145, none, .ex (.ibin .add) [.s 93, .k (.int .i64 1)]⟩,
                         ⟨some 93, none, .ex (.mov) [.s 145]⟩])))))))
                 (.seq
                  (.seq
                   (.region [⟨some 147, none, .ex (.mov) [.s 7]⟩,
                     ⟨some 148, none, .callf 14 [.s 147]⟩,
                     ⟨some 146, none, .ex (.mov) [.s 148]⟩,
                     ⟨some 149, none, .ex (.ext 0) [.s 146]⟩,
                     ⟨some 150, none, .ex (.ext 1) [.s 146]⟩,
                     ⟨some 21, none, .ex (.mov) [.s 149]⟩,
                     ⟨some 22, none, .ex (.mov) [.s 150]⟩])
                   (.seq
                    (.region [⟨some 151, none, .ex (.mov) [.s 22]⟩,
                      ⟨some 152, none, .ex (.ibin .neq) [.s 151, .k (.int .i64 10)]⟩])
                    (.cond (.s 152)
                     (.seq
                      (.region [⟨some 4, none, .ex (.mov) [.k (.bool false)]⟩])
                      .ret)
                     .skip)))
                  (.seq
                   (.seq
                    (.region [⟨some 153, none, .ex (.mov) [.s 13]⟩,
                      ⟨some 154, none, .ex (.mov) [.k (.int .i64 0)]⟩])
                    (.block 6
                     (.loop
                      (.seq
                       (.region [⟨some 155, none, .ex (.ibin .lss) [.s 154, .s 153]⟩])
                       (.seq
                        (.cond (.s 155)
                         .skip
                         (.exit 6))
                        (.seq
                         (.block 7
                          (.seq
                           (.region [⟨some 156, none, .ex (.mov) [.s 154]⟩,
                             ⟨some 23, none, .ex (.mov) [.s 156]⟩])
                           (.seq
                            (.region [⟨some 158, none, .ex (.mov) [.s 1]⟩,
                              ⟨some 159, none, .ex (.mov) [.s 1]⟩,
                              ⟨some 160, none, .ex (.len) [.s 159]⟩,
                              ⟨some 161, none, .ex (.mov) [.s 13]⟩,
                              ⟨some 162, none, .ex (.ibin .sub) [.s 160, .s 161]⟩,
                              ⟨some 163, none, .ex (.mov) [.s 23]⟩,
                              ⟨some 164, none, .ex (.ibin .add) [.s 162, .s 163]⟩,
                              ⟨some 165, none, .ex (.ia 1) [.s 158, .s 164]⟩,
                              ⟨some 166, none, .ex (.ld 1) [.s 165]⟩,
                              ⟨some 167, none, .ex (.toInt .u64) [.s 166]⟩,
                              ⟨some 168, none, .ex (.ibin .rem) [.s 167, .k (.int .u64 26)]⟩,
                              ⟨some 169, none, .ex (.ibin .add) [.k (.int .u64 97), .s 168]⟩,
                              ⟨some 170, none, .ex (.toInt .i32) [.s 169]⟩,
                              ⟨some 171, none, .callf 12 [.s 170]⟩,
                              ⟨some 157, none, .ex (.mov) [.s 171]⟩,
                              ⟨some 172, none, .ex (.ext 0) [.s 157]⟩,
                              ⟨some 173, none, .ex (.ext 1) [.s 157]⟩,
                              ⟨some 24, none, .ex (.mov) [.s 172]⟩,
                              ⟨some 25, none, .ex (.mov) [.s 173]⟩])
                            (.seq
                             (.region [⟨some 175, none, .ex (.mov) [.s 7]⟩,
                               ⟨some 176, none, .callf 16 [.s 175]⟩,
                               ⟨some 174, none, .ex (.mov) [.s 176]⟩,
                               ⟨some 177, none, .ex (.ext 0) [.s 174]⟩,
                               ⟨some 178, none, .ex (.ext 1) [.s 174]⟩,
                               ⟨some 26, none, .ex (.mov) [.s 177]⟩,
                               ⟨some 27, none, .ex (.mov) [.s 178]⟩])
                             (.seq
                              (.region [⟨some 179, none, .ex (.mov) [.s 27]⟩,
                                ⟨some 180, none, .ex (.ibin .neq) [.s 179, .k (.int .i64 0)]⟩,
                                ⟨some 181, none, .ex (.mov) [.s 180]⟩,
                                ⟨some 182, some (181, false), .ex (.mov) [.s 26]⟩,
                                ⟨some 183, some (181, false), .ex (.mov) [.s 24]⟩,
                                ⟨some 184, some (181, false), .callf 17 [.s 182, .s 183]⟩,
                                ⟨some 185, some (181, false), .ex (.bnot) [.s 184]⟩,
                                ⟨some 186, none, .ex (.pick) [.s 181, .k (.bool true), .s 185]⟩])
                              (.cond (.s 186)
                               (.seq
                                (.region [⟨some 4, none, .ex (.mov) [.k (.bool false)]⟩])
                                .ret)
                               .skip))))))
                         (.region [⟨some 187, none, .ex (.ibin .add) [.s 154, .k (.int .i64 1)]⟩,
                           ⟨some 154, none, .ex (.mov) [.s 187]⟩])))))))
                   (.seq
                    (.region [⟨some 189, none, .ex (.mov) [.s 7]⟩,
                      ⟨some 190, none, .callf 16 [.s 189]⟩,
                      ⟨some 188, none, .ex (.mov) [.s 190]⟩,
                      ⟨some 191, none, .ex (.ext 0) [.s 188]⟩,
                      ⟨some 192, none, .ex (.ext 1) [.s 188]⟩,
                      ⟨some 28, none, .ex (.mov) [.s 191]⟩,
                      ⟨some 29, none, .ex (.mov) [.s 192]⟩])
                    (.seq
                     (.region [⟨some 193, none, .ex (.mov) [.s 29]⟩,
                       ⟨some 194, none, .ex (.ibin .neq) [.s 193, .k (.int .i64 10)]⟩,
                       ⟨some 195, none, .ex (.mov) [.s 194]⟩,
                       ⟨some 196, some (195, false), .ex (.mov) [.s 14]⟩,
                       ⟨some 197, some (195, false), .ex (.ibin .gtr) [.s 196, .k (.int .i64 1)]⟩,
                       ⟨some 198, none, .ex (.pick) [.s 195, .k (.bool true), .s 197]⟩])
                     (.cond (.s 198)
                      (.seq
                       (.region [⟨some 4, none, .ex (.mov) [.k (.bool false)]⟩])
                       .ret)
                      .skip))))))))
              (.region [⟨some 199, none, .ex (.ibin .add) [.s 89, .k (.int .i64 1)]⟩,
                ⟨some 89, none, .ex (.mov) [.s 199]⟩])))))))
        (.seq
         (.region [⟨some 200, none, .callf 11 []⟩,
           ⟨some 4, none, .ex (.mov) [.s 200]⟩])
         .ret)))))))),
 [.t 4]⟩
theorem c3 : compFn Go.Proofs.Tryz.prog 3 = some fn3 := by kernel_rfl

/-- rubric/rubriclaw27.HistoryEmpties -/
def fn4 : AFn := ⟨137,
 (.seq
  (.region [⟨some 4, none, .ex (.mov) [.k (.bool false)]⟩])
  (.seq
   (.seq
    (.region [⟨some 21, none, .ex (.mov) [.s 0]⟩,
      ⟨some 22, none, .ex (.ibin .lss) [.s 21, .k (.int .i64 1)]⟩,
      ⟨some 23, none, .ex (.mov) [.s 22]⟩,
      ⟨some 24, some (23, false), .ex (.mov) [.s 0]⟩,
      ⟨some 25, some (23, false), .ex (.ibin .gtr) [.s 24, .k (.int .i64 20)]⟩,
      ⟨some 26, none, .ex (.pick) [.s 23, .k (.bool true), .s 25]⟩,
      ⟨some 27, none, .ex (.mov) [.s 26]⟩,
      ⟨some 28, some (27, false), .ex (.mov) [.s 1]⟩,
      ⟨some 29, some (27, false), .ex (.ibin .lss) [.s 28, .k (.int .i64 1)]⟩,
      ⟨some 30, none, .ex (.pick) [.s 27, .k (.bool true), .s 29]⟩,
      ⟨some 31, none, .ex (.mov) [.s 30]⟩,
      ⟨some 32, some (31, false), .ex (.mov) [.s 1]⟩,
      ⟨some 33, some (31, false), .ex (.mov) [.s 0]⟩,
      ⟨some 34, some (31, false), .ex (.ibin .gtr) [.s 32, .s 33]⟩,
      ⟨some 35, none, .ex (.pick) [.s 31, .k (.bool true), .s 34]⟩])
    (.cond (.s 35)
     (.seq
      (.region [⟨some 36, none, .callf 11 []⟩,
        ⟨some 4, none, .ex (.mov) [.s 36]⟩])
      .ret)
     .skip))
   (.seq
    (.region [⟨some 38, none, .callf 9 [.k .nils]⟩,
      ⟨some 37, none, .ex (.mov) [.s 38]⟩,
      ⟨some 39, none, .ex (.ext 0) [.s 37]⟩,
      ⟨some 40, none, .ex (.ext 1) [.s 37]⟩,
      ⟨some 5, none, .ex (.mov) [.s 39]⟩,
      ⟨some 6, none, .ex (.mov) [.s 40]⟩])
    (.seq
     (.region [⟨some 42, none, .ex (.mov) [.s 5]⟩,
       ⟨some 43, none, .callf 10 [.s 42, .k (.int .i64 20)]⟩,
       ⟨some 41, none, .ex (.mov) [.s 43]⟩,
       ⟨some 44, none, .ex (.ext 0) [.s 41]⟩,
       ⟨some 45, none, .ex (.ext 1) [.s 41]⟩,
       ⟨some 7, none, .ex (.mov) [.s 44]⟩,
       ⟨some 8, none, .ex (.mov) [.s 45]⟩])
     (.seq
      (.seq
       (.region [⟨some 46, none, .ex (.mov) [.s 6]⟩,
         ⟨some 47, none, .ex (.ibin .neq) [.s 46, .k (.int .i64 0)]⟩,
         ⟨some 48, none, .ex (.mov) [.s 47]⟩,
         ⟨some 49, some (48, false), .ex (.mov) [.s 8]⟩,
         ⟨some 50, some (48, false), .ex (.ibin .neq) [.s 49, .k (.int .i64 0)]⟩,
         ⟨some 51, none, .ex (.pick) [.s 48, .k (.bool true), .s 50]⟩,
         ⟨some 52, none, .ex (.mov) [.s 51]⟩,
         ⟨some 53, some (52, false), .ex (.mov) [.s 7]⟩,
         ⟨some 54, some (52, false), .ex (.eqnil 0 false) [.s 53, .k .nilp]⟩,
         ⟨some 55, none, .ex (.pick) [.s 52, .k (.bool true), .s 54]⟩])
       (.cond (.s 55)
        (.seq
         (.region [⟨some 4, none, .ex (.mov) [.k (.bool false)]⟩])
         .ret)
        .skip))
      (.seq
       (.region [⟨some 57, none, .callf 12 [.k (.int .i32 120)]⟩,
         ⟨some 56, none, .ex (.mov) [.s 57]⟩,
         ⟨some 58, none, .ex (.ext 0) [.s 56]⟩,
         ⟨some 59, none, .ex (.ext 1) [.s 56]⟩,
         ⟨some 9, none, .ex (.mov) [.s 58]⟩,
         ⟨some 10, none, .ex (.mov) [.s 59]⟩])
       (.seq
        (.seq
         (.region [⟨some 60, none, .ex (.mov) [.s 0]⟩,
           ⟨some 61, none, .ex (.mov) [.k (.int .i64 0)]⟩])
         (.block 0
          (.loop
           (.seq
            (.region [⟨some 62, none, .ex (.ibin .lss) [.s 61, .s 60]⟩])
            (.seq
             (.cond (.s 62)
              .skip
              (.exit 0))
             (.seq
              (.block 1
               (.seq
                (.region [⟨some 63, none, .ex (.mov) [.s 7]⟩,
                  ⟨some 64, none, .ex (.mov) [.s 9]⟩,
                  ⟨some 65, none, .ex (.mov) [.s 10]⟩,
                  ⟨some 66, none, .callf 13 [.s 63, .s 64, .s 65]⟩,
                  ⟨some 67, none, .ex (.ibin .neq) [.s 66, .k (.int .i64 0)]⟩])
                (.cond (.s 67)
                 (.seq
                  (.region [⟨some 4, none, .ex (.mov) [.k (.bool false)]⟩])
                  .ret)
                 .skip)))
              (.region [⟨some 68, none, .ex (.ibin .add) [.s 61, .k (.int .i64 1)]⟩,
                ⟨some 61, none, .ex (.mov) [.s 68]⟩])))))))
        (.seq
         (.seq
          (.region [⟨some 69, none, .ex (.mov) [.s 1]⟩,
            ⟨some 70, none, .ex (.mov) [.k (.int .i64 0)]⟩])
          (.block 2
           (.loop
            (.seq
             (.region [⟨some 71, none, .ex (.ibin .lss) [.s 70, .s 69]⟩])
             (.seq
              (.cond (.s 71)
               .skip
               (.exit 2))
              (.seq
               (.block 3
                (.seq
                 (.region [⟨some 73, none, .ex (.mov) [.s 7]⟩,
                   ⟨some 74, none, .callf 14 [.s 73]⟩,
                   ⟨some 72, none, .ex (.mov) [.s 74]⟩,
                   ⟨some 75, none, .ex (.ext 0) [.s 72]⟩,
                   ⟨some 76, none, .ex (.ext 1) [.s 72]⟩,
                   ⟨some 11, none, .ex (.mov) [.s 75]⟩,
                   ⟨some 12, none, .ex (.mov) [.s 76]⟩])
                 (.seq
                  (.region [⟨some 77, none, .ex (.mov) [.s 12]⟩,
                    ⟨some 78, none, .ex (.ibin .neq) [.s 77, .k (.int .i64 0)]⟩])
                  (.cond (.s 78)
                   (.seq
                    (.region [⟨some 4, none, .ex (.mov) [.k (.bool false)]⟩])
                    .ret)
                   .skip))))
               (.region [⟨some 79, none, .ex (.ibin .add) [.s 70, .k (.int .i64 1)]⟩,
                 ⟨some 70, none, .ex (.mov) [.s 79]⟩])))))))
         (.seq
          (.seq
           (.region [⟨some 81, none, .ex (.mov) [.s 7]⟩,
             ⟨some 82, none, .callf 16 [.s 81]⟩,
             ⟨some 80, none, .ex (.mov) [.s 82]⟩,
             ⟨some 83, none, .ex (.ext 0) [.s 80]⟩,
             ⟨some 84, none, .ex (.ext 1) [.s 80]⟩,
             ⟨some 13, none, .ex (.mov) [.s 83]⟩,
             ⟨some 14, none, .ex (.mov) [.s 84]⟩])
           (.seq
            (.region [⟨some 85, none, .ex (.mov) [.s 14]⟩,
              ⟨some 86, none, .ex (.ibin .neq) [.s 85, .k (.int .i64 0)]⟩])
            (.cond (.s 86)
             (.seq
              (.region [⟨some 4, none, .ex (.mov) [.k (.bool false)]⟩])
              .ret)
             .skip)))
          (.seq
           (.seq
            (.region [⟨some 88, none, .ex (.mov) [.s 7]⟩,
              ⟨some 89, none, .callf 15 [.s 88]⟩,
              ⟨some 87, none, .ex (.mov) [.s 89]⟩,
              ⟨some 90, none, .ex (.ext 0) [.s 87]⟩,
              ⟨some 91, none, .ex (.ext 1) [.s 87]⟩,
              ⟨some 15, none, .ex (.mov) [.s 90]⟩,
              ⟨some 16, none, .ex (.mov) [.s 91]⟩])
            (.seq
             (.region [⟨some 92, none, .ex (.mov) [.s 15]⟩,
               ⟨some 93, none, .ex (.mov) [.s 0]⟩,
               ⟨some 94, none, .ex (.mov) [.s 1]⟩,
               ⟨some 95, none, .ex (.ibin .sub) [.s 93, .s 94]⟩,
               ⟨some 96, none, .ex (.ibin .add) [.s 95, .k (.int .i64 1)]⟩,
               ⟨some 97, none, .ex (.ibin .neq) [.s 92, .s 96]⟩,
               ⟨some 98, none, .ex (.mov) [.s 97]⟩,
               ⟨some 99, some (98, false), .ex (.mov) [.s 16]⟩,
               ⟨some 100, some (98, false), .ex (.mov) [.s 1]⟩,
               ⟨some 101, some (98, false), .ex (.ibin .sub) [.s 100, .k (.int .i64 1)]⟩,
               ⟨some 102, some (98, false), .ex (.ibin .neq) [.s 99, .s 101]⟩,
               ⟨some 103, none, .ex (.pick) [.s 98, .k (.bool true), .s 102]⟩])
             (.cond (.s 103)
              (.seq
               (.region [⟨some 4, none, .ex (.mov) [.k (.bool false)]⟩])
               .ret)
              .skip)))
           (.seq
            (.seq
             (.region [⟨some 104, none, .ex (.mov) [.s 7]⟩,
               ⟨some 105, none, .ex (.mov) [.s 9]⟩,
               ⟨some 106, none, .ex (.mov) [.s 10]⟩,
               ⟨some 107, none, .callf 13 [.s 104, .s 105, .s 106]⟩,
               ⟨some 108, none, .ex (.ibin .neq) [.s 107, .k (.int .i64 0)]⟩])
             (.cond (.s 108)
              (.seq
               (.region [⟨some 4, none, .ex (.mov) [.k (.bool false)]⟩])
               .ret)
              .skip))
            (.seq
             (.region [⟨some 110, none, .ex (.mov) [.s 7]⟩,
               ⟨some 111, none, .callf 16 [.s 110]⟩,
               ⟨some 109, none, .ex (.mov) [.s 111]⟩,
               ⟨some 112, none, .ex (.ext 0) [.s 109]⟩,
               ⟨some 113, none, .ex (.ext 1) [.s 109]⟩,
               ⟨some 17, none, .ex (.mov) [.s 112]⟩,
               ⟨some 18, none, .ex (.mov) [.s 113]⟩])
             (.seq
              (.region [⟨some 115, none, .ex (.mov) [.s 7]⟩,
                ⟨some 116, none, .callf 15 [.s 115]⟩,
                ⟨some 114, none, .ex (.mov) [.s 116]⟩,
                ⟨some 117, none, .ex (.ext 0) [.s 114]⟩,
                ⟨some 118, none, .ex (.ext 1) [.s 114]⟩,
                ⟨some 19, none, .ex (.mov) [.s 117]⟩,
                ⟨some 20, none, .ex (.mov) [.s 118]⟩])
              (.seq
               (.region [⟨some 119, none, .ex (.mov) [.s 18]⟩,
                 ⟨some 120, none, .ex (.ibin .eql) [.s 119, .k (.int .i64 10)]⟩,
                 ⟨some 121, none, .ex (.mov) [.s 120]⟩,
                 ⟨some 122, some (121, true), .ex (.mov) [.s 19]⟩,
                 ⟨some 123, some (121, true), .ex (.mov) [.s 0]⟩,
                 ⟨some 124, some (121, true), .ex (.mov) [.s 1]⟩,
                 ⟨some 125, some (121, true), .ex (.ibin .sub) [.s 123, .s 124]⟩,
                 ⟨some 126, some (121, true), .ex (.ibin .add) [.s 125, .k (.int .i64 2)]⟩,
                 ⟨some 127, some (121, true), .ex (.mn) [.s 126, .k (.int .i64 20)]⟩,
                 ⟨some 128, some (121, true), .ex (.ibin .eql) [.s 122, .s 127]⟩,
                 ⟨some 129, none, .ex (.pick) [.s 121, .s 128, .k (.bool false)]⟩,
                 ⟨some 130, none, .ex (.mov) [.s 129]⟩,
                 ⟨some 131, some (130, true), .ex (.mov) [.s 20]⟩,
                 ⟨some 132, some (130, true), .ex (.ibin .eql) [.s 131, .k (.int .i64 0)]⟩,
                 ⟨some 133, none, .ex (.pick) [.s 130, .s 132, .k (.bool false)]⟩,
                 ⟨some 134, none, .ex (.mov) [.s 133]⟩,
                 ⟨some 135, some (134, true), .callf 11 []⟩,
                 ⟨some 136, none, .ex (.pick) [.s 134, .s 135, .k (.bool false)]⟩,
                 ⟨some 4, none, .ex (.mov) [.s 136]⟩])
               .ret)))))))))))))),
 [.t 4]⟩
theorem c4 : compFn Go.Proofs.Tryz.prog 4 = some fn4 := by kernel_rfl

/-- rubric/rubriclaw27.HistoryNone -/
def fn6 : AFn := ⟨84,
 (.seq
  (.region [⟨some 4, none, .ex (.mov) [.k (.bool false)]⟩])
  (.seq
   (.seq
    (.region [⟨some 15, none, .ex (.mov) [.s 0]⟩,
      ⟨some 16, none, .callf 29 [.s 15]⟩,
      ⟨some 17, none, .ex (.ibin .gtr) [.s 16, .k (.int .i64 300)]⟩,
      ⟨some 18, none, .ex (.mov) [.s 17]⟩,
      ⟨some 19, some (18, false), .ex (.mov) [.s 1]⟩,
      ⟨some 20, some (18, false), .callf 29 [.s 19]⟩,
      ⟨some 21, some (18, false), .ex (.ibin .gtr) [.s 20, .k (.int .i64 300)]⟩,
      ⟨some 22, none, .ex (.pick) [.s 18, .k (.bool true), .s 21]⟩])
    (.cond (.s 22)
     (.seq
      (.region [⟨some 23, none, .callf 11 []⟩,
        ⟨some 4, none, .ex (.mov) [.s 23]⟩])
      .ret)
     .skip))
   (.seq
    (.region [⟨some 5, none, .ex (.alloc [.nilp, (.int .i64 0), (.bool false), .nils, .nils, (.bool false), .nils]) []⟩])
    (.seq
     (.region [⟨some 24, none, .ex (.bsl 1 2 [.nilp, .nilp] [(0, 1), (1, 1)]) [.k .nilp, .s 5]⟩,
       ⟨some 6, none, .ex (.mov) [.s 24]⟩])
     (.seq
      (.seq
       (.region [⟨some 25, none, .ex (.mov) [.s 6]⟩,
         ⟨some 26, none, .ex (.len) [.s 25]⟩,
         ⟨some 27, none, .ex (.mov) [.k (.int .i64 0)]⟩])
       (.block 0
        (.loop
         (.seq
          (.region [⟨some 28, none, .ex (.ibin .lss) [.s 27, .s 26]⟩])
          (.seq
           (.cond (.s 28)
            .skip
            (.exit 0))
           (.seq
            (.block 1
             (.seq
              (.region [⟨some 29, none, .ex (.mov) [.s 27]⟩,
                ⟨some 7, none, .ex (.mov) [.s 29]⟩])
              (.seq
               (.region [⟨some 30, none, .ex (.mov) [.s 6]⟩,
                 ⟨some 31, none, .ex (.mov) [.s 7]⟩,
                 ⟨some 32, none, .ex (.ia 1) [.s 30, .s 31]⟩,
                 ⟨some 33, none, .ex (.ld 1) [.s 32]⟩,
                 ⟨some 8, none, .ex (.mov) [.s 33]⟩])
               (.seq
                (.region [⟨some 35, none, .ex (.mov) [.s 8]⟩,
                  ⟨some 36, none, .callf 14 [.s 35]⟩,
                  ⟨some 34, none, .ex (.mov) [.s 36]⟩,
                  ⟨some 37, none, .ex (.ext 0) [.s 34]⟩,
                  ⟨some 38, none, .ex (.ext 1) [.s 34]⟩,
                  ⟨some 9, none, .ex (.mov) [.s 37]⟩,
                  ⟨some 10, none, .ex (.mov) [.s 38]⟩])
                (.seq
                 (.region [⟨some 40, none, .ex (.mov) [.s 8]⟩,
                   ⟨some 41, none, .callf 16 [.s 40]⟩,
                   ⟨some 39, none, .ex (.mov) [.s 41]⟩,
                   ⟨some 42, none, .ex (.ext 0) [.s 39]⟩,
                   ⟨some 43, none, .ex (.ext 1) [.s 39]⟩,
                   ⟨some 11, none, .ex (.mov) [.s 42]⟩,
                   ⟨some 12, none, .ex (.mov) [.s 43]⟩])
                 (.seq
                  (.region [⟨some 45, none, .ex (.mov) [.s 8]⟩,
                    ⟨some 46, none, .callf 15 [.s 45]⟩,
                    ⟨some 44, none, .ex (.mov) [.s 46]⟩,
                    ⟨some 47, none, .ex (.ext 0) [.s 44]⟩,
                    ⟨some 48, none, .ex (.ext 1) [.s 44]⟩,
                    ⟨some 13, none, .ex (.mov) [.s 47]⟩,
                    ⟨some 14, none, .ex (.mov) [.s 48]⟩])
                  (.seq
                   (.region [⟨some 49, none, .ex (.mov) [.s 10]⟩,
                     ⟨some 50, none, .ex (.ibin .neq) [.s 49, .k (.int .i64 1)]⟩,
                     ⟨some 51, none, .ex (.mov) [.s 50]⟩,
                     ⟨some 52, some (51, false), .ex (.mov) [.s 12]⟩,
                     ⟨some 53, some (51, false), .ex (.ibin .neq) [.s 52, .k (.int .i64 1)]⟩,
                     ⟨some 54, none, .ex (.pick) [.s 51, .k (.bool true), .s 53]⟩,
                     ⟨some 55, none, .ex (.mov) [.s 54]⟩,
                     ⟨some 56, some (55, false), .ex (.mov) [.s 8]⟩,
                     ⟨some 57, some (55, false), .ex (.mov) [.s 0]⟩,
                     ⟨some 58, some (55, false), .ex (.mov) [.s 1]⟩,
                     ⟨some 59, some (55, false), .callf 13 [.s 56, .s 57, .s 58]⟩,
                     ⟨some 60, some (55, false), .ex (.ibin .neq) [.s 59, .k (.int .i64 1)]⟩,
                     ⟨some 61, none, .ex (.pick) [.s 55, .k (.bool true), .s 60]⟩,
                     ⟨some 62, none, .ex (.mov) [.s 61]⟩,
                     ⟨some 63, some (62, false), .ex (.mov) [.s 8]⟩,
                     ⟨some 64, some (62, false), .callf 22 [.s 63]⟩,
                     ⟨some 65, some (62, false), .ex (.ibin .neq) [.s 64, .k (.int .i64 1)]⟩,
                     ⟨some 66, none, .ex (.pick) [.s 62, .k (.bool true), .s 65]⟩,
                     ⟨some 67, none, .ex (.mov) [.s 66]⟩,
                     ⟨some 68, some (67, false), .ex (.mov) [.s 8]⟩,
                     ⟨some 69, some (67, false), .callf 24 [.s 68]⟩,
                     ⟨some 70, some (67, false), .ex (.ibin .neq) [.s 69, .k (.int .i64 1)]⟩,
                     ⟨some 71, none, .ex (.pick) [.s 67, .k (.bool true), .s 70]⟩,
                     ⟨some 72, none, .ex (.mov) [.s 71]⟩,
                     ⟨some 73, some (72, false), .ex (.mov) [.s 8]⟩,
                     ⟨some 74, some (72, false), .callf 28 [.s 73]⟩,
                     ⟨some 75, none, .ex (.pick) [.s 72, .k (.bool true), .s 74]⟩,
                     ⟨some 76, none, .ex (.mov) [.s 75]⟩,
                     ⟨some 77, some (76, false), .ex (.mov) [.s 13]⟩,
                     ⟨some 78, some (76, false), .ex (.mov) [.s 14]⟩,
                     ⟨some 79, some (76, false), .ex (.ibin .add) [.s 77, .s 78]⟩,
                     ⟨some 80, some (76, false), .ex (.ibin .neq) [.s 79, .k (.int .i64 0)]⟩,
                     ⟨some 81, none, .ex (.pick) [.s 76, .k (.bool true), .s 80]⟩])
                   (.cond (.s 81)
                    (.seq
                     (.region [⟨some 4, none, .ex (.mov) [.k (.bool false)]⟩])
                     .ret)
                    .skip))))))))
            (.region [⟨some 82, none, .ex (.ibin .add) [.s 27, .k (.int .i64 1)]⟩,
              ⟨some 27, none, .ex (.mov) [.s 82]⟩])))))))
      (.seq
       (.region [⟨some 83, none, .callf 11 []⟩,
         ⟨some 4, none, .ex (.mov) [.s 83]⟩])
       .ret)))))),
 [.t 4]⟩
theorem c6 : compFn Go.Proofs.Tryz.prog 6 = some fn6 := by kernel_rfl

end Go.Proofs.YtkmaikggdbielaaGreatDoor.Fw

