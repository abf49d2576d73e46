/- Part 1 of the proof. HistoryBrackets: what is pushed in a bracket is one group; a bracket with nothing is none, and leaves what can be done again; undo and redo are refused within; on the one condition that the arguments hold together at most 2^20 data, as the statement's own bound says. -/
import Derived.Test.YtkmaikggdbielaaGreatDoorW
import Derived.Test.YtkmaikggdbielaaGreatDoorProg
import Derived.Test.YtkmaikggdbielaaGreatDoorU
import Derived.Test.YtkmaikggdbielaaGreatDoorCards
import Derived.Test.YtkmaikggdbielaaGreatDoorTie
import Derived.WalkKit
import Derived.ProofKit
import Derived.OpenShut
import Derived.Deep.DeepHandedRow
import Derived.Lib.LaidTab
import Derived.Test.YtkmaikggdbielaaGreatDoorP
import Derived.KernelRfl

/- Values of the program as they lie; how a contract is begun. No condition. -/
namespace Go.Proofs.YtkmaikggdbielaaGreatDoor.Fw
open Go
set_option linter.unusedSimpArgs false
set_option linter.unusedVariables false

noncomputable abbrev PP : Program := Go.Proofs.Tryz.prog
theorem SCalls.ofFn {f : FuncId} {af : AFn} (hf : compFn PP f = some af) {vs : List V} {H : Heap} {R : V → Heap → Prop} (hl : vs.length ≤ af.n)
    (h : WF H → wpC (SCalls PP) af.body (enterFr vs) H fun e fr H' => (e = .normal ∨ e = .ret) ∧ ∃ rs, resAll fr H' af.res = some rs ∧ R (resV rs) H') : SCalls PP f vs H R :=
  SCalls.wf (by
    unfold compFn at hf
    split at hf
    · rename_i fn hfn
      split at hf
      · rename_i c hb
        split at hf
        · split at hf
          · cases hf
          · rename_i hn; exact ⟨fn, hfn, by simp [hb], hn⟩
        · cases hf
      · cases hf
    · cases hf) fun hw => SCalls.intro (SC := SCalls PP) (fun _ _ _ _ h => h) SCalls.scWf SCalls.scMono hf hl (h hw)
theorem SCalls.go {f : FuncId} {af : AFn} (hf : compFn PP f = some af) {vs : List V} {H : Heap} {R : V → Heap → Prop} (hl : vs.length ≤ af.n)
    (h : WF H → wpC (SCalls PP) af.body (enterFr vs) H (kend af.res R)) : SCalls PP f vs H R := SCalls.ofFn hf hl h

/-! ### The program's data -/
structure ValA where
  kind : Int
  n : Int
  f : Int
  s : ByteArray
def ValA.cells (v : ValA) : List V := [.int .u8 v.kind, .int .i64 v.n, .int .u64 v.f, .str v.s]
structure AttrA where
  key : Int
  val : ValA
def AttrA.cells (a : AttrA) : List V := .int .i64 a.key :: a.val.cells
structure ChgA where
  key : Int
  gone : Bool
  val : ValA
def ChgA.cells (c : ChgA) : List V := .int .i64 c.key :: .bool c.gone :: c.val.cells
structure OpA where
  kind : Int
  n : Int
  runes : V
  set : V
  patch : V
  rs : List Int
  ats : List AttrA
  chs : List ChgA
def OpA.cells (o : OpA) : List V := [.int .u8 o.kind, .int .i64 o.n, o.runes, o.set, o.patch]
structure KeyA where
  id : Int
  block : Bool
  kind : Int
  after : Bool
  before : Bool
  group : Int
def KeyA.cells (k : KeyA) : List V := [.int .i64 k.id, .bool k.block, .int .u8 k.kind, .bool k.after, .bool k.before, .int .i64 k.group]
abbrev big : Nat := 1048576
structure OpA.In (H : Heap) (o : OpA) : Prop where
  runes : SL H o.runes 1 (o.rs.map fun r => [V.int .i32 r])
  set : SL H o.set 5 (o.ats.map AttrA.cells)
  patch : SL H o.patch 6 (o.chs.map ChgA.cells)
  rl : o.rs.length ≤ big
  al : o.ats.length ≤ big
  cl : o.chs.length ≤ big
  sa : ∀ a ∈ o.ats, a.val.s.size ≤ big
  sc : ∀ c ∈ o.chs, c.val.s.size ≤ big
  nlo : -9223372036854775808 ≤ o.n
  nhi : o.n ≤ 9223372036854775807
theorem OpA.In.ext {H H' : Heap} {o : OpA} (h : o.In H) (k : Ext H H') : o.In H' := { h with runes := h.runes.ext k, set := h.set.ext k, patch := h.patch.ext k }
structure OpsIn (H : Heap) (x : V) (os : List OpA) : Prop where
  sl : SL H x 5 (os.map OpA.cells)
  ins : ∀ o ∈ os, o.In H
  len : os.length ≤ big
theorem OpsIn.ext {H H' : Heap} {x : V} {os : List OpA} (h : OpsIn H x os) (k : Ext H H') : OpsIn H' x os := ⟨h.sl.ext k, fun o ho => (h.ins o ho).ext k, h.len⟩
theorem new_get (H : Heap) (o : Ob) : (H.new o).get H.next = some o := by rw [Heap.new_get, if_pos rfl]
theorem set_get' (H : Heap) (i : Nat) (o : Ob) : (H.set i o).get i = some o := by rw [Heap.set_get, if_pos rfl]
/-! ### Rows of elements -/
theorem flatG {sz : Nat} : ∀ {es : List (List V)} (_ : ∀ e ∈ es, e.length = sz) {i j : Nat} {e : List V}, es[i]? = some e → j < sz → es.flatten[i * sz + j]? = e[j]?
  | [], h, i, j, e, he, hj => by simp at he
  | x :: es, h, 0, j, e, he, hj => by
    simp at he; subst he
    rw [List.flatten_cons, List.getElem?_append_left (by rw [h x (by simp)]; omega)]
    simp
  | x :: es, h, i + 1, j, e, he, hj => by
    have hx := h x (by simp)
    rw [List.flatten_cons, List.getElem?_append_right (by rw [hx, Nat.add_mul]; omega)]
    have := flatG (es := es) (fun y hy => h y (List.mem_cons_of_mem _ hy)) (i := i) (j := j) (e := e) (by simpa using he) hj
    rw [← this, hx, Nat.add_mul]
    congr 1
    omega
theorem flatLen {sz : Nat} : ∀ {es : List (List V)} (_ : ∀ e ∈ es, e.length = sz), es.flatten.length = es.length * sz
  | [], h => by simp
  | x :: es, h => by
    rw [List.flatten_cons, List.length_append, h x (by simp), flatLen fun y hy => h y (by simp [hy]), List.length_cons, Nat.add_mul]
    omega
theorem flatAll {es : List (List V)} (h : ∀ e ∈ es, e.all V.one = true) : es.flatten.all V.one = true := by
  rw [List.all_eq_true]
  intro v hv
  obtain ⟨e, he, hv⟩ := List.mem_flatten.1 hv
  exact List.all_eq_true.1 (h e he) v hv
/-- A row of the call's own that holds the elements es. -/
structure Own (H : Heap) (id sz : Nat) (es : List (List V)) : Prop where
  lt : id < H.next
  get : H.get id = some (.row false sz es.flatten)
  len : ∀ e ∈ es, e.length = sz ∧ e.all V.one = true
theorem Own.ext {H H' : Heap} {id sz : Nat} {es : List (List V)} (h : Own H id sz es) (k : Ext H H') : Own H' id sz es :=
  ⟨Nat.lt_of_lt_of_le h.lt k.next, by rw [k.get id h.lt]; exact h.get, h.len⟩
theorem x_iax {H : Heap} {id n i sz : Nat} (hi : i < n) : exec (.ia sz) [.slice id 0 n none, .int .i64 i] H = some (.ptr id (0 + i * sz), H) := by
  simp only [exec]
  rw [if_pos ⟨by omega, by omega⟩]
  rfl
theorem x_slc_hi {H : Heap} {id n i sz : Nat} {cells : List V} (hg : H.get id = some (.row false sz cells)) (hi : i ≤ n) : exec (.slc sz false true false) [.slice id 0 n none, .int .i64 i] H = some (.slice id (0 + 0 * sz) (i - 0) none, H) := by
  have hb : bounds3 false true false n ((none : Option Nat).getD n) [V.int .i64 i] = some (0, i, n) := by
    simp [bounds3, natV]
  simp only [exec, hb]
  rw [if_pos ⟨Nat.zero_le _, hi, Nat.le_refl _, by simp [slcOk, hg]⟩]
theorem Own.sl {H : Heap} {id sz : Nat} {es : List (List V)} (h : Own H id sz es) (cap : Option Nat) : SL H (.slice id 0 es.length cap) sz es := by
  refine ⟨h.len, .inr ⟨id, 0, cap, rfl, h.lt, fun i e he => ⟨h.lt, false, sz, es.flatten, h.get, ?_, fun j v hj => ?_⟩⟩⟩
  · have hi := (List.getElem?_eq_some_iff.1 he).1
    rw [flatLen fun e he => (h.len e he).1, (h.len e (List.mem_of_getElem? he)).1]
    have : (i + 1) * sz ≤ es.length * sz := Nat.mul_le_mul_right _ (by omega)
    rw [Nat.add_mul] at this
    omega
  · have hl := (h.len e (List.mem_of_getElem? he)).1
    rw [Nat.zero_add, flatG (fun e he => (h.len e he).1) he (by rw [← hl]; exact (List.getElem?_eq_some_iff.1 hj).1)]
    exact hj
theorem SL.src {H : Heap} {x : V} {sz : Nat} {es : List (List V)} (h : SL H x sz es) (hne : es ≠ []) : lenV x = some es.length ∧ srcCells H es.length sz x = some es.flatten := by
  obtain ⟨hl, ⟨_, rfl⟩ | ⟨id, off, cap, rfl, hid, hat⟩⟩ := h
  · exact absurd rfl hne
  · refine ⟨rfl, ?_⟩
    obtain ⟨e0, he0⟩ : ∃ e0, es[0]? = some e0 := by cases es with | nil => exact absurd rfl hne | cons a l => exact ⟨a, rfl⟩
    obtain ⟨_, ro, esz, cells, hg, _, _⟩ := hat 0 e0 he0
    have hn : 0 < es.length := by cases es with | nil => exact absurd rfl hne | cons a l => simp
    -- the last element bounds the row
    have hlast : es[es.length - 1]? = some (es[es.length - 1]'(by omega)) := List.getElem?_eq_getElem _
    obtain ⟨_, ro', esz', cells', hg', hb, _⟩ := hat _ _ hlast
    rw [hg] at hg'
    cases hg'
    rw [(hl _ (List.mem_of_getElem? hlast)).1] at hb
    have hmul : (es.length - 1) * sz + sz = es.length * sz := by
      rw [← Nat.succ_mul]; congr 1; omega
    simp only [srcCells, readN, hg]
    by_cases hz0 : es.length * sz = 0
    · rw [if_pos hz0]
      have := flatLen fun e he => (hl e he).1
      rw [hz0] at this
      rw [List.length_eq_zero_iff.1 this]
    rw [if_neg hz0, if_pos (by omega)]
    congr 1
    refine List.ext_getElem? fun q => ?_
    rw [List.getElem?_take]
    split
    · rename_i hq
      rw [List.getElem?_drop]
      have hsz : 0 < sz := by
        rcases Nat.eq_zero_or_pos sz with h0 | h0
        · rw [h0] at hq; simp at hq
        · exact h0
      have hqi : q / sz < es.length := Nat.div_lt_of_lt_mul (by rw [Nat.mul_comm]; exact hq)
      have he := List.getElem?_eq_getElem hqi
      have hqm : q % sz < sz := Nat.mod_lt _ hsz
      obtain ⟨_, ro', esz', cells', hg', _, hc⟩ := hat _ _ he
      rw [hg] at hg'
      cases hg'
      have hle := (hl _ (List.mem_of_getElem? he)).1
      have h1 := hc (q % sz) _ (List.getElem?_eq_getElem (by rw [hle]; exact hqm))
      have h2 := flatG (fun e he => (hl e he).1) he hqm
      rw [show q / sz * sz + q % sz = q by rw [Nat.mul_comm]; exact Nat.div_add_mod q sz] at h2
      have hge := List.getElem?_eq_getElem (l := es[q / sz]) (i := q % sz) (by rw [hle]; exact hqm)
      rw [h2, hge, ← h1]
      congr 1
      have := Nat.div_add_mod q sz
      rw [Nat.mul_comm] at this
      omega
    · rename_i hq
      rw [List.getElem?_eq_none (by rw [flatLen fun e he => (hl e he).1]; omega)]

/-! ### Tables of functions for the evaluator -/
def tblGet : List (Nat × AFn) → Nat → Option AFn
  | [], _ => none
  | p :: l, f => if f = p.1 then some p.2 else tblGet l f
theorem tblGet_ok {P : Program} : ∀ {l : List (Nat × AFn)} (_ : ∀ p ∈ l, compFn P p.1 = some p.2) {f : Nat} {af : AFn}, tblGet l f = some af → compFn P f = some af
  | [], h, f, af, e => by cases e
  | p :: l, h, f, af, e => by
    simp only [tblGet] at e
    split at e
    · rename_i hf
      have := h p (by simp)
      rw [hf, this, e]
    · exact tblGet_ok (fun q hq => h q (by simp [hq])) e
theorem tbl_nil {P : Program} : ∀ p ∈ ([] : List (Nat × AFn)), compFn P p.1 = some p.2 := fun p hp => by cases hp
theorem tbl_cons {P : Program} {n : Nat} {a : AFn} {l : List (Nat × AFn)} (h : compFn P n = some a) (k : ∀ p ∈ l, compFn P p.1 = some p.2) : ∀ p ∈ (n, a) :: l, compFn P p.1 = some p.2 := by
  intro p hp
  rcases List.mem_cons.1 hp with rfl | hp
  · exact h
  · exact k p hp
end Go.Proofs.YtkmaikggdbielaaGreatDoor.Fw

/- The frame: from a call over abstract values to the row and the card. No condition. -/
namespace Go.Proofs.YtkmaikggdbielaaGreatDoor.Fw
open Go Go.ChangeShapes Go.WideShapes Go.ChangeAt Go.RowKit
set_option linter.unusedSimpArgs false
set_option linter.unusedVariables false

theorem own : ownKnob PP.godebug = none := by kernel_rfl
theorem laidOut : laidOutB PP = true := by kernel_rfl

/-- A slice among the arguments. -/
theorem arg_slice {P : Program} {H : Type} {enc : TypeId × Value → H} {W : World} {base : Nat} {t e : TypeId} {v : Value} {d : DataW H} {p : List MemPlace} {n B : Nat} (ht : P.underlying t = some (.slice e)) (hp : plainT P (n + 1) t = true)
    (hval : Value.okWide P W .any base t v) (h : DataW.Trod enc P W 0 (fun _ => true) true t v d p) (hB : Rows.uptoBulk d ≤ B) :
    ∃ x ls, VRel (hPl W) (hOf W) x v ∧ SL (hOf W) x (P.cellsOf e) ls ∧ ls.length ≤ B ∧ ∀ l ∈ ls, GoodT P B (hOf W) n e l := by
  obtain ⟨a0, len, cap, rfl⟩ := okWide_slice ht hval
  obtain ⟨fuel, hf⟩ := h
  obtain ⟨h1, h2⟩ := read_good (n + 1) fuel t _ (d, p) hp hf hB
  simp only [GoodT, ht] at h2
  obtain ⟨x, ls, hx, hs, hl, hg⟩ := h2
  simp [Value.cells] at h1 hx
  exact ⟨x, ls, by rw [← hx]; exact av_rel W h1, hs, hl, hg⟩

/-- What a call over abstract values says of the world. -/
theorem below_of {m' : Nat → Pl} {H' : Heap} {W W' : World} (h : Ev (hPl W) (hOf W) W m' H' W') : Below W.heap.size W W' :=
  ⟨h.os, h.tape, h.output, h.size, fun b hb => h.block b hb fun id o ho hw => by
    have : o.owned = false := by
      simp only [hOf] at ho
      split at ho
      · split at ho
        · cases ho; rfl
        · cases ho
      · cases ho
    rw [this] at hw; cases hw⟩

theorem calls_of {f : FuncId} {vs : List V} {xs : List Value} {W : World} {c : Bool} (hc : SCalls PP f vs (hOf W) fun r H' => r = .bool c) (hv : VRelL (hPl W) (hOf W) vs xs) :
    Calls PP f xs.toArray W fun e W' => e = .returned (.bool c) ∧ Below W.heap.size W W' :=
  (hc.2 (hPl W) W xs (hOf_rel W) hv).mono fun e W' h => by
    obtain ⟨r, H', m', x, rfl, rfl, hx, _, hev⟩ := h
    exact ⟨by rw [hx.bool_inv], below_of hev⟩
end Go.Proofs.YtkmaikggdbielaaGreatDoor.Fw

/- A slice among the arguments, with what can be cut of it. No condition. -/
namespace Go.Proofs.YtkmaikggdbielaaGreatDoor.Fw
open Go Go.ChangeShapes Go.WideShapes Go.ChangeAt Go.RowKit
set_option linter.unusedSimpArgs false
set_option linter.unusedVariables false

/-- The capacity of a slice is known. -/
def CapOk (x : V) : Prop := ∀ id off n c, x = .slice id off n c → ∃ k, c = some k ∧ n ≤ k
theorem av_cap (W : World) (v : Value) : CapOk (av W v) := by
  intro id off n c h
  have key : ∀ u, abv W v = some u → u = .slice id off n c → ∃ k, c = some k ∧ n ≤ k := by
    intro u hu e
    subst e
    unfold abv at hu
    split at hu <;> try (cases hu; done)
    split at hu
    · split at hu
      · cases hu; exact ⟨0, rfl, Nat.le_refl _⟩
      · cases hu
    · split at hu
      · rename_i hk
        cases hu
        exact ⟨_, rfl, hk.2.2.2⟩
      · cases hu
  unfold av at h
  cases hv : abv W v with
  | none => rw [hv] at h; cases h
  | some u => rw [hv] at h; exact key u hv h
theorem arg_slice2 {P : Program} {H : Type} {enc : TypeId × Value → H} {W : World} {base : Nat} {t e : TypeId} {v : Value} {d : DataW H} {p : List MemPlace} {n B : Nat} (ht : P.underlying t = some (.slice e)) (hp : plainT P (n + 1) t = true)
    (hval : Value.okWide P W .any base t v) (h : DataW.Trod enc P W 0 (fun _ => true) true t v d p) (hB : Rows.uptoBulk d ≤ B) :
    ∃ x ls, VRel (hPl W) (hOf W) x v ∧ SL (hOf W) x (P.cellsOf e) ls ∧ ls.length ≤ B ∧ (∀ l ∈ ls, GoodT P B (hOf W) n e l) ∧ CapOk x := by
  obtain ⟨a0, len, cap, rfl⟩ := okWide_slice ht hval
  obtain ⟨fuel, hf⟩ := h
  obtain ⟨h1, h2⟩ := read_good (n + 1) fuel t _ (d, p) hp hf hB
  simp only [GoodT, ht] at h2
  obtain ⟨x, ls, hx, hs, hl, hg⟩ := h2
  simp [Value.cells] at h1 hx
  exact ⟨x, ls, by rw [← hx]; exact av_rel W h1, hs, hl, hg, by rw [← hx]; exact av_cap W _⟩
end Go.Proofs.YtkmaikggdbielaaGreatDoor.Fw

/- The abstract code of functions of the program, and that it is theirs. No condition. Printed by a program (wip/Print.lean, wip/mkfns.py). -/
namespace Go.Proofs.YtkmaikggdbielaaGreatDoor.Fw
open Go

/-- rubric/schema.New -/
def fn9 : AFn := ⟨53,
 (.seq
  (.region [⟨some 2, none, .ex (.mov) [.k .nilp]⟩,
    ⟨some 3, none, .ex (.mov) [.k (.int .i64 0)]⟩])
  (.seq
   (.seq
    (.region [⟨some 9, none, .ex (.mov) [.s 0]⟩,
      ⟨some 10, none, .ex (.len) [.s 9]⟩,
      ⟨some 11, none, .ex (.ibin .gtr) [.s 10, .k (.int .i64 64)]⟩])
    (.cond (.s 11)
     (.seq
      (.region [⟨some 2, none, .ex (.mov) [.k .nilp]⟩,
        ⟨some 3, none, .ex (.mov) [.k (.int .i64 3)]⟩])
      .ret)
     .skip))
   (.seq
    (.region [⟨some 12, none, .ex (.mov) [.s 0]⟩,
      ⟨some 13, none, .callf 31 [.s 12]⟩,
      ⟨some 14, none, .ex (.mkmap) []⟩,
      ⟨some 15, none, .ex (.build [.nils, .nilm] [(0, 1), (1, 1)]) [.s 13, .s 14]⟩,
      ⟨some 16, none, .ex (.box) [.s 15]⟩,
      ⟨some 4, none, .ex (.mov) [.s 16]⟩])
    (.seq
     (.seq
      (.region [⟨some 17, none, .ex (.mov) [.s 0]⟩,
        ⟨some 18, none, .ex (.len) [.s 17]⟩,
        ⟨some 19, none, .ex (.mov) [.k (.int .i64 0)]⟩])
      (.block 0
       (.loop
        (.seq
         (.region [⟨some 20, none, .ex (.ibin .lss) [.s 19, .s 18]⟩])
         (.seq
          (.cond (.s 20)
           .skip
           (.exit 0))
          (.seq
           (.block 1
            (.seq
             (.region [⟨some 21, none, .ex (.ia 6) [.s 17, .s 19]⟩,
               ⟨some 22, none, .ex (.lda 6) [.s 21]⟩,
               ⟨some 6, none, .ex (.alloc [(.int .i64 0), (.bool false), (.int .u8 0), (.bool false), (.bool false), (.int .i64 0)]) []⟩,
               ⟨none, none, .ex (.st 6) [.s 6, .s 22]⟩])
             (.seq
              (.seq
               (.draw (.op ⟨some 24, none, .ex (.mov) [.s 4]⟩ (.op ⟨some 25, none, .ex (.nilck) [.s 24]⟩ (.op ⟨some 26, none, .ex (.fa 1) [.s 25]⟩ (.op ⟨some 27, none, .ex (.ld 1) [.s 26]⟩ (.op ⟨some 28, none, .ex (.fa 0) [.s 6]⟩ (.op ⟨some 29, none, .ex (.ld 1) [.s 28]⟩ (.op ⟨some 30, none, .ex (.look 0 (.agg [(.int .i64 0), (.bool false), (.int .u8 0), (.bool false), (.bool false), (.int .i64 0)]) true) [.s 27, .s 29]⟩ (.op ⟨some 23, none, .ex (.mov) [.s 30]⟩ (.op ⟨some 31, none, .ex (.ext 0) [.s 23]⟩ (.op ⟨some 32, none, .ex (.ext 1) [.s 23]⟩ (.op ⟨some 7, none, .ex (.alloc [(.int .i64 0), (.bool false), (.int .u8 0), (.bool false), (.bool false), (.int .i64 0)]) []⟩ (.op ⟨none, none, .ex (.st 6) [.s 7, .s 31]⟩ (.op ⟨some 8, none, .ex (.mov) [.s 32]⟩ .done))))))))))))))
               (.seq
                (.region [⟨some 33, none, .ex (.mov) [.s 8]⟩,
                  ⟨some 34, none, .ex (.mov) [.s 33]⟩,
                  ⟨some 35, some (34, false), .ex (.lda 6) [.s 6]⟩,
                  ⟨some 36, some (34, false), .callf 32 [.s 35]⟩,
                  ⟨some 37, some (34, false), .ex (.bnot) [.s 36]⟩,
                  ⟨some 38, none, .ex (.pick) [.s 34, .k (.bool true), .s 37]⟩])
                (.cond (.s 38)
                 (.seq
                  (.region [⟨some 2, none, .ex (.mov) [.k .nilp]⟩,
                    ⟨some 3, none, .ex (.mov) [.k (.int .i64 3)]⟩])
                  .ret)
                 .skip)))
              (.draw (.op ⟨some 39, none, .ex (.mov) [.s 4]⟩ (.op ⟨some 40, none, .ex (.nilck) [.s 39]⟩ (.op ⟨some 41, none, .ex (.fa 1) [.s 40]⟩ (.op ⟨some 42, none, .ex (.ld 1) [.s 41]⟩ (.op ⟨some 43, none, .ex (.fa 0) [.s 6]⟩ (.op ⟨some 44, none, .ex (.ld 1) [.s 43]⟩ (.op ⟨some 45, none, .ex (.lda 6) [.s 6]⟩ (.op ⟨none, none, .ex (.mset 0) [.s 42, .s 44, .s 45]⟩ .done))))))))))))
           (.region [⟨some 46, none, .ex (.ibin .add) [.s 19, .k (.int .i64 1)]⟩,
             ⟨some 19, none, .ex (.mov) [.s 46]⟩])))))))
     (.seq
      (.region [⟨some 47, none, .ex (.mov) [.s 4]⟩,
        ⟨some 48, none, .ex (.nilck) [.s 47]⟩,
        ⟨some 49, none, .ex (.fa 0) [.s 48]⟩,
        ⟨some 50, none, .ex (.ld 1) [.s 49]⟩,
        ⟨some 51, none, .callf 33 [.s 50, .k (.fn (.func 34) [] [])]⟩])
      (.seq
       (.region [⟨some 52, none, .ex (.mov) [.s 4]⟩,
         ⟨some 2, none, .ex (.mov) [.s 52]⟩,
         ⟨some 3, none, .ex (.mov) [.k (.int .i64 0)]⟩])
       .ret)))))),
 [.t 2, .t 3]⟩
theorem c9 : compFn Go.Proofs.Tryz.prog 9 = some fn9 := by kernel_rfl

/-- rubric/history.New -/
def fn10 : AFn := ⟨16,
 (.seq
  (.region [⟨some 4, none, .ex (.mov) [.k .nilp]⟩,
    ⟨some 5, none, .ex (.mov) [.k (.int .i64 0)]⟩])
  (.seq
   (.seq
    (.region [⟨some 6, none, .ex (.mov) [.s 1]⟩,
      ⟨some 7, none, .ex (.ibin .lss) [.s 6, .k (.int .i64 0)]⟩,
      ⟨some 8, none, .ex (.mov) [.s 7]⟩,
      ⟨some 9, some (8, false), .ex (.mov) [.s 1]⟩,
      ⟨some 10, some (8, false), .ex (.ibin .gtr) [.s 9, .k (.int .i64 65536)]⟩,
      ⟨some 11, none, .ex (.pick) [.s 8, .k (.bool true), .s 10]⟩])
    (.cond (.s 11)
     (.seq
      (.region [⟨some 4, none, .ex (.mov) [.k .nilp]⟩,
        ⟨some 5, none, .ex (.mov) [.k (.int .i64 2)]⟩])
      .ret)
     .skip))
   (.seq
    (.region [⟨some 12, none, .ex (.mov) [.s 0]⟩,
      ⟨some 13, none, .ex (.mov) [.s 1]⟩,
      ⟨some 14, none, .ex (.build [.nilp, (.int .i64 0), (.bool false), .nils, .nils, (.bool false), .nils] [(0, 1), (1, 1), (2, 1)]) [.s 12, .s 13, .k (.bool true)]⟩,
      ⟨some 15, none, .ex (.box) [.s 14]⟩,
      ⟨some 4, none, .ex (.mov) [.s 15]⟩,
      ⟨some 5, none, .ex (.mov) [.k (.int .i64 0)]⟩])
    .ret))),
 [.t 4, .t 5]⟩
theorem c10 : compFn Go.Proofs.Tryz.prog 10 = some fn10 := by kernel_rfl

/-- rubric/rubriclaw27.known -/
def fn11 : AFn := ⟨137,
 (.seq
  (.region [⟨some 0, none, .ex (.mov) [.k (.bool false)]⟩])
  (.seq
   (.region [⟨some 22, none, .callf 9 [.k .nils]⟩,
     ⟨some 21, none, .ex (.mov) [.s 22]⟩,
     ⟨some 23, none, .ex (.ext 0) [.s 21]⟩,
     ⟨some 24, none, .ex (.ext 1) [.s 21]⟩,
     ⟨some 1, none, .ex (.mov) [.s 23]⟩,
     ⟨some 2, none, .ex (.mov) [.s 24]⟩])
   (.seq
    (.region [⟨some 26, none, .ex (.mov) [.s 1]⟩,
      ⟨some 27, none, .callf 10 [.s 26, .k (.int .i64 2)]⟩,
      ⟨some 25, none, .ex (.mov) [.s 27]⟩,
      ⟨some 28, none, .ex (.ext 0) [.s 25]⟩,
      ⟨some 29, none, .ex (.ext 1) [.s 25]⟩,
      ⟨some 3, none, .ex (.mov) [.s 28]⟩,
      ⟨some 4, none, .ex (.mov) [.s 29]⟩])
    (.seq
     (.seq
      (.region [⟨some 30, none, .ex (.mov) [.s 2]⟩,
        ⟨some 31, none, .ex (.ibin .neq) [.s 30, .k (.int .i64 0)]⟩,
        ⟨some 32, none, .ex (.mov) [.s 31]⟩,
        ⟨some 33, some (32, false), .ex (.mov) [.s 4]⟩,
        ⟨some 34, some (32, false), .ex (.ibin .neq) [.s 33, .k (.int .i64 0)]⟩,
        ⟨some 35, none, .ex (.pick) [.s 32, .k (.bool true), .s 34]⟩,
        ⟨some 36, none, .ex (.mov) [.s 35]⟩,
        ⟨some 37, some (36, false), .ex (.mov) [.s 3]⟩,
        ⟨some 38, some (36, false), .ex (.eqnil 0 false) [.s 37, .k .nilp]⟩,
        ⟨some 39, none, .ex (.pick) [.s 36, .k (.bool true), .s 38]⟩])
      (.cond (.s 39)
       (.seq
        (.region [⟨some 0, none, .ex (.mov) [.k (.bool false)]⟩])
        .ret)
       .skip))
     (.seq
      (.seq
       (.region [⟨some 40, none, .ex (.build [(.int .i32 0), (.int .i32 0), (.int .i32 0)] [(0, 1), (1, 1), (2, 1)]) [.k (.int .i32 97), .k (.int .i32 98), .k (.int .i32 99)]⟩,
         ⟨some 41, none, .ex (.mov) [.k (.int .i64 0)]⟩])
       (.block 0
        (.loop
         (.seq
          (.region [⟨some 42, none, .ex (.ibin .lss) [.s 41, .k (.int .i64 3)]⟩])
          (.seq
           (.cond (.s 42)
            .skip
            (.exit 0))
           (.seq
            (.block 1
             (.seq
              (.region [⟨some 43, none, .ex (.idxa 3) [.s 40, .s 41]⟩,
                ⟨some 6, none, .ex (.mov) [.s 43]⟩])
              (.seq
               (.region [⟨some 45, none, .ex (.mov) [.s 6]⟩,
                 ⟨some 46, none, .callf 12 [.s 45]⟩,
                 ⟨some 44, none, .ex (.mov) [.s 46]⟩,
                 ⟨some 47, none, .ex (.ext 0) [.s 44]⟩,
                 ⟨some 48, none, .ex (.ext 1) [.s 44]⟩,
                 ⟨some 7, none, .ex (.mov) [.s 47]⟩,
                 ⟨some 8, none, .ex (.mov) [.s 48]⟩])
               (.seq
                (.region [⟨some 49, none, .ex (.mov) [.s 3]⟩,
                  ⟨some 50, none, .ex (.mov) [.s 7]⟩,
                  ⟨some 51, none, .ex (.mov) [.s 8]⟩,
                  ⟨some 52, none, .callf 13 [.s 49, .s 50, .s 51]⟩,
                  ⟨some 53, none, .ex (.ibin .neq) [.s 52, .k (.int .i64 0)]⟩])
                (.cond (.s 53)
                 (.seq
                  (.region [⟨some 0, none, .ex (.mov) [.k (.bool false)]⟩])
                  .ret)
                 .skip)))))
            (.region [⟨some 54, none, .ex (.ibin .add) [.s 41, .k (.int .i64 1)]⟩,
              ⟨some 41, none, .ex (.mov) [.s 54]⟩])))))))
      (.seq
       (.region [⟨some 56, none, .ex (.mov) [.s 3]⟩,
         ⟨some 57, none, .callf 14 [.s 56]⟩,
         ⟨some 55, none, .ex (.mov) [.s 57]⟩,
         ⟨some 58, none, .ex (.ext 0) [.s 55]⟩,
         ⟨some 59, none, .ex (.ext 1) [.s 55]⟩,
         ⟨some 9, none, .ex (.mov) [.s 58]⟩,
         ⟨some 10, none, .ex (.mov) [.s 59]⟩])
       (.seq
        (.region [⟨some 61, none, .ex (.mov) [.s 3]⟩,
          ⟨some 62, none, .callf 14 [.s 61]⟩,
          ⟨some 60, none, .ex (.mov) [.s 62]⟩,
          ⟨some 63, none, .ex (.ext 0) [.s 60]⟩,
          ⟨some 64, none, .ex (.ext 1) [.s 60]⟩,
          ⟨some 11, none, .ex (.mov) [.s 63]⟩,
          ⟨some 12, none, .ex (.mov) [.s 64]⟩])
        (.seq
         (.region [⟨some 66, none, .ex (.mov) [.s 3]⟩,
           ⟨some 67, none, .callf 14 [.s 66]⟩,
           ⟨some 65, none, .ex (.mov) [.s 67]⟩,
           ⟨some 68, none, .ex (.ext 0) [.s 65]⟩,
           ⟨some 69, none, .ex (.ext 1) [.s 65]⟩,
           ⟨some 13, none, .ex (.mov) [.s 68]⟩,
           ⟨some 14, none, .ex (.mov) [.s 69]⟩])
         (.seq
          (.region [⟨some 71, none, .ex (.mov) [.s 3]⟩,
            ⟨some 72, none, .callf 16 [.s 71]⟩,
            ⟨some 70, none, .ex (.mov) [.s 72]⟩,
            ⟨some 73, none, .ex (.ext 0) [.s 70]⟩,
            ⟨some 74, none, .ex (.ext 1) [.s 70]⟩,
            ⟨some 15, none, .ex (.mov) [.s 73]⟩,
            ⟨some 16, none, .ex (.mov) [.s 74]⟩])
          (.seq
           (.region [⟨some 76, none, .callf 12 [.k (.int .i32 98)]⟩,
             ⟨some 75, none, .ex (.mov) [.s 76]⟩,
             ⟨some 77, none, .ex (.ext 0) [.s 75]⟩,
             ⟨some 78, none, .ex (.ext 1) [.s 75]⟩,
             ⟨some 17, none, .ex (.mov) [.s 77]⟩,
             ⟨some 18, none, .ex (.mov) [.s 78]⟩])
           (.seq
            (.region [⟨some 80, none, .ex (.mov) [.s 3]⟩,
              ⟨some 81, none, .callf 15 [.s 80]⟩,
              ⟨some 79, none, .ex (.mov) [.s 81]⟩,
              ⟨some 82, none, .ex (.ext 0) [.s 79]⟩,
              ⟨some 83, none, .ex (.ext 1) [.s 79]⟩,
              ⟨some 19, none, .ex (.mov) [.s 82]⟩,
              ⟨some 20, none, .ex (.mov) [.s 83]⟩])
            (.seq
             (.region [⟨some 84, none, .ex (.mov) [.s 10]⟩,
               ⟨some 85, none, .ex (.ibin .eql) [.s 84, .k (.int .i64 0)]⟩,
               ⟨some 86, none, .ex (.mov) [.s 85]⟩,
               ⟨some 87, some (86, true), .ex (.mov) [.s 12]⟩,
               ⟨some 88, some (86, true), .ex (.ibin .eql) [.s 87, .k (.int .i64 0)]⟩,
               ⟨some 89, none, .ex (.pick) [.s 86, .s 88, .k (.bool false)]⟩,
               ⟨some 90, none, .ex (.mov) [.s 89]⟩,
               ⟨some 91, some (90, true), .ex (.mov) [.s 14]⟩,
               ⟨some 92, some (90, true), .ex (.ibin .eql) [.s 91, .k (.int .i64 10)]⟩,
               ⟨some 93, none, .ex (.pick) [.s 90, .s 92, .k (.bool false)]⟩,
               ⟨some 94, none, .ex (.mov) [.s 93]⟩,
               ⟨some 95, some (94, true), .ex (.mov) [.s 16]⟩,
               ⟨some 96, some (94, true), .ex (.ibin .eql) [.s 95, .k (.int .i64 0)]⟩,
               ⟨some 97, none, .ex (.pick) [.s 94, .s 96, .k (.bool false)]⟩,
               ⟨some 98, none, .ex (.mov) [.s 97]⟩,
               ⟨some 99, some (98, true), .ex (.mov) [.s 9]⟩,
               ⟨some 100, some (98, true), .ex (.mov) [.s 18]⟩,
               ⟨some 101, some (98, true), .callf 17 [.s 99, .s 100]⟩,
               ⟨some 102, none, .ex (.pick) [.s 98, .s 101, .k (.bool false)]⟩,
               ⟨some 103, none, .ex (.mov) [.s 102]⟩,
               ⟨some 104, some (103, true), .ex (.mov) [.s 15]⟩,
               ⟨some 105, some (103, true), .ex (.mov) [.s 17]⟩,
               ⟨some 106, some (103, true), .callf 17 [.s 104, .s 105]⟩,
               ⟨some 107, none, .ex (.pick) [.s 103, .s 106, .k (.bool false)]⟩,
               ⟨some 108, none, .ex (.mov) [.s 107]⟩,
               ⟨some 109, some (108, true), .ex (.mov) [.s 19]⟩,
               ⟨some 110, some (108, true), .ex (.ibin .eql) [.s 109, .k (.int .i64 1)]⟩,
               ⟨some 111, none, .ex (.pick) [.s 108, .s 110, .k (.bool false)]⟩,
               ⟨some 112, none, .ex (.mov) [.s 111]⟩,
               ⟨some 113, some (112, true), .ex (.mov) [.s 20]⟩,
               ⟨some 114, some (112, true), .ex (.ibin .eql) [.s 113, .k (.int .i64 1)]⟩,
               ⟨some 115, none, .ex (.pick) [.s 112, .s 114, .k (.bool false)]⟩,
               ⟨some 116, none, .ex (.mov) [.s 115]⟩,
               ⟨some 117, some (116, true), .ex (.mov) [.s 3]⟩,
               ⟨some 118, some (116, true), .ex (.mov) [.s 17]⟩,
               ⟨some 119, some (116, true), .ex (.mov) [.s 18]⟩,
               ⟨some 120, some (116, true), .callf 13 [.s 117, .s 118, .s 119]⟩,
               ⟨some 121, some (116, true), .ex (.ibin .eql) [.s 120, .k (.int .i64 0)]⟩,
               ⟨some 122, none, .ex (.pick) [.s 116, .s 121, .k (.bool false)]⟩,
               ⟨some 123, none, .ex (.mov) [.s 122]⟩,
               ⟨some 124, some (123, true), .ex (.mov) [.s 3]⟩,
               ⟨some 125, some (123, true), .callf 22 [.s 124]⟩,
               ⟨some 126, some (123, true), .ex (.ibin .eql) [.s 125, .k (.int .i64 0)]⟩,
               ⟨some 127, none, .ex (.pick) [.s 123, .s 126, .k (.bool false)]⟩,
               ⟨some 128, none, .ex (.mov) [.s 127]⟩,
               ⟨some 129, some (128, true), .ex (.mov) [.s 3]⟩,
               ⟨some 130, some (128, true), .callf 22 [.s 129]⟩,
               ⟨some 131, some (128, true), .ex (.ibin .eql) [.s 130, .k (.int .i64 9)]⟩,
               ⟨some 132, none, .ex (.pick) [.s 128, .s 131, .k (.bool false)]⟩,
               ⟨some 133, none, .ex (.mov) [.s 132]⟩,
               ⟨some 134, some (133, true), .ex (.mov) [.s 3]⟩,
               ⟨some 135, some (133, true), .callf 28 [.s 134]⟩,
               ⟨some 136, none, .ex (.pick) [.s 133, .s 135, .k (.bool false)]⟩,
               ⟨some 0, none, .ex (.mov) [.s 136]⟩])
             .ret)))))))))))),
 [.t 0]⟩
theorem c11 : compFn Go.Proofs.Tryz.prog 11 = some fn11 := by kernel_rfl

/-- rubric/rubriclaw27.in -/
def fn12 : AFn := ⟨10,
 (.seq
  (.region [⟨some 2, none, .ex (.mov) [.k .nils]⟩,
    ⟨some 3, none, .ex (.mov) [.k .nils]⟩])
  (.seq
   (.region [⟨some 4, none, .ex (.mov) [.s 0]⟩,
     ⟨some 5, none, .ex (.bsl 1 1 [(.int .i32 0)] [(0, 1)]) [.s 4]⟩,
     ⟨some 6, none, .ex (.build [(.int .u8 0), (.int .i64 0), .nils, .nils, .nils] [(0, 1), (2, 1)]) [.k (.int .u8 2), .s 5]⟩,
     ⟨some 7, none, .ex (.bsl 5 1 [(.int .u8 0), (.int .i64 0), .nils, .nils, .nils] [(0, 5)]) [.s 6]⟩,
     ⟨some 8, none, .ex (.build [(.int .u8 0), (.int .i64 0), .nils, .nils, .nils] [(0, 1), (1, 1)]) [.k (.int .u8 3), .k (.int .i64 1)]⟩,
     ⟨some 9, none, .ex (.bsl 5 1 [(.int .u8 0), (.int .i64 0), .nils, .nils, .nils] [(0, 5)]) [.s 8]⟩,
     ⟨some 2, none, .ex (.mov) [.s 7]⟩,
     ⟨some 3, none, .ex (.mov) [.s 9]⟩])
   .ret)),
 [.t 2, .t 3]⟩
theorem c12 : compFn Go.Proofs.Tryz.prog 12 = some fn12 := by kernel_rfl

/-- (*rubric/history.History).Push -/
def fn13 : AFn := ⟨42,
 (.seq
  (.region [⟨some 6, none, .ex (.mov) [.k (.int .i64 0)]⟩])
  (.seq
   (.seq
    (.region [⟨some 10, none, .ex (.mov) [.s 0]⟩,
      ⟨some 11, none, .callf 36 [.s 10]⟩,
      ⟨some 12, none, .ex (.bnot) [.s 11]⟩])
    (.cond (.s 12)
     (.seq
      (.region [⟨some 6, none, .ex (.mov) [.k (.int .i64 1)]⟩])
      .ret)
     .skip))
   (.seq
    (.region [⟨some 13, none, .ex (.mov) [.s 1]⟩,
      ⟨some 14, none, .callf 37 [.s 13]⟩,
      ⟨some 15, none, .ex (.mov) [.s 2]⟩,
      ⟨some 16, none, .callf 37 [.s 15]⟩,
      ⟨some 17, none, .ex (.build [.nils, .nils] [(0, 1), (1, 1)]) [.s 14, .s 16]⟩,
      ⟨some 7, none, .ex (.alloc [.nils, .nils]) []⟩,
      ⟨none, none, .ex (.st 2) [.s 7, .s 17]⟩])
    (.seq
     (.seq
      (.region [⟨some 18, none, .ex (.mov) [.s 0]⟩,
        ⟨some 19, none, .ex (.nilck) [.s 18]⟩,
        ⟨some 20, none, .ex (.fa 5) [.s 19]⟩,
        ⟨some 21, none, .ex (.ld 1) [.s 20]⟩])
      (.cond (.s 21)
       (.seq
        (.region [⟨some 23, none, .ex (.mov) [.s 0]⟩,
          ⟨some 24, none, .ex (.lda 2) [.s 7]⟩,
          ⟨some 25, none, .callf 38 [.s 23, .s 24]⟩,
          ⟨some 22, none, .ex (.mov) [.s 25]⟩,
          ⟨some 26, none, .ex (.ext 0) [.s 22]⟩,
          ⟨some 27, none, .ex (.ext 1) [.s 22]⟩,
          ⟨some 8, none, .ex (.alloc [.nils, .nils]) []⟩,
          ⟨none, none, .ex (.st 2) [.s 8, .s 26]⟩,
          ⟨some 9, none, .ex (.mov) [.s 27]⟩])
        (.seq
         (.seq
          (.region [⟨some 28, none, .ex (.mov) [.s 9]⟩,
            ⟨some 29, none, .ex (.ibin .neq) [.s 28, .k (.int .i64 0)]⟩])
          (.cond (.s 29)
           (.seq
            (.region [⟨some 30, none, .ex (.mov) [.s 9]⟩,
              ⟨some 6, none, .ex (.mov) [.s 30]⟩])
            .ret)
           .skip))
         (.region [⟨some 31, none, .ex (.mov) [.s 0]⟩,
           ⟨some 32, none, .ex (.lda 2) [.s 8]⟩,
           ⟨some 33, none, .ex (.bsl 2 1 [.nils, .nils] [(0, 2)]) [.s 32]⟩,
           ⟨some 34, none, .ex (.nilck) [.s 31]⟩,
           ⟨some 35, none, .ex (.fa 6) [.s 34]⟩,
           ⟨none, none, .ex (.st 1) [.s 35, .s 33]⟩])))
       (.region [⟨some 36, none, .ex (.mov) [.s 0]⟩,
         ⟨some 37, none, .ex (.lda 2) [.s 7]⟩,
         ⟨some 38, none, .callf 39 [.s 36, .s 37]⟩])))
     (.seq
      (.region [⟨some 39, none, .ex (.mov) [.s 0]⟩,
        ⟨some 40, none, .ex (.nilck) [.s 39]⟩,
        ⟨some 41, none, .ex (.fa 4) [.s 40]⟩,
        ⟨none, none, .ex (.st 1) [.s 41, .k .nils]⟩])
      (.seq
       (.region [⟨some 6, none, .ex (.mov) [.k (.int .i64 0)]⟩])
       .ret)))))),
 [.t 6]⟩
theorem c13 : compFn Go.Proofs.Tryz.prog 13 = some fn13 := by kernel_rfl

/-- (*rubric/history.History).Undo -/
def fn14 : AFn := ⟨24,
 (.seq
  (.region [⟨some 2, none, .ex (.mov) [.k .nils]⟩,
    ⟨some 3, none, .ex (.mov) [.k (.int .i64 0)]⟩])
  (.seq
   (.seq
    (.region [⟨some 6, none, .ex (.mov) [.s 0]⟩,
      ⟨some 7, none, .callf 36 [.s 6]⟩,
      ⟨some 8, none, .ex (.bnot) [.s 7]⟩])
    (.cond (.s 8)
     (.seq
      (.region [⟨some 2, none, .ex (.mov) [.k .nils]⟩,
        ⟨some 3, none, .ex (.mov) [.k (.int .i64 1)]⟩])
      .ret)
     .skip))
   (.seq
    (.draw (.op ⟨some 10, none, .ex (.mov) [.s 0]⟩ (.op ⟨some 11, none, .ex (.mov) [.s 0]⟩ (.op ⟨some 12, none, .ex (.nilck) [.s 11]⟩ (.op ⟨some 13, none, .ex (.fa 3) [.s 12]⟩ (.op ⟨some 14, none, .ex (.mov) [.s 0]⟩ (.op ⟨some 15, none, .ex (.nilck) [.s 14]⟩ (.op ⟨some 16, none, .ex (.fa 4) [.s 15]⟩ (.fork (.op ⟨some 17, none, .callf 40 [.s 10, .s 13, .s 16]⟩ (.op ⟨some 9, none, .ex (.mov) [.s 17]⟩ (.op ⟨some 18, none, .ex (.ext 0) [.s 9]⟩ (.op ⟨some 19, none, .ex (.ext 1) [.s 9]⟩ (.op ⟨some 4, none, .ex (.alloc [.nils, .nils]) []⟩ (.op ⟨none, none, .ex (.st 2) [.s 4, .s 18]⟩ (.op ⟨some 5, none, .ex (.mov) [.s 19]⟩ .done))))))) (.op ⟨some 4, none, .ex (.alloc [.nils, .nils]) []⟩ (.op ⟨some 17, none, .callf 40 [.s 10, .s 13, .s 16]⟩ (.op ⟨some 9, none, .ex (.mov) [.s 17]⟩ (.op ⟨some 18, none, .ex (.ext 0) [.s 9]⟩ (.op ⟨some 19, none, .ex (.ext 1) [.s 9]⟩ (.op ⟨none, none, .ex (.st 2) [.s 4, .s 18]⟩ (.op ⟨some 5, none, .ex (.mov) [.s 19]⟩ .done))))))))))))))))
    (.seq
     (.region [⟨some 20, none, .ex (.fa 1) [.s 4]⟩,
       ⟨some 21, none, .ex (.ld 1) [.s 20]⟩,
       ⟨some 22, none, .callf 37 [.s 21]⟩,
       ⟨some 23, none, .ex (.mov) [.s 5]⟩,
       ⟨some 2, none, .ex (.mov) [.s 22]⟩,
       ⟨some 3, none, .ex (.mov) [.s 23]⟩])
     .ret)))),
 [.t 2, .t 3]⟩
theorem c14 : compFn Go.Proofs.Tryz.prog 14 = some fn14 := by kernel_rfl

/-- (*rubric/history.History).Depths -/
def fn15 : AFn := ⟨17,
 (.seq
  (.region [⟨some 2, none, .ex (.mov) [.k (.int .i64 0)]⟩,
    ⟨some 3, none, .ex (.mov) [.k (.int .i64 0)]⟩])
  (.seq
   (.seq
    (.region [⟨some 4, none, .ex (.mov) [.s 0]⟩,
      ⟨some 5, none, .callf 36 [.s 4]⟩,
      ⟨some 6, none, .ex (.bnot) [.s 5]⟩])
    (.cond (.s 6)
     (.seq
      (.region [⟨some 2, none, .ex (.mov) [.k (.int .i64 0)]⟩,
        ⟨some 3, none, .ex (.mov) [.k (.int .i64 0)]⟩])
      .ret)
     .skip))
   (.seq
    (.draw (.op ⟨some 7, none, .ex (.mov) [.s 0]⟩ (.op ⟨some 8, none, .ex (.nilck) [.s 7]⟩ (.op ⟨some 9, none, .ex (.fa 3) [.s 8]⟩ (.op ⟨some 10, none, .ex (.ld 1) [.s 9]⟩ (.op ⟨some 11, none, .ex (.len) [.s 10]⟩ (.op ⟨some 12, none, .ex (.mov) [.s 0]⟩ (.op ⟨some 13, none, .ex (.nilck) [.s 12]⟩ (.op ⟨some 14, none, .ex (.fa 4) [.s 13]⟩ (.op ⟨some 15, none, .ex (.ld 1) [.s 14]⟩ (.op ⟨some 16, none, .ex (.len) [.s 15]⟩ (.op ⟨some 2, none, .ex (.mov) [.s 11]⟩ (.op ⟨some 3, none, .ex (.mov) [.s 16]⟩ .done)))))))))))))
    .ret))),
 [.t 2, .t 3]⟩
theorem c15 : compFn Go.Proofs.Tryz.prog 15 = some fn15 := by kernel_rfl

/-- (*rubric/history.History).Redo -/
def fn16 : AFn := ⟨24,
 (.seq
  (.region [⟨some 2, none, .ex (.mov) [.k .nils]⟩,
    ⟨some 3, none, .ex (.mov) [.k (.int .i64 0)]⟩])
  (.seq
   (.seq
    (.region [⟨some 6, none, .ex (.mov) [.s 0]⟩,
      ⟨some 7, none, .callf 36 [.s 6]⟩,
      ⟨some 8, none, .ex (.bnot) [.s 7]⟩])
    (.cond (.s 8)
     (.seq
      (.region [⟨some 2, none, .ex (.mov) [.k .nils]⟩,
        ⟨some 3, none, .ex (.mov) [.k (.int .i64 1)]⟩])
      .ret)
     .skip))
   (.seq
    (.draw (.op ⟨some 10, none, .ex (.mov) [.s 0]⟩ (.op ⟨some 11, none, .ex (.mov) [.s 0]⟩ (.op ⟨some 12, none, .ex (.nilck) [.s 11]⟩ (.op ⟨some 13, none, .ex (.fa 4) [.s 12]⟩ (.op ⟨some 14, none, .ex (.mov) [.s 0]⟩ (.op ⟨some 15, none, .ex (.nilck) [.s 14]⟩ (.op ⟨some 16, none, .ex (.fa 3) [.s 15]⟩ (.fork (.op ⟨some 17, none, .callf 40 [.s 10, .s 13, .s 16]⟩ (.op ⟨some 9, none, .ex (.mov) [.s 17]⟩ (.op ⟨some 18, none, .ex (.ext 0) [.s 9]⟩ (.op ⟨some 19, none, .ex (.ext 1) [.s 9]⟩ (.op ⟨some 4, none, .ex (.alloc [.nils, .nils]) []⟩ (.op ⟨none, none, .ex (.st 2) [.s 4, .s 18]⟩ (.op ⟨some 5, none, .ex (.mov) [.s 19]⟩ .done))))))) (.op ⟨some 4, none, .ex (.alloc [.nils, .nils]) []⟩ (.op ⟨some 17, none, .callf 40 [.s 10, .s 13, .s 16]⟩ (.op ⟨some 9, none, .ex (.mov) [.s 17]⟩ (.op ⟨some 18, none, .ex (.ext 0) [.s 9]⟩ (.op ⟨some 19, none, .ex (.ext 1) [.s 9]⟩ (.op ⟨none, none, .ex (.st 2) [.s 4, .s 18]⟩ (.op ⟨some 5, none, .ex (.mov) [.s 19]⟩ .done))))))))))))))))
    (.seq
     (.region [⟨some 20, none, .ex (.fa 0) [.s 4]⟩,
       ⟨some 21, none, .ex (.ld 1) [.s 20]⟩,
       ⟨some 22, none, .callf 37 [.s 21]⟩,
       ⟨some 23, none, .ex (.mov) [.s 5]⟩,
       ⟨some 2, none, .ex (.mov) [.s 22]⟩,
       ⟨some 3, none, .ex (.mov) [.s 23]⟩])
     .ret)))),
 [.t 2, .t 3]⟩
theorem c16 : compFn Go.Proofs.Tryz.prog 16 = some fn16 := by kernel_rfl

/-- rubric/rubricref15.Same -/
def fn17 : AFn := ⟨63,
 (.seq
  (.region [⟨some 4, none, .ex (.mov) [.k (.bool false)]⟩])
  (.seq
   (.seq
    (.region [⟨some 8, none, .ex (.mov) [.s 0]⟩,
      ⟨some 9, none, .ex (.len) [.s 8]⟩,
      ⟨some 10, none, .ex (.mov) [.s 1]⟩,
      ⟨some 11, none, .ex (.len) [.s 10]⟩,
      ⟨some 12, none, .ex (.ibin .neq) [.s 9, .s 11]⟩])
    (.cond (.s 12)
     (.seq
      (.region [⟨some 4, none, .ex (.mov) [.k (.bool false)]⟩])
      .ret)
     .skip))
   (.seq
    (.seq
     (.region [⟨some 5, none, .ex (.mov) [.k (.int .i64 0)]⟩])
     (.block 0
      (.loop
       (.seq
        (.seq
         (.region [⟨some 13, none, .ex (.mov) [.s 5]⟩,
           ⟨some 14, none, .ex (.mov) [.s 0]⟩,
           ⟨some 15, none, .ex (.len) [.s 14]⟩,
           ⟨some 16, none, .ex (.ibin .lss) [.s 13, .s 15]⟩])
         (.cond (.s 16)
          .skip
          (.exit 0)))
        (.seq
         (.block 1
          (.seq
           (.draw (.op ⟨some 19, none, .ex (.mov) [.s 0]⟩ (.op ⟨some 20, none, .ex (.mov) [.s 5]⟩ (.op ⟨some 21, none, .ex (.ia 5) [.s 19, .s 20]⟩ (.op ⟨some 22, none, .ex (.lda 5) [.s 21]⟩ (.op ⟨some 23, none, .ex (.mov) [.s 1]⟩ (.op ⟨some 24, none, .ex (.mov) [.s 5]⟩ (.op ⟨some 25, none, .ex (.ia 5) [.s 23, .s 24]⟩ (.fork (.op ⟨some 26, none, .ex (.lda 5) [.s 25]⟩ (.fork (.op ⟨some 6, none, .ex (.alloc [(.int .u8 0), (.int .i64 0), .nils, .nils, .nils]) []⟩ (.op ⟨some 7, none, .ex (.alloc [(.int .u8 0), (.int .i64 0), .nils, .nils, .nils]) []⟩ (.op ⟨none, none, .ex (.st 5) [.s 6, .s 22]⟩ (.op ⟨none, none, .ex (.st 5) [.s 7, .s 26]⟩ .done)))) (.op ⟨some 7, none, .ex (.alloc [(.int .u8 0), (.int .i64 0), .nils, .nils, .nils]) []⟩ (.op ⟨some 6, none, .ex (.alloc [(.int .u8 0), (.int .i64 0), .nils, .nils, .nils]) []⟩ (.op ⟨none, none, .ex (.st 5) [.s 6, .s 22]⟩ (.op ⟨none, none, .ex (.st 5) [.s 7, .s 26]⟩ .done)))))) (.fork (.op ⟨some 6, none, .ex (.alloc [(.int .u8 0), (.int .i64 0), .nils, .nils, .nils]) []⟩ (.fork (.op ⟨some 26, none, .ex (.lda 5) [.s 25]⟩ (.op ⟨some 7, none, .ex (.alloc [(.int .u8 0), (.int .i64 0), .nils, .nils, .nils]) []⟩ (.op ⟨none, none, .ex (.st 5) [.s 6, .s 22]⟩ (.op ⟨none, none, .ex (.st 5) [.s 7, .s 26]⟩ .done)))) (.op ⟨some 7, none, .ex (.alloc [(.int .u8 0), (.int .i64 0), .nils, .nils, .nils]) []⟩ (.fork (.op ⟨some 26, none, .ex (.lda 5) [.s 25]⟩ (.op ⟨none, none, .ex (.st 5) [.s 6, .s 22]⟩ (.op ⟨none, none, .ex (.st 5) [.s 7, .s 26]⟩ .done))) (.op ⟨none, none, .ex (.st 5) [.s 6, .s 22]⟩ (.op ⟨some 26, none, .ex (.lda 5) [.s 25]⟩ (.op ⟨none, none, .ex (.st 5) [.s 7, .s 26]⟩ .done))))))) (.op ⟨some 7, none, .ex (.alloc [(.int .u8 0), (.int .i64 0), .nils, .nils, .nils]) []⟩ (.fork (.op ⟨some 26, none, .ex (.lda 5) [.s 25]⟩ (.op ⟨some 6, none, .ex (.alloc [(.int .u8 0), (.int .i64 0), .nils, .nils, .nils]) []⟩ (.op ⟨none, none, .ex (.st 5) [.s 6, .s 22]⟩ (.op ⟨none, none, .ex (.st 5) [.s 7, .s 26]⟩ .done)))) (.op ⟨some 6, none, .ex (.alloc [(.int .u8 0), (.int .i64 0), .nils, .nils, .nils]) []⟩ (.fork (.op ⟨some 26, none, .ex (.lda 5) [.s 25]⟩ (.op ⟨none, none, .ex (.st 5) [.s 6, .s 22]⟩ (.op ⟨none, none, .ex (.st 5) [.s 7, .s 26]⟩ .done))) (.op ⟨none, none, .ex (.st 5) [.s 6, .s 22]⟩ (.op ⟨some 26, none, .ex (.lda 5) [.s 25]⟩ (.op ⟨none, none, .ex (.st 5) [.s 7, .s 26]⟩ .done)))))))))))))))))
           (.seq
            (.region [⟨some 27, none, .ex (.fa 0) [.s 6]⟩,
              ⟨some 28, none, .ex (.ld 1) [.s 27]⟩,
              ⟨some 29, none, .ex (.fa 0) [.s 7]⟩,
              ⟨some 30, none, .ex (.ld 1) [.s 29]⟩,
              ⟨some 31, none, .ex (.ibin .neq) [.s 28, .s 30]⟩,
              ⟨some 32, none, .ex (.mov) [.s 31]⟩,
              ⟨some 33, some (32, false), .ex (.fa 1) [.s 6]⟩,
              ⟨some 34, some (32, false), .ex (.ld 1) [.s 33]⟩,
              ⟨some 35, some (32, false), .ex (.fa 1) [.s 7]⟩,
              ⟨some 36, some (32, false), .ex (.ld 1) [.s 35]⟩,
              ⟨some 37, some (32, false), .ex (.ibin .neq) [.s 34, .s 36]⟩,
              ⟨some 38, none, .ex (.pick) [.s 32, .k (.bool true), .s 37]⟩,
              ⟨some 39, none, .ex (.mov) [.s 38]⟩,
              ⟨some 40, some (39, false), .ex (.fa 2) [.s 6]⟩,
              ⟨some 41, some (39, false), .ex (.ld 1) [.s 40]⟩,
              ⟨some 42, some (39, false), .ex (.fa 2) [.s 7]⟩,
              ⟨some 43, some (39, false), .ex (.ld 1) [.s 42]⟩,
              ⟨some 44, some (39, false), .callf 41 [.s 41, .s 43]⟩,
              ⟨some 45, some (39, false), .ex (.bnot) [.s 44]⟩,
              ⟨some 46, none, .ex (.pick) [.s 39, .k (.bool true), .s 45]⟩,
              ⟨some 47, none, .ex (.mov) [.s 46]⟩,
              ⟨some 48, some (47, false), .ex (.fa 3) [.s 6]⟩,
              ⟨some 49, some (47, false), .ex (.ld 1) [.s 48]⟩,
              ⟨some 50, some (47, false), .ex (.fa 3) [.s 7]⟩,
              ⟨some 51, some (47, false), .ex (.ld 1) [.s 50]⟩,
              ⟨some 52, some (47, false), .callf 42 [.s 49, .s 51]⟩,
              ⟨some 53, some (47, false), .ex (.bnot) [.s 52]⟩,
              ⟨some 54, none, .ex (.pick) [.s 47, .k (.bool true), .s 53]⟩,
              ⟨some 55, none, .ex (.mov) [.s 54]⟩,
              ⟨some 56, some (55, false), .ex (.fa 4) [.s 6]⟩,
              ⟨some 57, some (55, false), .ex (.ld 1) [.s 56]⟩,
              ⟨some 58, some (55, false), .ex (.fa 4) [.s 7]⟩,
              ⟨some 59, some (55, false), .ex (.ld 1) [.s 58]⟩,
              ⟨some 60, some (55, false), .callf 43 [.s 57, .s 59]⟩,
              ⟨some 61, some (55, false), .ex (.bnot) [.s 60]⟩,
              ⟨some 62, none, .ex (.pick) [.s 55, .k (.bool true), .s 61]⟩])
            (.cond (.s 62)
             (.seq
              (.region [⟨some 4, none, .ex (.mov) [.k (.bool false)]⟩])
              .ret)
             .skip))))
         (.region [⟨some 17, none, .ex (.mov) [.s 5]⟩,
           ⟨some 18, none, .ex (.ibin .add) [.s 17, .k (.int .i64 1)]⟩,
           ⟨some 5, none, .ex (.mov) [.s 18]⟩]))))))
    (.seq
     (.region [⟨some 4, none, .ex (.mov) [.k (.bool true)]⟩])
     .ret)))),
 [.t 4]⟩
theorem c17 : compFn Go.Proofs.Tryz.prog 17 = some fn17 := by kernel_rfl

/-- (*rubric/history.History).Begin -/
def fn22 : AFn := ⟨18,
 (.seq
  (.region [⟨some 2, none, .ex (.mov) [.k (.int .i64 0)]⟩])
  (.seq
   (.block 0
    (.seq
     (.region [⟨some 4, none, .ex (.mov) [.s 0]⟩,
       ⟨some 5, none, .callf 36 [.s 4]⟩,
       ⟨some 6, none, .ex (.bnot) [.s 5]⟩,
       ⟨some 3, none, .ex (.mov) [.s 6]⟩])
     (.cond (.s 3)
      (.seq
       (.region [⟨some 2, none, .ex (.mov) [.k (.int .i64 1)]⟩])
       .ret)
      (.seq
       (.region [⟨some 8, none, .ex (.mov) [.s 0]⟩,
         ⟨some 9, none, .ex (.nilck) [.s 8]⟩,
         ⟨some 10, none, .ex (.fa 5) [.s 9]⟩,
         ⟨some 11, none, .ex (.ld 1) [.s 10]⟩,
         ⟨some 7, none, .ex (.mov) [.s 11]⟩])
       (.cond (.s 7)
        (.seq
         (.region [⟨some 2, none, .ex (.mov) [.k (.int .i64 9)]⟩])
         .ret)
        .skip)))))
   (.seq
    (.region [⟨some 12, none, .ex (.mov) [.s 0]⟩,
      ⟨some 13, none, .ex (.mov) [.s 0]⟩,
      ⟨some 14, none, .ex (.nilck) [.s 12]⟩,
      ⟨some 15, none, .ex (.fa 5) [.s 14]⟩,
      ⟨none, none, .ex (.st 1) [.s 15, .k (.bool true)]⟩,
      ⟨some 16, none, .ex (.nilck) [.s 13]⟩,
      ⟨some 17, none, .ex (.fa 6) [.s 16]⟩,
      ⟨none, none, .ex (.st 1) [.s 17, .k .nils]⟩])
    (.seq
     (.region [⟨some 2, none, .ex (.mov) [.k (.int .i64 0)]⟩])
     .ret)))),
 [.t 2]⟩
theorem c22 : compFn Go.Proofs.Tryz.prog 22 = some fn22 := by kernel_rfl

/-- (*rubric/history.History).End -/
def fn24 : AFn := ⟨34,
 (.seq
  (.region [⟨some 2, none, .ex (.mov) [.k (.int .i64 0)]⟩])
  (.seq
   (.block 0
    (.seq
     (.region [⟨some 6, none, .ex (.mov) [.s 0]⟩,
       ⟨some 7, none, .callf 36 [.s 6]⟩,
       ⟨some 8, none, .ex (.bnot) [.s 7]⟩,
       ⟨some 5, none, .ex (.mov) [.s 8]⟩])
     (.cond (.s 5)
      (.seq
       (.region [⟨some 2, none, .ex (.mov) [.k (.int .i64 1)]⟩])
       .ret)
      (.seq
       (.region [⟨some 10, none, .ex (.mov) [.s 0]⟩,
         ⟨some 11, none, .ex (.nilck) [.s 10]⟩,
         ⟨some 12, none, .ex (.fa 5) [.s 11]⟩,
         ⟨some 13, none, .ex (.ld 1) [.s 12]⟩,
         ⟨some 14, none, .ex (.bnot) [.s 13]⟩,
         ⟨some 9, none, .ex (.mov) [.s 14]⟩])
       (.cond (.s 9)
        (.seq
         (.region [⟨some 2, none, .ex (.mov) [.k (.int .i64 9)]⟩])
         .ret)
        .skip)))))
   (.seq
    (.seq
     (.region [⟨some 15, none, .ex (.mov) [.s 0]⟩,
       ⟨some 16, none, .ex (.nilck) [.s 15]⟩,
       ⟨some 17, none, .ex (.fa 6) [.s 16]⟩,
       ⟨some 18, none, .ex (.ld 1) [.s 17]⟩,
       ⟨some 19, none, .ex (.len) [.s 18]⟩,
       ⟨some 20, none, .ex (.mov) [.k (.int .i64 0)]⟩])
     (.block 1
      (.loop
       (.seq
        (.region [⟨some 21, none, .ex (.ibin .lss) [.s 20, .s 19]⟩])
        (.seq
         (.cond (.s 21)
          .skip
          (.exit 1))
         (.seq
          (.block 2
           (.seq
            (.region [⟨some 22, none, .ex (.ia 2) [.s 18, .s 20]⟩,
              ⟨some 23, none, .ex (.lda 2) [.s 22]⟩,
              ⟨some 4, none, .ex (.alloc [.nils, .nils]) []⟩,
              ⟨none, none, .ex (.st 2) [.s 4, .s 23]⟩])
            (.region [⟨some 24, none, .ex (.mov) [.s 0]⟩,
              ⟨some 25, none, .ex (.lda 2) [.s 4]⟩,
              ⟨some 26, none, .callf 39 [.s 24, .s 25]⟩])))
          (.region [⟨some 27, none, .ex (.ibin .add) [.s 20, .k (.int .i64 1)]⟩,
            ⟨some 20, none, .ex (.mov) [.s 27]⟩])))))))
    (.seq
     (.region [⟨some 28, none, .ex (.mov) [.s 0]⟩,
       ⟨some 29, none, .ex (.mov) [.s 0]⟩,
       ⟨some 30, none, .ex (.nilck) [.s 28]⟩,
       ⟨some 31, none, .ex (.fa 5) [.s 30]⟩,
       ⟨none, none, .ex (.st 1) [.s 31, .k (.bool false)]⟩,
       ⟨some 32, none, .ex (.nilck) [.s 29]⟩,
       ⟨some 33, none, .ex (.fa 6) [.s 32]⟩,
       ⟨none, none, .ex (.st 1) [.s 33, .k .nils]⟩])
     (.seq
      (.region [⟨some 2, none, .ex (.mov) [.k (.int .i64 0)]⟩])
      .ret))))),
 [.t 2]⟩
theorem c24 : compFn Go.Proofs.Tryz.prog 24 = some fn24 := by kernel_rfl

/-- (*rubric/history.History).Open -/
def fn28 : AFn := ⟨11,
 (.seq
  (.region [⟨some 2, none, .ex (.mov) [.k (.bool false)]⟩])
  (.seq
   (.region [⟨some 3, none, .ex (.mov) [.s 0]⟩,
     ⟨some 4, none, .callf 36 [.s 3]⟩,
     ⟨some 5, none, .ex (.mov) [.s 4]⟩,
     ⟨some 6, some (5, true), .ex (.mov) [.s 0]⟩,
     ⟨some 7, some (5, true), .ex (.nilck) [.s 6]⟩,
     ⟨some 8, some (5, true), .ex (.fa 5) [.s 7]⟩,
     ⟨some 9, some (5, true), .ex (.ld 1) [.s 8]⟩,
     ⟨some 10, none, .ex (.pick) [.s 5, .s 9, .k (.bool false)]⟩,
     ⟨some 2, none, .ex (.mov) [.s 10]⟩])
   .ret)),
 [.t 2]⟩
theorem c28 : compFn Go.Proofs.Tryz.prog 28 = some fn28 := by kernel_rfl

/-- rubric/rubricref15.Size -/
def fn29 : AFn := ⟨83,
 (.seq
  (.region [⟨some 2, none, .ex (.mov) [.k (.int .i64 0)]⟩])
  (.seq
   (.region [⟨some 3, none, .ex (.mov) [.k (.int .i64 0)]⟩])
   (.seq
    (.seq
     (.region [⟨some 4, none, .ex (.mov) [.k (.int .i64 0)]⟩])
     (.block 0
      (.loop
       (.seq
        (.seq
         (.region [⟨some 7, none, .ex (.mov) [.s 4]⟩,
           ⟨some 8, none, .ex (.mov) [.s 0]⟩,
           ⟨some 9, none, .ex (.len) [.s 8]⟩,
           ⟨some 10, none, .ex (.ibin .lss) [.s 7, .s 9]⟩])
         (.cond (.s 10)
          .skip
          (.exit 0)))
        (.seq
         (.block 1
          (.seq
           (.draw (.op ⟨some 13, none, .ex (.mov) [.s 3]⟩ (.op ⟨some 14, none, .ex (.ibin .add) [.s 13, .k (.int .i64 1)]⟩ (.op ⟨some 15, none, .ex (.mov) [.s 0]⟩ (.op ⟨some 16, none, .ex (.mov) [.s 4]⟩ (.op ⟨some 17, none, .ex (.ia 5) [.s 15, .s 16]⟩ (.op ⟨some 18, none, .ex (.fa 2) [.s 17]⟩ (.op ⟨some 19, none, .ex (.ld 1) [.s 18]⟩ (.op ⟨some 20, none, .ex (.len) [.s 19]⟩ (.op ⟨some 21, none, .ex (.ibin .add) [.s 14, .s 20]⟩ (.op ⟨some 22, none, .ex (.mov) [.s 0]⟩ (.op ⟨some 23, none, .ex (.mov) [.s 4]⟩ (.op ⟨some 24, none, .ex (.ia 5) [.s 22, .s 23]⟩ (.op ⟨some 25, none, .ex (.fa 3) [.s 24]⟩ (.op ⟨some 26, none, .ex (.ld 1) [.s 25]⟩ (.op ⟨some 27, none, .ex (.len) [.s 26]⟩ (.op ⟨some 28, none, .ex (.ibin .add) [.s 21, .s 27]⟩ (.op ⟨some 29, none, .ex (.mov) [.s 0]⟩ (.op ⟨some 30, none, .ex (.mov) [.s 4]⟩ (.op ⟨some 31, none, .ex (.ia 5) [.s 29, .s 30]⟩ (.op ⟨some 32, none, .ex (.fa 4) [.s 31]⟩ (.op ⟨some 33, none, .ex (.ld 1) [.s 32]⟩ (.op ⟨some 34, none, .ex (.len) [.s 33]⟩ (.op ⟨some 35, none, .ex (.ibin .add) [.s 28, .s 34]⟩ (.op ⟨some 3, none, .ex (.mov) [.s 35]⟩ .done)))))))))))))))))))))))))
           (.seq
            (.seq
             (.region [⟨some 5, none, .ex (.mov) [.k (.int .i64 0)]⟩])
             (.block 2
              (.loop
               (.seq
                (.seq
                 (.region [⟨some 36, none, .ex (.mov) [.s 5]⟩,
                   ⟨some 37, none, .ex (.mov) [.s 0]⟩,
                   ⟨some 38, none, .ex (.mov) [.s 4]⟩,
                   ⟨some 39, none, .ex (.ia 5) [.s 37, .s 38]⟩,
                   ⟨some 40, none, .ex (.fa 3) [.s 39]⟩,
                   ⟨some 41, none, .ex (.ld 1) [.s 40]⟩,
                   ⟨some 42, none, .ex (.len) [.s 41]⟩,
                   ⟨some 43, none, .ex (.ibin .lss) [.s 36, .s 42]⟩])
                 (.cond (.s 43)
                  .skip
                  (.exit 2)))
                (.seq
                 (.block 3
                  (.region [⟨some 46, none, .ex (.mov) [.s 3]⟩,
                    ⟨some 47, none, .ex (.mov) [.s 0]⟩,
                    ⟨some 48, none, .ex (.mov) [.s 4]⟩,
                    ⟨some 49, none, .ex (.ia 5) [.s 47, .s 48]⟩,
                    ⟨some 50, none, .ex (.fa 3) [.s 49]⟩,
                    ⟨some 51, none, .ex (.ld 1) [.s 50]⟩,
                    ⟨some 52, none, .ex (.mov) [.s 5]⟩,
                    ⟨some 53, none, .ex (.ia 5) [.s 51, .s 52]⟩,
                    ⟨some 54, none, .ex (.fa 1) [.s 53]⟩,
                    ⟨some 55, none, .ex (.fa 3) [.s 54]⟩,
                    ⟨some 56, none, .ex (.ld 1) [.s 55]⟩,
                    ⟨some 57, none, .ex (.slen) [.s 56]⟩,
                    ⟨some 58, none, .ex (.ibin .add) [.s 46, .s 57]⟩,
                    ⟨some 3, none, .ex (.mov) [.s 58]⟩]))
                 (.region [⟨some 44, none, .ex (.mov) [.s 5]⟩,
                   ⟨some 45, none, .ex (.ibin .add) [.s 44, .k (.int .i64 1)]⟩,
                   ⟨some 5, none, .ex (.mov) [.s 45]⟩]))))))
            (.seq
             (.region [⟨some 6, none, .ex (.mov) [.k (.int .i64 0)]⟩])
             (.block 4
              (.loop
               (.seq
                (.seq
                 (.region [⟨some 59, none, .ex (.mov) [.s 6]⟩,
                   ⟨some 60, none, .ex (.mov) [.s 0]⟩,
                   ⟨some 61, none, .ex (.mov) [.s 4]⟩,
                   ⟨some 62, none, .ex (.ia 5) [.s 60, .s 61]⟩,
                   ⟨some 63, none, .ex (.fa 4) [.s 62]⟩,
                   ⟨some 64, none, .ex (.ld 1) [.s 63]⟩,
                   ⟨some 65, none, .ex (.len) [.s 64]⟩,
                   ⟨some 66, none, .ex (.ibin .lss) [.s 59, .s 65]⟩])
                 (.cond (.s 66)
                  .skip
                  (.exit 4)))
                (.seq
                 (.block 5
                  (.region [⟨some 69, none, .ex (.mov) [.s 3]⟩,
                    ⟨some 70, none, .ex (.mov) [.s 0]⟩,
                    ⟨some 71, none, .ex (.mov) [.s 4]⟩,
                    ⟨some 72, none, .ex (.ia 5) [.s 70, .s 71]⟩,
                    ⟨some 73, none, .ex (.fa 4) [.s 72]⟩,
                    ⟨some 74, none, .ex (.ld 1) [.s 73]⟩,
                    ⟨some 75, none, .ex (.mov) [.s 6]⟩,
                    ⟨some 76, none, .ex (.ia 6) [.s 74, .s 75]⟩,
                    ⟨some 77, none, .ex (.fa 2) [.s 76]⟩,
                    ⟨some 78, none, .ex (.fa 3) [.s 77]⟩,
                    ⟨some 79, none, .ex (.ld 1) [.s 78]⟩,
                    ⟨some 80, none, .ex (.slen) [.s 79]⟩,
                    ⟨some 81, none, .ex (.ibin .add) [.s 69, .s 80]⟩,
                    ⟨some 3, none, .ex (.mov) [.s 81]⟩]))
                 (.region [⟨some 67, none, .ex (.mov) [.s 6]⟩,
                   ⟨some 68, none, .ex (.ibin .add) [.s 67, .k (.int .i64 1)]⟩,
                   ⟨some 6, none, .ex (.mov) [.s 68]⟩])))))))))
         (.region [⟨some 11, none, .ex (.mov) [.s 4]⟩,
           ⟨some 12, none, .ex (.ibin .add) [.s 11, .k (.int .i64 1)]⟩,
           ⟨some 4, none, .ex (.mov) [.s 12]⟩]))))))
    (.seq
     (.region [⟨some 82, none, .ex (.mov) [.s 3]⟩,
       ⟨some 2, none, .ex (.mov) [.s 82]⟩])
     .ret)))),
 [.t 2]⟩
theorem c29 : compFn Go.Proofs.Tryz.prog 29 = some fn29 := by kernel_rfl

/-- slices.Clone[[]rubric/api.Key,rubric/api.Key] -/
def fn31 : AFn := ⟨8,
 (.seq
  (.region [⟨some 2, none, .ex (.mov) [.k .nils]⟩])
  (.seq
   (.seq
    (.region [⟨some 3, none, .ex (.mov) [.s 0]⟩,
      ⟨some 4, none, .ex (.eqnil 1 false) [.s 3, .k .nils]⟩])
    (.cond (.s 4)
     (.seq
      (.region [⟨some 2, none, .ex (.mov) [.k .nils]⟩])
      .ret)
     .skip))
   (.seq
    (.region [⟨some 5, none, .ex (.bsl 6 0 [] []) []⟩,
      ⟨some 6, none, .ex (.mov) [.s 0]⟩,
      ⟨some 7, none, .ex (.app 6 24) [.s 5, .s 6]⟩,
      ⟨some 2, none, .ex (.mov) [.s 7]⟩])
    .ret))),
 [.t 2]⟩
theorem c31 : compFn Go.Proofs.Tryz.prog 31 = some fn31 := by kernel_rfl

/-- rubric/schema.may -/
def fn32 : AFn := ⟨41,
 (.seq
  (.region [⟨some 1, none, .ex (.box) [.s 0]⟩,
    ⟨some 2, none, .ex (.mov) [.k (.bool false)]⟩])
  (.seq
   (.block 0
    (.seq
     (.region [⟨some 4, none, .ex (.fa 0) [.s 1]⟩,
       ⟨some 5, none, .ex (.ld 1) [.s 4]⟩,
       ⟨some 6, none, .ex (.ibin .lss) [.s 5, .k (.int .i64 1)]⟩,
       ⟨some 7, none, .ex (.mov) [.s 6]⟩,
       ⟨some 8, some (7, false), .ex (.fa 0) [.s 1]⟩,
       ⟨some 9, some (7, false), .ex (.ld 1) [.s 8]⟩,
       ⟨some 10, some (7, false), .ex (.ibin .gtr) [.s 9, .k (.int .i64 1000)]⟩,
       ⟨some 11, none, .ex (.pick) [.s 7, .k (.bool true), .s 10]⟩,
       ⟨some 12, none, .ex (.mov) [.s 11]⟩,
       ⟨some 13, some (12, false), .ex (.fa 2) [.s 1]⟩,
       ⟨some 14, some (12, false), .ex (.ld 1) [.s 13]⟩,
       ⟨some 15, some (12, false), .ex (.ibin .lss) [.s 14, .k (.int .u8 1)]⟩,
       ⟨some 16, none, .ex (.pick) [.s 12, .k (.bool true), .s 15]⟩,
       ⟨some 17, none, .ex (.mov) [.s 16]⟩,
       ⟨some 18, some (17, false), .ex (.fa 2) [.s 1]⟩,
       ⟨some 19, some (17, false), .ex (.ld 1) [.s 18]⟩,
       ⟨some 20, some (17, false), .ex (.ibin .gtr) [.s 19, .k (.int .u8 4)]⟩,
       ⟨some 21, none, .ex (.pick) [.s 17, .k (.bool true), .s 20]⟩,
       ⟨some 3, none, .ex (.mov) [.s 21]⟩])
     (.cond (.s 3)
      (.seq
       (.region [⟨some 2, none, .ex (.mov) [.k (.bool false)]⟩])
       .ret)
      (.seq
       (.region [⟨some 23, none, .ex (.fa 1) [.s 1]⟩,
         ⟨some 24, none, .ex (.ld 1) [.s 23]⟩,
         ⟨some 22, none, .ex (.mov) [.s 24]⟩])
       (.cond (.s 22)
        (.seq
         (.region [⟨some 25, none, .ex (.fa 4) [.s 1]⟩,
           ⟨some 26, none, .ex (.ld 1) [.s 25]⟩,
           ⟨some 27, none, .ex (.bnot) [.s 26]⟩,
           ⟨some 28, none, .ex (.mov) [.s 27]⟩,
           ⟨some 29, some (28, true), .ex (.fa 5) [.s 1]⟩,
           ⟨some 30, some (28, true), .ex (.ld 1) [.s 29]⟩,
           ⟨some 31, some (28, true), .ex (.ibin .geq) [.s 30, .k (.int .i64 0)]⟩,
           ⟨some 32, none, .ex (.pick) [.s 28, .s 31, .k (.bool false)]⟩,
           ⟨some 33, none, .ex (.mov) [.s 32]⟩,
           ⟨some 34, some (33, true), .ex (.fa 5) [.s 1]⟩,
           ⟨some 35, some (33, true), .ex (.ld 1) [.s 34]⟩,
           ⟨some 36, some (33, true), .ex (.ibin .leq) [.s 35, .k (.int .i64 8)]⟩,
           ⟨some 37, none, .ex (.pick) [.s 33, .s 36, .k (.bool false)]⟩,
           ⟨some 2, none, .ex (.mov) [.s 37]⟩])
         .ret)
        .skip)))))
   (.seq
    (.region [⟨some 38, none, .ex (.fa 5) [.s 1]⟩,
      ⟨some 39, none, .ex (.ld 1) [.s 38]⟩,
      ⟨some 40, none, .ex (.ibin .eql) [.s 39, .k (.int .i64 0)]⟩,
      ⟨some 2, none, .ex (.mov) [.s 40]⟩])
    .ret))),
 [.t 2]⟩
theorem c32 : compFn Go.Proofs.Tryz.prog 32 = some fn32 := by kernel_rfl

/-- slices.SortFunc[[]rubric/api.Key,rubric/api.Key] -/
def fn33 : AFn := ⟨14,
 (.seq
  (.region [⟨some 5, none, .ex (.mov) [.s 0]⟩,
    ⟨some 6, none, .ex (.len) [.s 5]⟩,
    ⟨some 4, none, .ex (.mov) [.s 6]⟩])
  (.region [⟨some 7, none, .ex (.mov) [.s 0]⟩,
    ⟨some 8, none, .ex (.mov) [.s 4]⟩,
    ⟨some 9, none, .ex (.mov) [.s 4]⟩,
    ⟨some 10, none, .ex (.toInt .u64) [.s 9]⟩,
    ⟨some 11, none, .callf 48 [.s 10]⟩,
    ⟨some 12, none, .ex (.mov) [.s 1]⟩,
    ⟨some 13, none, .callf 47 [.s 7, .k (.int .i64 0), .s 8, .s 11, .s 12]⟩])),
 []⟩
theorem c33 : compFn Go.Proofs.Tryz.prog 33 = some fn33 := by kernel_rfl

/-- rubric/schema.New$1 -/
def fn34 : AFn := ⟨10,
 (.seq
  (.region [⟨some 2, none, .ex (.box) [.s 0]⟩,
    ⟨some 3, none, .ex (.box) [.s 1]⟩,
    ⟨some 4, none, .ex (.mov) [.k (.int .i64 0)]⟩])
  (.seq
   (.region [⟨some 5, none, .ex (.fa 0) [.s 2]⟩,
     ⟨some 6, none, .ex (.ld 1) [.s 5]⟩,
     ⟨some 7, none, .ex (.fa 0) [.s 3]⟩,
     ⟨some 8, none, .ex (.ld 1) [.s 7]⟩,
     ⟨some 9, none, .callf 35 [.s 6, .s 8]⟩,
     ⟨some 4, none, .ex (.mov) [.s 9]⟩])
   .ret)),
 [.t 4]⟩
theorem c34 : compFn Go.Proofs.Tryz.prog 34 = some fn34 := by kernel_rfl

/-- cmp.Compare[int] -/
def fn35 : AFn := ⟨20,
 (.seq
  (.region [⟨some 4, none, .ex (.mov) [.k (.int .i64 0)]⟩])
  (.seq
   (.region [⟨some 7, none, .ex (.mov) [.s 0]⟩,
     ⟨some 8, none, .callf 49 [.s 7]⟩,
     ⟨some 5, none, .ex (.mov) [.s 8]⟩])
   (.seq
    (.region [⟨some 9, none, .ex (.mov) [.s 1]⟩,
      ⟨some 10, none, .callf 49 [.s 9]⟩,
      ⟨some 6, none, .ex (.mov) [.s 10]⟩])
    (.seq
     (.seq
      (.region [⟨some 11, none, .ex (.mov) [.s 5]⟩])
      (.cond (.s 11)
       (.seq
        (.seq
         (.region [⟨some 12, none, .ex (.mov) [.s 6]⟩])
         (.cond (.s 12)
          (.seq
           (.region [⟨some 4, none, .ex (.mov) [.k (.int .i64 0)]⟩])
           .ret)
          .skip))
        (.seq
         (.region [⟨some 4, none, .ex (.mov) [.k (.int .i64 (-1))]⟩])
         .ret))
       .skip))
     (.seq
      (.seq
       (.region [⟨some 13, none, .ex (.mov) [.s 6]⟩])
       (.cond (.s 13)
        (.seq
         (.region [⟨some 4, none, .ex (.mov) [.k (.int .i64 1)]⟩])
         .ret)
        .skip))
      (.seq
       (.seq
        (.region [⟨some 14, none, .ex (.mov) [.s 0]⟩,
          ⟨some 15, none, .ex (.mov) [.s 1]⟩,
          ⟨some 16, none, .ex (.ibin .lss) [.s 14, .s 15]⟩])
        (.cond (.s 16)
         (.seq
          (.region [⟨some 4, none, .ex (.mov) [.k (.int .i64 (-1))]⟩])
          .ret)
         .skip))
       (.seq
        (.seq
         (.region [⟨some 17, none, .ex (.mov) [.s 0]⟩,
           ⟨some 18, none, .ex (.mov) [.s 1]⟩,
           ⟨some 19, none, .ex (.ibin .gtr) [.s 17, .s 18]⟩])
         (.cond (.s 19)
          (.seq
           (.region [⟨some 4, none, .ex (.mov) [.k (.int .i64 1)]⟩])
           .ret)
          .skip))
        (.seq
         (.region [⟨some 4, none, .ex (.mov) [.k (.int .i64 0)]⟩])
         .ret)))))))),
 [.t 4]⟩
theorem c35 : compFn Go.Proofs.Tryz.prog 35 = some fn35 := by kernel_rfl

/-- (*rubric/history.History).ready -/
def fn36 : AFn := ⟨11,
 (.seq
  (.region [⟨some 2, none, .ex (.mov) [.k (.bool false)]⟩])
  (.seq
   (.region [⟨some 3, none, .ex (.mov) [.s 0]⟩,
     ⟨some 4, none, .ex (.eqnil 0 true) [.s 3, .k .nilp]⟩,
     ⟨some 5, none, .ex (.mov) [.s 4]⟩,
     ⟨some 6, some (5, true), .ex (.mov) [.s 0]⟩,
     ⟨some 7, some (5, true), .ex (.nilck) [.s 6]⟩,
     ⟨some 8, some (5, true), .ex (.fa 2) [.s 7]⟩,
     ⟨some 9, some (5, true), .ex (.ld 1) [.s 8]⟩,
     ⟨some 10, none, .ex (.pick) [.s 5, .s 9, .k (.bool false)]⟩,
     ⟨some 2, none, .ex (.mov) [.s 10]⟩])
   .ret)),
 [.t 2]⟩
theorem c36 : compFn Go.Proofs.Tryz.prog 36 = some fn36 := by kernel_rfl

/-- rubric/ops.Copy -/
def fn37 : AFn := ⟨44,
 (.seq
  (.region [⟨some 2, none, .ex (.mov) [.k .nils]⟩])
  (.seq
   (.region [⟨some 5, none, .ex (.mov) [.s 0]⟩,
     ⟨some 6, none, .callf 50 [.s 5]⟩,
     ⟨some 3, none, .ex (.mov) [.s 6]⟩])
   (.seq
    (.seq
     (.region [⟨some 7, none, .ex (.mov) [.s 3]⟩,
       ⟨some 8, none, .ex (.len) [.s 7]⟩,
       ⟨some 9, none, .ex (.mov) [.k (.int .i64 0)]⟩])
     (.block 0
      (.loop
       (.seq
        (.region [⟨some 10, none, .ex (.ibin .lss) [.s 9, .s 8]⟩])
        (.seq
         (.cond (.s 10)
          .skip
          (.exit 0))
         (.seq
          (.block 1
           (.seq
            (.region [⟨some 11, none, .ex (.mov) [.s 9]⟩,
              ⟨some 4, none, .ex (.mov) [.s 11]⟩])
            (.draw (.op ⟨some 12, none, .ex (.mov) [.s 3]⟩ (.op ⟨some 13, none, .ex (.mov) [.s 4]⟩ (.op ⟨some 14, none, .ex (.mov) [.s 3]⟩ (.op ⟨some 15, none, .ex (.mov) [.s 4]⟩ (.op ⟨some 16, none, .ex (.mov) [.s 3]⟩ (.op ⟨some 17, none, .ex (.mov) [.s 4]⟩ (.op ⟨some 18, none, .ex (.mov) [.s 3]⟩ (.op ⟨some 19, none, .ex (.mov) [.s 4]⟩ (.op ⟨some 20, none, .ex (.ia 5) [.s 18, .s 19]⟩ (.op ⟨some 21, none, .ex (.fa 2) [.s 20]⟩ (.op ⟨some 22, none, .ex (.ld 1) [.s 21]⟩ (.op ⟨some 24, none, .ex (.mov) [.s 3]⟩ (.op ⟨some 25, none, .ex (.mov) [.s 4]⟩ (.op ⟨some 26, none, .ex (.ia 5) [.s 24, .s 25]⟩ (.op ⟨some 27, none, .ex (.fa 3) [.s 26]⟩ (.op ⟨some 30, none, .ex (.mov) [.s 3]⟩ (.op ⟨some 31, none, .ex (.mov) [.s 4]⟩ (.op ⟨some 32, none, .ex (.ia 5) [.s 30, .s 31]⟩ (.op ⟨some 33, none, .ex (.fa 4) [.s 32]⟩ (.fork (.op ⟨some 23, none, .callf 51 [.s 22]⟩ (.op ⟨some 28, none, .ex (.ld 1) [.s 27]⟩ (.fork (.op ⟨some 29, none, .callf 52 [.s 28]⟩ (.op ⟨some 34, none, .ex (.ld 1) [.s 33]⟩ (.op ⟨some 35, none, .callf 53 [.s 34]⟩ (.op ⟨some 36, none, .ex (.ia 5) [.s 12, .s 13]⟩ (.op ⟨some 37, none, .ex (.fa 2) [.s 36]⟩ (.op ⟨none, none, .ex (.st 1) [.s 37, .s 23]⟩ (.op ⟨some 38, none, .ex (.ia 5) [.s 14, .s 15]⟩ (.op ⟨some 39, none, .ex (.fa 3) [.s 38]⟩ (.op ⟨none, none, .ex (.st 1) [.s 39, .s 29]⟩ (.op ⟨some 40, none, .ex (.ia 5) [.s 16, .s 17]⟩ (.op ⟨some 41, none, .ex (.fa 4) [.s 40]⟩ (.op ⟨none, none, .ex (.st 1) [.s 41, .s 35]⟩ .done)))))))))))) (.op ⟨some 34, none, .ex (.ld 1) [.s 33]⟩ (.op ⟨some 29, none, .callf 52 [.s 28]⟩ (.op ⟨some 35, none, .callf 53 [.s 34]⟩ (.op ⟨some 36, none, .ex (.ia 5) [.s 12, .s 13]⟩ (.op ⟨some 37, none, .ex (.fa 2) [.s 36]⟩ (.op ⟨none, none, .ex (.st 1) [.s 37, .s 23]⟩ (.op ⟨some 38, none, .ex (.ia 5) [.s 14, .s 15]⟩ (.op ⟨some 39, none, .ex (.fa 3) [.s 38]⟩ (.op ⟨none, none, .ex (.st 1) [.s 39, .s 29]⟩ (.op ⟨some 40, none, .ex (.ia 5) [.s 16, .s 17]⟩ (.op ⟨some 41, none, .ex (.fa 4) [.s 40]⟩ (.op ⟨none, none, .ex (.st 1) [.s 41, .s 35]⟩ .done))))))))))))))) (.fork (.op ⟨some 28, none, .ex (.ld 1) [.s 27]⟩ (.fork (.op ⟨some 23, none, .callf 51 [.s 22]⟩ (.fork (.op ⟨some 29, none, .callf 52 [.s 28]⟩ (.op ⟨some 34, none, .ex (.ld 1) [.s 33]⟩ (.op ⟨some 35, none, .callf 53 [.s 34]⟩ (.op ⟨some 36, none, .ex (.ia 5) [.s 12, .s 13]⟩ (.op ⟨some 37, none, .ex (.fa 2) [.s 36]⟩ (.op ⟨none, none, .ex (.st 1) [.s 37, .s 23]⟩ (.op ⟨some 38, none, .ex (.ia 5) [.s 14, .s 15]⟩ (.op ⟨some 39, none, .ex (.fa 3) [.s 38]⟩ (.op ⟨none, none, .ex (.st 1) [.s 39, .s 29]⟩ (.op ⟨some 40, none, .ex (.ia 5) [.s 16, .s 17]⟩ (.op ⟨some 41, none, .ex (.fa 4) [.s 40]⟩ (.op ⟨none, none, .ex (.st 1) [.s 41, .s 35]⟩ .done)))))))))))) (.op ⟨some 34, none, .ex (.ld 1) [.s 33]⟩ (.op ⟨some 29, none, .callf 52 [.s 28]⟩ (.op ⟨some 35, none, .callf 53 [.s 34]⟩ (.op ⟨some 36, none, .ex (.ia 5) [.s 12, .s 13]⟩ (.op ⟨some 37, none, .ex (.fa 2) [.s 36]⟩ (.op ⟨none, none, .ex (.st 1) [.s 37, .s 23]⟩ (.op ⟨some 38, none, .ex (.ia 5) [.s 14, .s 15]⟩ (.op ⟨some 39, none, .ex (.fa 3) [.s 38]⟩ (.op ⟨none, none, .ex (.st 1) [.s 39, .s 29]⟩ (.op ⟨some 40, none, .ex (.ia 5) [.s 16, .s 17]⟩ (.op ⟨some 41, none, .ex (.fa 4) [.s 40]⟩ (.op ⟨none, none, .ex (.st 1) [.s 41, .s 35]⟩ .done)))))))))))))) (.op ⟨some 34, none, .ex (.ld 1) [.s 33]⟩ (.op ⟨some 23, none, .callf 51 [.s 22]⟩ (.op ⟨some 29, none, .callf 52 [.s 28]⟩ (.op ⟨some 35, none, .callf 53 [.s 34]⟩ (.op ⟨some 36, none, .ex (.ia 5) [.s 12, .s 13]⟩ (.op ⟨some 37, none, .ex (.fa 2) [.s 36]⟩ (.op ⟨none, none, .ex (.st 1) [.s 37, .s 23]⟩ (.op ⟨some 38, none, .ex (.ia 5) [.s 14, .s 15]⟩ (.op ⟨some 39, none, .ex (.fa 3) [.s 38]⟩ (.op ⟨none, none, .ex (.st 1) [.s 39, .s 29]⟩ (.op ⟨some 40, none, .ex (.ia 5) [.s 16, .s 17]⟩ (.op ⟨some 41, none, .ex (.fa 4) [.s 40]⟩ (.op ⟨none, none, .ex (.st 1) [.s 41, .s 35]⟩ .done))))))))))))))) (.op ⟨some 34, none, .ex (.ld 1) [.s 33]⟩ (.fork (.op ⟨some 23, none, .callf 51 [.s 22]⟩ (.op ⟨some 28, none, .ex (.ld 1) [.s 27]⟩ (.op ⟨some 29, none, .callf 52 [.s 28]⟩ (.op ⟨some 35, none, .callf 53 [.s 34]⟩ (.op ⟨some 36, none, .ex (.ia 5) [.s 12, .s 13]⟩ (.op ⟨some 37, none, .ex (.fa 2) [.s 36]⟩ (.op ⟨none, none, .ex (.st 1) [.s 37, .s 23]⟩ (.op ⟨some 38, none, .ex (.ia 5) [.s 14, .s 15]⟩ (.op ⟨some 39, none, .ex (.fa 3) [.s 38]⟩ (.op ⟨none, none, .ex (.st 1) [.s 39, .s 29]⟩ (.op ⟨some 40, none, .ex (.ia 5) [.s 16, .s 17]⟩ (.op ⟨some 41, none, .ex (.fa 4) [.s 40]⟩ (.op ⟨none, none, .ex (.st 1) [.s 41, .s 35]⟩ .done))))))))))))) (.op ⟨some 28, none, .ex (.ld 1) [.s 27]⟩ (.op ⟨some 23, none, .callf 51 [.s 22]⟩ (.op ⟨some 29, none, .callf 52 [.s 28]⟩ (.op ⟨some 35, none, .callf 53 [.s 34]⟩ (.op ⟨some 36, none, .ex (.ia 5) [.s 12, .s 13]⟩ (.op ⟨some 37, none, .ex (.fa 2) [.s 36]⟩ (.op ⟨none, none, .ex (.st 1) [.s 37, .s 23]⟩ (.op ⟨some 38, none, .ex (.ia 5) [.s 14, .s 15]⟩ (.op ⟨some 39, none, .ex (.fa 3) [.s 38]⟩ (.op ⟨none, none, .ex (.st 1) [.s 39, .s 29]⟩ (.op ⟨some 40, none, .ex (.ia 5) [.s 16, .s 17]⟩ (.op ⟨some 41, none, .ex (.fa 4) [.s 40]⟩ (.op ⟨none, none, .ex (.st 1) [.s 41, .s 35]⟩ .done)))))))))))))))))))))))))))))))))))))))
          (.region [⟨some 42, none, .ex (.ibin .add) [.s 9, .k (.int .i64 1)]⟩,
            ⟨some 9, none, .ex (.mov) [.s 42]⟩])))))))
    (.seq
     (.region [⟨some 43, none, .ex (.mov) [.s 3]⟩,
       ⟨some 2, none, .ex (.mov) [.s 43]⟩])
     .ret)))),
 [.t 2]⟩
theorem c37 : compFn Go.Proofs.Tryz.prog 37 = some fn37 := by kernel_rfl

/-- (*rubric/history.History).keep -/
def fn39 : AFn := ⟨52,
 (.seq
  (.region [⟨some 3, none, .ex (.box) [.s 1]⟩])
  (.seq
   (.draw (.op ⟨some 5, none, .ex (.mov) [.s 0]⟩ (.op ⟨some 6, none, .ex (.mov) [.s 0]⟩ (.op ⟨some 7, none, .ex (.nilck) [.s 6]⟩ (.op ⟨some 8, none, .ex (.fa 3) [.s 7]⟩ (.op ⟨some 9, none, .ex (.ld 1) [.s 8]⟩ (.op ⟨some 10, none, .ex (.lda 2) [.s 3]⟩ (.op ⟨some 11, none, .ex (.bsl 2 1 [.nils, .nils] [(0, 2)]) [.s 10]⟩ (.op ⟨some 12, none, .ex (.app 2 48) [.s 9, .s 11]⟩ (.op ⟨some 13, none, .ex (.nilck) [.s 5]⟩ (.op ⟨some 14, none, .ex (.fa 3) [.s 13]⟩ (.op ⟨none, none, .ex (.st 1) [.s 14, .s 12]⟩ .done))))))))))))
   (.seq
    (.draw (.op ⟨some 15, none, .ex (.mov) [.s 0]⟩ (.op ⟨some 16, none, .ex (.nilck) [.s 15]⟩ (.op ⟨some 17, none, .ex (.fa 3) [.s 16]⟩ (.op ⟨some 18, none, .ex (.ld 1) [.s 17]⟩ (.op ⟨some 19, none, .ex (.len) [.s 18]⟩ (.op ⟨some 20, none, .ex (.mov) [.s 0]⟩ (.op ⟨some 21, none, .ex (.nilck) [.s 20]⟩ (.op ⟨some 22, none, .ex (.fa 1) [.s 21]⟩ (.op ⟨some 23, none, .ex (.ld 1) [.s 22]⟩ (.op ⟨some 24, none, .ex (.ibin .sub) [.s 19, .s 23]⟩ (.op ⟨some 4, none, .ex (.mov) [.s 24]⟩ .done))))))))))))
    (.seq
     (.region [⟨some 25, none, .ex (.mov) [.s 4]⟩,
       ⟨some 26, none, .ex (.ibin .gtr) [.s 25, .k (.int .i64 0)]⟩])
     (.cond (.s 26)
      (.seq
       (.region [⟨some 27, none, .ex (.mov) [.s 0]⟩,
         ⟨some 28, none, .ex (.nilck) [.s 27]⟩,
         ⟨some 29, none, .ex (.fa 3) [.s 28]⟩,
         ⟨some 30, none, .ex (.ld 1) [.s 29]⟩,
         ⟨some 31, none, .ex (.mov) [.s 4]⟩,
         ⟨some 32, none, .ex (.slc 2 false true false) [.s 30, .s 31]⟩,
         ⟨none, none, .ex (.clear [.nils, .nils]) [.s 32]⟩])
       (.draw (.op ⟨some 33, none, .ex (.mov) [.s 0]⟩ (.op ⟨some 34, none, .ex (.mov) [.s 0]⟩ (.op ⟨some 35, none, .ex (.nilck) [.s 34]⟩ (.op ⟨some 36, none, .ex (.fa 3) [.s 35]⟩ (.op ⟨some 37, none, .ex (.ld 1) [.s 36]⟩ (.op ⟨some 38, none, .ex (.mov) [.s 4]⟩ (.op ⟨some 39, none, .ex (.mov) [.s 0]⟩ (.op ⟨some 40, none, .ex (.nilck) [.s 39]⟩ (.op ⟨some 41, none, .ex (.fa 3) [.s 40]⟩ (.op ⟨some 42, none, .ex (.ld 1) [.s 41]⟩ (.op ⟨some 43, none, .ex (.len) [.s 42]⟩ (.op ⟨some 44, none, .ex (.mov) [.s 0]⟩ (.op ⟨some 45, none, .ex (.nilck) [.s 44]⟩ (.op ⟨some 46, none, .ex (.fa 3) [.s 45]⟩ (.op ⟨some 47, none, .ex (.ld 1) [.s 46]⟩ (.op ⟨some 48, none, .ex (.len) [.s 47]⟩ (.op ⟨some 49, none, .ex (.slc 2 true true true) [.s 37, .s 38, .s 43, .s 48]⟩ (.op ⟨some 50, none, .ex (.nilck) [.s 33]⟩ (.op ⟨some 51, none, .ex (.fa 3) [.s 50]⟩ (.op ⟨none, none, .ex (.st 1) [.s 51, .s 49]⟩ .done))))))))))))))))))))))
      .skip))))),
 []⟩
theorem c39 : compFn Go.Proofs.Tryz.prog 39 = some fn39 := by kernel_rfl

/-- (*rubric/history.History).move -/
def fn40 : AFn := ⟨48,
 (.seq
  (.region [⟨some 6, none, .ex (.alloc [.nils, .nils]) []⟩,
    ⟨some 7, none, .ex (.mov) [.k (.int .i64 0)]⟩])
  (.seq
   (.region [⟨some 10, none, .ex (.mov) [.s 1]⟩,
     ⟨some 11, none, .ex (.nilck) [.s 10]⟩,
     ⟨some 12, none, .ex (.ld 1) [.s 11]⟩,
     ⟨some 13, none, .ex (.len) [.s 12]⟩,
     ⟨some 14, none, .ex (.ibin .sub) [.s 13, .k (.int .i64 1)]⟩,
     ⟨some 8, none, .ex (.mov) [.s 14]⟩])
   (.seq
    (.block 0
     (.seq
      (.region [⟨some 16, none, .ex (.mov) [.s 0]⟩,
        ⟨some 17, none, .ex (.nilck) [.s 16]⟩,
        ⟨some 18, none, .ex (.fa 5) [.s 17]⟩,
        ⟨some 19, none, .ex (.ld 1) [.s 18]⟩,
        ⟨some 15, none, .ex (.mov) [.s 19]⟩])
      (.cond (.s 15)
       (.seq
        (.region [⟨some 20, none, .ex (.build [.nils, .nils] []) []⟩,
          ⟨none, none, .ex (.st 2) [.s 6, .s 20]⟩,
          ⟨some 7, none, .ex (.mov) [.k (.int .i64 9)]⟩])
        .ret)
       (.seq
        (.region [⟨some 22, none, .ex (.mov) [.s 8]⟩,
          ⟨some 23, none, .ex (.ibin .lss) [.s 22, .k (.int .i64 0)]⟩,
          ⟨some 21, none, .ex (.mov) [.s 23]⟩])
        (.cond (.s 21)
         (.seq
          (.region [⟨some 24, none, .ex (.build [.nils, .nils] []) []⟩,
            ⟨none, none, .ex (.st 2) [.s 6, .s 24]⟩,
            ⟨some 7, none, .ex (.mov) [.k (.int .i64 10)]⟩])
          .ret)
         .skip)))))
    (.seq
     (.region [⟨some 25, none, .ex (.mov) [.s 1]⟩,
       ⟨some 26, none, .ex (.nilck) [.s 25]⟩,
       ⟨some 27, none, .ex (.ld 1) [.s 26]⟩,
       ⟨some 28, none, .ex (.mov) [.s 8]⟩,
       ⟨some 29, none, .ex (.ia 2) [.s 27, .s 28]⟩,
       ⟨some 30, none, .ex (.lda 2) [.s 29]⟩,
       ⟨some 9, none, .ex (.alloc [.nils, .nils]) []⟩,
       ⟨none, none, .ex (.st 2) [.s 9, .s 30]⟩])
     (.seq
      (.region [⟨some 31, none, .ex (.mov) [.s 1]⟩,
        ⟨some 32, none, .ex (.mov) [.s 1]⟩,
        ⟨some 33, none, .ex (.nilck) [.s 32]⟩,
        ⟨some 34, none, .ex (.ld 1) [.s 33]⟩,
        ⟨some 35, none, .ex (.mov) [.s 8]⟩,
        ⟨some 36, none, .ex (.slc 2 false true false) [.s 34, .s 35]⟩,
        ⟨some 37, none, .callf 55 [.s 36]⟩,
        ⟨some 38, none, .ex (.nilck) [.s 31]⟩,
        ⟨none, none, .ex (.st 1) [.s 38, .s 37]⟩])
      (.seq
       (.draw (.op ⟨some 39, none, .ex (.mov) [.s 2]⟩ (.op ⟨some 40, none, .ex (.mov) [.s 2]⟩ (.op ⟨some 41, none, .ex (.nilck) [.s 40]⟩ (.op ⟨some 42, none, .ex (.ld 1) [.s 41]⟩ (.op ⟨some 43, none, .ex (.lda 2) [.s 9]⟩ (.op ⟨some 44, none, .ex (.bsl 2 1 [.nils, .nils] [(0, 2)]) [.s 43]⟩ (.op ⟨some 45, none, .ex (.app 2 48) [.s 42, .s 44]⟩ (.op ⟨some 46, none, .ex (.nilck) [.s 39]⟩ (.op ⟨none, none, .ex (.st 1) [.s 46, .s 45]⟩ .done))))))))))
       (.seq
        (.region [⟨some 47, none, .ex (.lda 2) [.s 9]⟩,
          ⟨none, none, .ex (.st 2) [.s 6, .s 47]⟩,
          ⟨some 7, none, .ex (.mov) [.k (.int .i64 0)]⟩])
        .ret))))))),
 [.ca 6 2, .t 7]⟩
theorem c40 : compFn Go.Proofs.Tryz.prog 40 = some fn40 := by kernel_rfl

/-- rubric/rubricref01.Same -/
def fn41 : AFn := ⟨26,
 (.seq
  (.region [⟨some 4, none, .ex (.mov) [.k (.bool false)]⟩])
  (.seq
   (.seq
    (.region [⟨some 6, none, .ex (.mov) [.s 0]⟩,
      ⟨some 7, none, .ex (.len) [.s 6]⟩,
      ⟨some 8, none, .ex (.mov) [.s 1]⟩,
      ⟨some 9, none, .ex (.len) [.s 8]⟩,
      ⟨some 10, none, .ex (.ibin .neq) [.s 7, .s 9]⟩])
    (.cond (.s 10)
     (.seq
      (.region [⟨some 4, none, .ex (.mov) [.k (.bool false)]⟩])
      .ret)
     .skip))
   (.seq
    (.seq
     (.region [⟨some 5, none, .ex (.mov) [.k (.int .i64 0)]⟩])
     (.block 0
      (.loop
       (.seq
        (.seq
         (.region [⟨some 11, none, .ex (.mov) [.s 5]⟩,
           ⟨some 12, none, .ex (.mov) [.s 0]⟩,
           ⟨some 13, none, .ex (.len) [.s 12]⟩,
           ⟨some 14, none, .ex (.ibin .lss) [.s 11, .s 13]⟩])
         (.cond (.s 14)
          .skip
          (.exit 0)))
        (.seq
         (.block 1
          (.seq
           (.draw (.op ⟨some 17, none, .ex (.mov) [.s 0]⟩ (.op ⟨some 18, none, .ex (.mov) [.s 5]⟩ (.op ⟨some 19, none, .ex (.ia 1) [.s 17, .s 18]⟩ (.op ⟨some 20, none, .ex (.ld 1) [.s 19]⟩ (.op ⟨some 21, none, .ex (.mov) [.s 1]⟩ (.op ⟨some 22, none, .ex (.mov) [.s 5]⟩ (.op ⟨some 23, none, .ex (.ia 1) [.s 21, .s 22]⟩ (.op ⟨some 24, none, .ex (.ld 1) [.s 23]⟩ (.op ⟨some 25, none, .ex (.ibin .neq) [.s 20, .s 24]⟩ .done))))))))))
           (.cond (.s 25)
            (.seq
             (.region [⟨some 4, none, .ex (.mov) [.k (.bool false)]⟩])
             .ret)
            .skip)))
         (.region [⟨some 15, none, .ex (.mov) [.s 5]⟩,
           ⟨some 16, none, .ex (.ibin .add) [.s 15, .k (.int .i64 1)]⟩,
           ⟨some 5, none, .ex (.mov) [.s 16]⟩]))))))
    (.seq
     (.region [⟨some 4, none, .ex (.mov) [.k (.bool true)]⟩])
     .ret)))),
 [.t 4]⟩
theorem c41 : compFn Go.Proofs.Tryz.prog 41 = some fn41 := by kernel_rfl

/-- rubric/rubricref05.Same -/
def fn42 : AFn := ⟨26,
 (.seq
  (.region [⟨some 4, none, .ex (.mov) [.k (.bool false)]⟩])
  (.seq
   (.seq
    (.region [⟨some 6, none, .ex (.mov) [.s 0]⟩,
      ⟨some 7, none, .ex (.len) [.s 6]⟩,
      ⟨some 8, none, .ex (.mov) [.s 1]⟩,
      ⟨some 9, none, .ex (.len) [.s 8]⟩,
      ⟨some 10, none, .ex (.ibin .neq) [.s 7, .s 9]⟩])
    (.cond (.s 10)
     (.seq
      (.region [⟨some 4, none, .ex (.mov) [.k (.bool false)]⟩])
      .ret)
     .skip))
   (.seq
    (.seq
     (.region [⟨some 5, none, .ex (.mov) [.k (.int .i64 0)]⟩])
     (.block 0
      (.loop
       (.seq
        (.seq
         (.region [⟨some 11, none, .ex (.mov) [.s 5]⟩,
           ⟨some 12, none, .ex (.mov) [.s 0]⟩,
           ⟨some 13, none, .ex (.len) [.s 12]⟩,
           ⟨some 14, none, .ex (.ibin .lss) [.s 11, .s 13]⟩])
         (.cond (.s 14)
          .skip
          (.exit 0)))
        (.seq
         (.block 1
          (.seq
           (.draw (.op ⟨some 17, none, .ex (.mov) [.s 0]⟩ (.op ⟨some 18, none, .ex (.mov) [.s 5]⟩ (.op ⟨some 19, none, .ex (.ia 5) [.s 17, .s 18]⟩ (.op ⟨some 20, none, .ex (.lda 5) [.s 19]⟩ (.op ⟨some 21, none, .ex (.mov) [.s 1]⟩ (.op ⟨some 22, none, .ex (.mov) [.s 5]⟩ (.op ⟨some 23, none, .ex (.ia 5) [.s 21, .s 22]⟩ (.op ⟨some 24, none, .ex (.lda 5) [.s 23]⟩ (.op ⟨some 25, none, .ex (.eqagg true [0, 0, 0, 0, 2]) [.s 20, .s 24]⟩ .done))))))))))
           (.cond (.s 25)
            (.seq
             (.region [⟨some 4, none, .ex (.mov) [.k (.bool false)]⟩])
             .ret)
            .skip)))
         (.region [⟨some 15, none, .ex (.mov) [.s 5]⟩,
           ⟨some 16, none, .ex (.ibin .add) [.s 15, .k (.int .i64 1)]⟩,
           ⟨some 5, none, .ex (.mov) [.s 16]⟩]))))))
    (.seq
     (.region [⟨some 4, none, .ex (.mov) [.k (.bool true)]⟩])
     .ret)))),
 [.t 4]⟩
theorem c42 : compFn Go.Proofs.Tryz.prog 42 = some fn42 := by kernel_rfl

/-- rubric/rubricref06.Same -/
def fn43 : AFn := ⟨26,
 (.seq
  (.region [⟨some 4, none, .ex (.mov) [.k (.bool false)]⟩])
  (.seq
   (.seq
    (.region [⟨some 6, none, .ex (.mov) [.s 0]⟩,
      ⟨some 7, none, .ex (.len) [.s 6]⟩,
      ⟨some 8, none, .ex (.mov) [.s 1]⟩,
      ⟨some 9, none, .ex (.len) [.s 8]⟩,
      ⟨some 10, none, .ex (.ibin .neq) [.s 7, .s 9]⟩])
    (.cond (.s 10)
     (.seq
      (.region [⟨some 4, none, .ex (.mov) [.k (.bool false)]⟩])
      .ret)
     .skip))
   (.seq
    (.seq
     (.region [⟨some 5, none, .ex (.mov) [.k (.int .i64 0)]⟩])
     (.block 0
      (.loop
       (.seq
        (.seq
         (.region [⟨some 11, none, .ex (.mov) [.s 5]⟩,
           ⟨some 12, none, .ex (.mov) [.s 0]⟩,
           ⟨some 13, none, .ex (.len) [.s 12]⟩,
           ⟨some 14, none, .ex (.ibin .lss) [.s 11, .s 13]⟩])
         (.cond (.s 14)
          .skip
          (.exit 0)))
        (.seq
         (.block 1
          (.seq
           (.draw (.op ⟨some 17, none, .ex (.mov) [.s 0]⟩ (.op ⟨some 18, none, .ex (.mov) [.s 5]⟩ (.op ⟨some 19, none, .ex (.ia 6) [.s 17, .s 18]⟩ (.op ⟨some 20, none, .ex (.lda 6) [.s 19]⟩ (.op ⟨some 21, none, .ex (.mov) [.s 1]⟩ (.op ⟨some 22, none, .ex (.mov) [.s 5]⟩ (.op ⟨some 23, none, .ex (.ia 6) [.s 21, .s 22]⟩ (.op ⟨some 24, none, .ex (.lda 6) [.s 23]⟩ (.op ⟨some 25, none, .ex (.eqagg true [0, 1, 0, 0, 0, 2]) [.s 20, .s 24]⟩ .done))))))))))
           (.cond (.s 25)
            (.seq
             (.region [⟨some 4, none, .ex (.mov) [.k (.bool false)]⟩])
             .ret)
            .skip)))
         (.region [⟨some 15, none, .ex (.mov) [.s 5]⟩,
           ⟨some 16, none, .ex (.ibin .add) [.s 15, .k (.int .i64 1)]⟩,
           ⟨some 5, none, .ex (.mov) [.s 16]⟩]))))))
    (.seq
     (.region [⟨some 4, none, .ex (.mov) [.k (.bool true)]⟩])
     .ret)))),
 [.t 4]⟩
theorem c43 : compFn Go.Proofs.Tryz.prog 43 = some fn43 := by kernel_rfl

/-- slices.pdqsortCmpFunc[rubric/api.Key] -/
def fn47 : AFn := ⟨148,
 (.seq
  (.region [⟨some 10, none, .ex (.mov) [.k (.bool true)]⟩])
  (.seq
   (.region [⟨some 11, none, .ex (.mov) [.k (.bool true)]⟩])
   (.block 0
    (.loop
     (.block 1
      (.seq
       (.region [⟨some 21, none, .ex (.mov) [.s 2]⟩,
         ⟨some 22, none, .ex (.mov) [.s 1]⟩,
         ⟨some 23, none, .ex (.ibin .sub) [.s 21, .s 22]⟩,
         ⟨some 12, none, .ex (.mov) [.s 23]⟩])
       (.seq
        (.seq
         (.region [⟨some 24, none, .ex (.mov) [.s 12]⟩,
           ⟨some 25, none, .ex (.ibin .leq) [.s 24, .k (.int .i64 12)]⟩])
         (.cond (.s 25)
          (.seq
           (.region [⟨some 26, none, .ex (.mov) [.s 0]⟩,
             ⟨some 27, none, .ex (.mov) [.s 1]⟩,
             ⟨some 28, none, .ex (.mov) [.s 2]⟩,
             ⟨some 29, none, .ex (.mov) [.s 4]⟩,
             ⟨some 30, none, .callf 62 [.s 26, .s 27, .s 28, .s 29]⟩])
           .ret)
          .skip))
        (.seq
         (.seq
          (.region [⟨some 31, none, .ex (.mov) [.s 3]⟩,
            ⟨some 32, none, .ex (.ibin .eql) [.s 31, .k (.int .i64 0)]⟩])
          (.cond (.s 32)
           (.seq
            (.region [⟨some 33, none, .ex (.mov) [.s 0]⟩,
              ⟨some 34, none, .ex (.mov) [.s 1]⟩,
              ⟨some 35, none, .ex (.mov) [.s 2]⟩,
              ⟨some 36, none, .ex (.mov) [.s 4]⟩,
              ⟨some 37, none, .callf 63 [.s 33, .s 34, .s 35, .s 36]⟩])
            .ret)
           .skip))
         (.seq
          (.seq
           (.region [⟨some 38, none, .ex (.mov) [.s 10]⟩,
             ⟨some 39, none, .ex (.bnot) [.s 38]⟩])
           (.cond (.s 39)
            (.seq
             (.region [⟨some 40, none, .ex (.mov) [.s 0]⟩,
               ⟨some 41, none, .ex (.mov) [.s 1]⟩,
               ⟨some 42, none, .ex (.mov) [.s 2]⟩,
               ⟨some 43, none, .ex (.mov) [.s 4]⟩,
               ⟨some 44, none, .callf 64 [.s 40, .s 41, .s 42, .s 43]⟩])
             (.region [⟨some 45, none, .ex (.mov) [.s 3]⟩,
               ⟨some 46, none, .ex (.ibin .sub) [.s 45, .k (.int .i64 1)]⟩,
               ⟨some 3, none, .ex (.mov) [.s 46]⟩]))
            .skip))
          (.seq
           (.region [⟨some 48, none, .ex (.mov) [.s 0]⟩,
             ⟨some 49, none, .ex (.mov) [.s 1]⟩,
             ⟨some 50, none, .ex (.mov) [.s 2]⟩,
             ⟨some 51, none, .ex (.mov) [.s 4]⟩,
             ⟨some 52, none, .callf 65 [.s 48, .s 49, .s 50, .s 51]⟩,
             ⟨some 47, none, .ex (.mov) [.s 52]⟩,
             ⟨some 53, none, .ex (.ext 0) [.s 47]⟩,
             ⟨some 54, none, .ex (.ext 1) [.s 47]⟩,
             ⟨some 13, none, .ex (.mov) [.s 53]⟩,
             ⟨some 14, none, .ex (.mov) [.s 54]⟩])
           (.seq
            (.seq
             (.region [⟨some 55, none, .ex (.mov) [.s 14]⟩,
               ⟨some 56, none, .ex (.ibin .eql) [.s 55, .k (.int .i64 2)]⟩])
             (.cond (.s 56)
              (.seq
               (.region [⟨some 57, none, .ex (.mov) [.s 0]⟩,
                 ⟨some 58, none, .ex (.mov) [.s 1]⟩,
                 ⟨some 59, none, .ex (.mov) [.s 2]⟩,
                 ⟨some 60, none, .ex (.mov) [.s 4]⟩,
                 ⟨some 61, none, .callf 66 [.s 57, .s 58, .s 59, .s 60]⟩])
               (.seq
                (.region [⟨some 62, none, .ex (.mov) [.s 2]⟩,
                  ⟨some 63, none, .ex (.ibin .sub) [.s 62, .k (.int .i64 1)]⟩,
                  ⟨some 64, none, .ex (.mov) [.s 13]⟩,
                  ⟨some 65, none, .ex (.mov) [.s 1]⟩,
                  ⟨some 66, none, .ex (.ibin .sub) [.s 64, .s 65]⟩,
                  ⟨some 67, none, .ex (.ibin .sub) [.s 63, .s 66]⟩,
                  ⟨some 13, none, .ex (.mov) [.s 67]⟩])
                (.region [⟨some 14, none, .ex (.mov) [.k (.int .i64 1)]⟩])))
              .skip))
            (.seq
             (.seq
              (.region [⟨some 68, none, .ex (.mov) [.s 10]⟩,
                ⟨some 69, none, .ex (.mov) [.s 68]⟩,
                ⟨some 70, some (69, true), .ex (.mov) [.s 11]⟩,
                ⟨some 71, none, .ex (.pick) [.s 69, .s 70, .k (.bool false)]⟩,
                ⟨some 72, none, .ex (.mov) [.s 71]⟩,
                ⟨some 73, some (72, true), .ex (.mov) [.s 14]⟩,
                ⟨some 74, some (72, true), .ex (.ibin .eql) [.s 73, .k (.int .i64 1)]⟩,
                ⟨some 75, none, .ex (.pick) [.s 72, .s 74, .k (.bool false)]⟩])
              (.cond (.s 75)
               (.seq
                (.region [⟨some 76, none, .ex (.mov) [.s 0]⟩,
                  ⟨some 77, none, .ex (.mov) [.s 1]⟩,
                  ⟨some 78, none, .ex (.mov) [.s 2]⟩,
                  ⟨some 79, none, .ex (.mov) [.s 4]⟩,
                  ⟨some 80, none, .callf 67 [.s 76, .s 77, .s 78, .s 79]⟩])
                (.cond (.s 80)
                 .ret
                 .skip))
               .skip))
             (.seq
              (.seq
               (.draw (.op ⟨some 81, none, .ex (.mov) [.s 1]⟩ (.op ⟨some 82, none, .ex (.ibin .gtr) [.s 81, .k (.int .i64 0)]⟩ (.op ⟨some 83, none, .ex (.mov) [.s 82]⟩ (.op ⟨some 84, some (83, true), .ex (.mov) [.s 4]⟩ (.op ⟨some 85, some (83, true), .ex (.mov) [.s 0]⟩ (.op ⟨some 86, some (83, true), .ex (.mov) [.s 1]⟩ (.op ⟨some 87, some (83, true), .ex (.ibin .sub) [.s 86, .k (.int .i64 1)]⟩ (.op ⟨some 88, some (83, true), .ex (.ia 6) [.s 85, .s 87]⟩ (.op ⟨some 89, some (83, true), .ex (.lda 6) [.s 88]⟩ (.op ⟨some 90, some (83, true), .ex (.mov) [.s 0]⟩ (.op ⟨some 91, some (83, true), .ex (.mov) [.s 13]⟩ (.op ⟨some 92, some (83, true), .ex (.ia 6) [.s 90, .s 91]⟩ (.op ⟨some 93, some (83, true), .ex (.lda 6) [.s 92]⟩ (.op ⟨some 94, some (83, true), .callv (.s 84) [.s 89, .s 93]⟩ (.op ⟨some 95, some (83, true), .ex (.ibin .lss) [.s 94, .k (.int .i64 0)]⟩ (.op ⟨some 96, some (83, true), .ex (.bnot) [.s 95]⟩ (.op ⟨some 97, none, .ex (.pick) [.s 83, .s 96, .k (.bool false)]⟩ .done))))))))))))))))))
               (.cond (.s 97)
                (.seq
                 (.region [⟨some 98, none, .ex (.mov) [.s 0]⟩,
                   ⟨some 99, none, .ex (.mov) [.s 1]⟩,
                   ⟨some 100, none, .ex (.mov) [.s 2]⟩,
                   ⟨some 101, none, .ex (.mov) [.s 13]⟩,
                   ⟨some 102, none, .ex (.mov) [.s 4]⟩,
                   ⟨some 103, none, .callf 68 [.s 98, .s 99, .s 100, .s 101, .s 102]⟩,
                   ⟨some 15, none, .ex (.mov) [.s 103]⟩])
                 (.seq
                  (.region [⟨some 104, none, .ex (.mov) [.s 15]⟩,
                    ⟨some 1, none, .ex (.mov) [.s 104]⟩])
                  (.exit 1)))
                .skip))
              (.seq
               (.region [⟨some 106, none, .ex (.mov) [.s 0]⟩,
                 ⟨some 107, none, .ex (.mov) [.s 1]⟩,
                 ⟨some 108, none, .ex (.mov) [.s 2]⟩,
                 ⟨some 109, none, .ex (.mov) [.s 13]⟩,
                 ⟨some 110, none, .ex (.mov) [.s 4]⟩,
                 ⟨some 111, none, .callf 69 [.s 106, .s 107, .s 108, .s 109, .s 110]⟩,
                 ⟨some 105, none, .ex (.mov) [.s 111]⟩,
                 ⟨some 112, none, .ex (.ext 0) [.s 105]⟩,
                 ⟨some 113, none, .ex (.ext 1) [.s 105]⟩,
                 ⟨some 16, none, .ex (.mov) [.s 112]⟩,
                 ⟨some 17, none, .ex (.mov) [.s 113]⟩])
               (.seq
                (.region [⟨some 114, none, .ex (.mov) [.s 17]⟩,
                  ⟨some 11, none, .ex (.mov) [.s 114]⟩])
                (.seq
                 (.region [⟨some 115, none, .ex (.mov) [.s 16]⟩,
                   ⟨some 116, none, .ex (.mov) [.s 1]⟩,
                   ⟨some 117, none, .ex (.ibin .sub) [.s 115, .s 116]⟩,
                   ⟨some 118, none, .ex (.mov) [.s 2]⟩,
                   ⟨some 119, none, .ex (.mov) [.s 16]⟩,
                   ⟨some 120, none, .ex (.ibin .sub) [.s 118, .s 119]⟩,
                   ⟨some 18, none, .ex (.mov) [.s 117]⟩,
                   ⟨some 19, none, .ex (.mov) [.s 120]⟩])
                 (.seq
                  (.region [⟨some 121, none, .ex (.mov) [.s 12]⟩,
                    ⟨some 122, none, .ex (.ibin .quo) [.s 121, .k (.int .i64 8)]⟩,
                    ⟨some 20, none, .ex (.mov) [.s 122]⟩])
                  (.seq
                   (.region [⟨some 123, none, .ex (.mov) [.s 18]⟩,
                     ⟨some 124, none, .ex (.mov) [.s 19]⟩,
                     ⟨some 125, none, .ex (.ibin .lss) [.s 123, .s 124]⟩])
                   (.cond (.s 125)
                    (.seq
                     (.region [⟨some 126, none, .ex (.mov) [.s 18]⟩,
                       ⟨some 127, none, .ex (.mov) [.s 20]⟩,
                       ⟨some 128, none, .ex (.ibin .geq) [.s 126, .s 127]⟩,
                       ⟨some 10, none, .ex (.mov) [.s 128]⟩])
                     (.seq
                      (.region [⟨some 129, none, .ex (.mov) [.s 0]⟩,
                        ⟨some 130, none, .ex (.mov) [.s 1]⟩,
                        ⟨some 131, none, .ex (.mov) [.s 16]⟩,
                        ⟨some 132, none, .ex (.mov) [.s 3]⟩,
                        ⟨some 133, none, .ex (.mov) [.s 4]⟩,
                        ⟨some 134, none, .callf 47 [.s 129, .s 130, .s 131, .s 132, .s 133]⟩])
                      (.region [⟨some 135, none, .ex (.mov) [.s 16]⟩,
                        ⟨some 136, none, .ex (.ibin .add) [.s 135, .k (.int .i64 1)]⟩,
                        ⟨some 1, none, .ex (.mov) [.s 136]⟩])))
                    (.seq
                     (.region [⟨some 137, none, .ex (.mov) [.s 19]⟩,
                       ⟨some 138, none, .ex (.mov) [.s 20]⟩,
                       ⟨some 139, none, .ex (.ibin .geq) [.s 137, .s 138]⟩,
                       ⟨some 10, none, .ex (.mov) [.s 139]⟩])
                     (.seq
                      (.region [⟨some 140, none, .ex (.mov) [.s 0]⟩,
                        ⟨some 141, none, .ex (.mov) [.s 16]⟩,
                        ⟨some 142, none, .ex (.ibin .add) [.s 141, .k (.int .i64 1)]⟩,
                        ⟨some 143, none, .ex (.mov) [.s 2]⟩,
                        ⟨some 144, none, .ex (.mov) [.s 3]⟩,
                        ⟨some 145, none, .ex (.mov) [.s 4]⟩,
                        ⟨some 146, none, .callf 47 [.s 140, .s 142, .s 143, .s 144, .s 145]⟩])
                      (.region [⟨some 147, none, .ex (.mov) [.s 16]⟩,
                        ⟨some 2, none, .ex (.mov) [.s 147]⟩])))))))))))))))))))))),
 []⟩
theorem c47 : compFn Go.Proofs.Tryz.prog 47 = some fn47 := by kernel_rfl

/-- math/bits.Len -/
def fn48 : AFn := ⟨8,
 (.seq
  (.region [⟨some 2, none, .ex (.mov) [.k (.int .i64 0)]⟩])
  (.seq
   (.cond (.k (.bool false))
    (.seq
     (.region [⟨some 3, none, .ex (.mov) [.s 0]⟩,
       ⟨some 4, none, .ex (.toInt .u32) [.s 3]⟩,
       ⟨some 5, none, .callf 70 [.s 4]⟩,
       ⟨some 2, none, .ex (.mov) [.s 5]⟩])
     .ret)
    .skip)
   (.seq
    (.region [⟨some 6, none, .ex (.mov) [.s 0]⟩,
      ⟨some 7, none, .callf 71 [.s 6]⟩,
      ⟨some 2, none, .ex (.mov) [.s 7]⟩])
    .ret))),
 [.t 2]⟩
theorem c48 : compFn Go.Proofs.Tryz.prog 48 = some fn48 := by kernel_rfl

/-- cmp.isNaN[int] -/
def fn49 : AFn := ⟨6,
 (.seq
  (.region [⟨some 2, none, .ex (.mov) [.k (.bool false)]⟩])
  (.seq
   (.region [⟨some 3, none, .ex (.mov) [.s 0]⟩,
     ⟨some 4, none, .ex (.mov) [.s 0]⟩,
     ⟨some 5, none, .ex (.ibin .neq) [.s 3, .s 4]⟩,
     ⟨some 2, none, .ex (.mov) [.s 5]⟩])
   .ret)),
 [.t 2]⟩
theorem c49 : compFn Go.Proofs.Tryz.prog 49 = some fn49 := by kernel_rfl

/-- slices.Clone[[]rubric/api.Op,rubric/api.Op] -/
def fn50 : AFn := ⟨8,
 (.seq
  (.region [⟨some 2, none, .ex (.mov) [.k .nils]⟩])
  (.seq
   (.seq
    (.region [⟨some 3, none, .ex (.mov) [.s 0]⟩,
      ⟨some 4, none, .ex (.eqnil 1 false) [.s 3, .k .nils]⟩])
    (.cond (.s 4)
     (.seq
      (.region [⟨some 2, none, .ex (.mov) [.k .nils]⟩])
      .ret)
     .skip))
   (.seq
    (.region [⟨some 5, none, .ex (.bsl 5 0 [] []) []⟩,
      ⟨some 6, none, .ex (.mov) [.s 0]⟩,
      ⟨some 7, none, .ex (.app 5 88) [.s 5, .s 6]⟩,
      ⟨some 2, none, .ex (.mov) [.s 7]⟩])
    .ret))),
 [.t 2]⟩
theorem c50 : compFn Go.Proofs.Tryz.prog 50 = some fn50 := by kernel_rfl

/-- slices.Clone[[]int32,int32] -/
def fn51 : AFn := ⟨8,
 (.seq
  (.region [⟨some 2, none, .ex (.mov) [.k .nils]⟩])
  (.seq
   (.seq
    (.region [⟨some 3, none, .ex (.mov) [.s 0]⟩,
      ⟨some 4, none, .ex (.eqnil 1 false) [.s 3, .k .nils]⟩])
    (.cond (.s 4)
     (.seq
      (.region [⟨some 2, none, .ex (.mov) [.k .nils]⟩])
      .ret)
     .skip))
   (.seq
    (.region [⟨some 5, none, .ex (.bsl 1 0 [] []) []⟩,
      ⟨some 6, none, .ex (.mov) [.s 0]⟩,
      ⟨some 7, none, .ex (.app 1 4) [.s 5, .s 6]⟩,
      ⟨some 2, none, .ex (.mov) [.s 7]⟩])
    .ret))),
 [.t 2]⟩
theorem c51 : compFn Go.Proofs.Tryz.prog 51 = some fn51 := by kernel_rfl

/-- rubric/attrs.Copy -/
def fn52 : AFn := ⟨5,
 (.seq
  (.region [⟨some 2, none, .ex (.mov) [.k .nils]⟩])
  (.seq
   (.region [⟨some 3, none, .ex (.mov) [.s 0]⟩,
     ⟨some 4, none, .callf 72 [.s 3]⟩,
     ⟨some 2, none, .ex (.mov) [.s 4]⟩])
   .ret)),
 [.t 2]⟩
theorem c52 : compFn Go.Proofs.Tryz.prog 52 = some fn52 := by kernel_rfl

/-- rubric/patch.Copy -/
def fn53 : AFn := ⟨5,
 (.seq
  (.region [⟨some 2, none, .ex (.mov) [.k .nils]⟩])
  (.seq
   (.region [⟨some 3, none, .ex (.mov) [.s 0]⟩,
     ⟨some 4, none, .callf 73 [.s 3]⟩,
     ⟨some 2, none, .ex (.mov) [.s 4]⟩])
   .ret)),
 [.t 2]⟩
theorem c53 : compFn Go.Proofs.Tryz.prog 53 = some fn53 := by kernel_rfl

/-- slices.Clone[[]rubric/history.group,rubric/history.group] -/
def fn55 : AFn := ⟨8,
 (.seq
  (.region [⟨some 2, none, .ex (.mov) [.k .nils]⟩])
  (.seq
   (.seq
    (.region [⟨some 3, none, .ex (.mov) [.s 0]⟩,
      ⟨some 4, none, .ex (.eqnil 1 false) [.s 3, .k .nils]⟩])
    (.cond (.s 4)
     (.seq
      (.region [⟨some 2, none, .ex (.mov) [.k .nils]⟩])
      .ret)
     .skip))
   (.seq
    (.region [⟨some 5, none, .ex (.bsl 2 0 [] []) []⟩,
      ⟨some 6, none, .ex (.mov) [.s 0]⟩,
      ⟨some 7, none, .ex (.app 2 48) [.s 5, .s 6]⟩,
      ⟨some 2, none, .ex (.mov) [.s 7]⟩])
    .ret))),
 [.t 2]⟩
theorem c55 : compFn Go.Proofs.Tryz.prog 55 = some fn55 := by kernel_rfl

/-- slices.insertionSortCmpFunc[rubric/api.Key] -/
def fn62 : AFn := ⟨53,
 (.seq
  (.region [⟨some 10, none, .ex (.mov) [.s 1]⟩,
    ⟨some 11, none, .ex (.ibin .add) [.s 10, .k (.int .i64 1)]⟩,
    ⟨some 8, none, .ex (.mov) [.s 11]⟩])
  (.block 0
   (.loop
    (.seq
     (.seq
      (.region [⟨some 12, none, .ex (.mov) [.s 8]⟩,
        ⟨some 13, none, .ex (.mov) [.s 2]⟩,
        ⟨some 14, none, .ex (.ibin .lss) [.s 12, .s 13]⟩])
      (.cond (.s 14)
       .skip
       (.exit 0)))
     (.seq
      (.block 1
       (.seq
        (.region [⟨some 17, none, .ex (.mov) [.s 8]⟩,
          ⟨some 9, none, .ex (.mov) [.s 17]⟩])
        (.block 2
         (.loop
          (.seq
           (.seq
            (.draw (.op ⟨some 18, none, .ex (.mov) [.s 9]⟩ (.op ⟨some 19, none, .ex (.mov) [.s 1]⟩ (.op ⟨some 20, none, .ex (.ibin .gtr) [.s 18, .s 19]⟩ (.op ⟨some 21, none, .ex (.mov) [.s 20]⟩ (.op ⟨some 22, some (21, true), .ex (.mov) [.s 3]⟩ (.op ⟨some 23, some (21, true), .ex (.mov) [.s 0]⟩ (.op ⟨some 24, some (21, true), .ex (.mov) [.s 9]⟩ (.op ⟨some 25, some (21, true), .ex (.ia 6) [.s 23, .s 24]⟩ (.op ⟨some 26, some (21, true), .ex (.lda 6) [.s 25]⟩ (.op ⟨some 27, some (21, true), .ex (.mov) [.s 0]⟩ (.op ⟨some 28, some (21, true), .ex (.mov) [.s 9]⟩ (.op ⟨some 29, some (21, true), .ex (.ibin .sub) [.s 28, .k (.int .i64 1)]⟩ (.op ⟨some 30, some (21, true), .ex (.ia 6) [.s 27, .s 29]⟩ (.op ⟨some 31, some (21, true), .ex (.lda 6) [.s 30]⟩ (.op ⟨some 32, some (21, true), .callv (.s 22) [.s 26, .s 31]⟩ (.op ⟨some 33, some (21, true), .ex (.ibin .lss) [.s 32, .k (.int .i64 0)]⟩ (.op ⟨some 34, none, .ex (.pick) [.s 21, .s 33, .k (.bool false)]⟩ .done))))))))))))))))))
            (.cond (.s 34)
             .skip
             (.exit 2)))
           (.seq
            (.block 3
             (.draw (.op ⟨some 37, none, .ex (.mov) [.s 0]⟩ (.op ⟨some 38, none, .ex (.mov) [.s 9]⟩ (.op ⟨some 39, none, .ex (.mov) [.s 0]⟩ (.op ⟨some 40, none, .ex (.mov) [.s 9]⟩ (.op ⟨some 41, none, .ex (.ibin .sub) [.s 40, .k (.int .i64 1)]⟩ (.op ⟨some 42, none, .ex (.mov) [.s 0]⟩ (.op ⟨some 43, none, .ex (.mov) [.s 9]⟩ (.op ⟨some 44, none, .ex (.ibin .sub) [.s 43, .k (.int .i64 1)]⟩ (.op ⟨some 45, none, .ex (.ia 6) [.s 42, .s 44]⟩ (.op ⟨some 46, none, .ex (.lda 6) [.s 45]⟩ (.op ⟨some 47, none, .ex (.mov) [.s 0]⟩ (.op ⟨some 48, none, .ex (.mov) [.s 9]⟩ (.op ⟨some 49, none, .ex (.ia 6) [.s 47, .s 48]⟩ (.op ⟨some 50, none, .ex (.lda 6) [.s 49]⟩ (.op ⟨some 51, none, .ex (.ia 6) [.s 37, .s 38]⟩ (.op ⟨none, none, .ex (.st 6) [.s 51, .s 46]⟩ (.op ⟨some 52, none, .ex (.ia 6) [.s 39, .s 41]⟩ (.op ⟨none, none, .ex (.st 6) [.s 52, .s 50]⟩ .done))))))))))))))))))))
            (.region [⟨some 35, none, .ex (.mov) [.s 9]⟩,
              ⟨some 36, none, .ex (.ibin .sub) [.s 35, .k (.int .i64 1)]⟩,
              ⟨some 9, none, .ex (.mov) [.s 36]⟩])))))))
      (.region [⟨some 15, none, .ex (.mov) [.s 8]⟩,
        ⟨some 16, none, .ex (.ibin .add) [.s 15, .k (.int .i64 1)]⟩,
        ⟨some 8, none, .ex (.mov) [.s 16]⟩])))))),
 []⟩
theorem c62 : compFn Go.Proofs.Tryz.prog 62 = some fn62 := by kernel_rfl

/-- math/bits.Len64 -/
def fn71 : AFn := ⟨25,
 (.seq
  (.region [⟨some 2, none, .ex (.mov) [.k (.int .i64 0)]⟩])
  (.seq
   (.seq
    (.region [⟨some 3, none, .ex (.mov) [.s 0]⟩,
      ⟨some 4, none, .ex (.ibin .geq) [.s 3, .k (.int .u64 4294967296)]⟩])
    (.cond (.s 4)
     (.seq
      (.region [⟨some 5, none, .ex (.mov) [.s 0]⟩,
        ⟨some 6, none, .ex (.ibin .shr) [.s 5, .k (.int .u64 32)]⟩,
        ⟨some 0, none, .ex (.mov) [.s 6]⟩])
      (.region [⟨some 2, none, .ex (.mov) [.k (.int .i64 32)]⟩]))
     .skip))
   (.seq
    (.seq
     (.region [⟨some 7, none, .ex (.mov) [.s 0]⟩,
       ⟨some 8, none, .ex (.ibin .geq) [.s 7, .k (.int .u64 65536)]⟩])
     (.cond (.s 8)
      (.seq
       (.region [⟨some 9, none, .ex (.mov) [.s 0]⟩,
         ⟨some 10, none, .ex (.ibin .shr) [.s 9, .k (.int .u64 16)]⟩,
         ⟨some 0, none, .ex (.mov) [.s 10]⟩])
       (.region [⟨some 11, none, .ex (.mov) [.s 2]⟩,
         ⟨some 12, none, .ex (.ibin .add) [.s 11, .k (.int .i64 16)]⟩,
         ⟨some 2, none, .ex (.mov) [.s 12]⟩]))
      .skip))
    (.seq
     (.seq
      (.region [⟨some 13, none, .ex (.mov) [.s 0]⟩,
        ⟨some 14, none, .ex (.ibin .geq) [.s 13, .k (.int .u64 256)]⟩])
      (.cond (.s 14)
       (.seq
        (.region [⟨some 15, none, .ex (.mov) [.s 0]⟩,
          ⟨some 16, none, .ex (.ibin .shr) [.s 15, .k (.int .u64 8)]⟩,
          ⟨some 0, none, .ex (.mov) [.s 16]⟩])
        (.region [⟨some 17, none, .ex (.mov) [.s 2]⟩,
          ⟨some 18, none, .ex (.ibin .add) [.s 17, .k (.int .i64 8)]⟩,
          ⟨some 2, none, .ex (.mov) [.s 18]⟩]))
       .skip))
     (.seq
      (.region [⟨some 19, none, .ex (.mov) [.s 2]⟩,
        ⟨some 20, none, .ex (.mov) [.s 0]⟩,
        ⟨some 21, none, .ex (.toInt .u8) [.s 20]⟩,
        ⟨some 22, none, .ex (.idxs) [.k (.str ⟨#[0, 1, 2, 2, 3, 3, 3, 3, 4, 4, 4, 4, 4, 4, 4, 4, 5, 5, 5, 5, 5, 5, 5, 5, 5, 5, 5, 5, 5, 5, 5, 5, 6, 6, 6, 6, 6, 6, 6, 6, 6, 6, 6, 6, 6, 6, 6, 6, 6, 6, 6, 6, 6, 6, 6, 6, 6, 6, 6, 6, 6, 6, 6, 6, 7, 7, 7, 7, 7, 7, 7, 7, 7, 7, 7, 7, 7, 7, 7, 7, 7, 7, 7, 7, 7, 7, 7, 7, 7, 7, 7, 7, 7, 7, 7, 7, 7, 7, 7, 7, 7, 7, 7, 7, 7, 7, 7, 7, 7, 7, 7, 7, 7, 7, 7, 7, 7, 7, 7, 7, 7, 7, 7, 7, 7, 7, 7, 7, 8, 8, 8, 8, 8, 8, 8, 8, 8, 8, 8, 8, 8, 8, 8, 8, 8, 8, 8, 8, 8, 8, 8, 8, 8, 8, 8, 8, 8, 8, 8, 8, 8, 8, 8, 8, 8, 8, 8, 8, 8, 8, 8, 8, 8, 8, 8, 8, 8, 8, 8, 8, 8, 8, 8, 8, 8, 8, 8, 8, 8, 8, 8, 8, 8, 8, 8, 8, 8, 8, 8, 8, 8, 8, 8, 8, 8, 8, 8, 8, 8, 8, 8, 8, 8, 8, 8, 8, 8, 8, 8, 8, 8, 8, 8, 8, 8, 8, 8, 8, 8, 8, 8, 8, 8, 8, 8, 8, 8, 8, 8, 8, 8, 8, 8, 8, 8, 8, 8, 8, 8, 8, 8, 8, 8, 8, 8, 8]⟩), .s 21]⟩,
        ⟨some 23, none, .ex (.toInt .i64) [.s 22]⟩,
        ⟨some 24, none, .ex (.ibin .add) [.s 19, .s 23]⟩,
        ⟨some 2, none, .ex (.mov) [.s 24]⟩])
      .ret))))),
 [.t 2]⟩
theorem c71 : compFn Go.Proofs.Tryz.prog 71 = some fn71 := by kernel_rfl

/-- slices.Clone[[]rubric/api.Attr,rubric/api.Attr] -/
def fn72 : AFn := ⟨8,
 (.seq
  (.region [⟨some 2, none, .ex (.mov) [.k .nils]⟩])
  (.seq
   (.seq
    (.region [⟨some 3, none, .ex (.mov) [.s 0]⟩,
      ⟨some 4, none, .ex (.eqnil 1 false) [.s 3, .k .nils]⟩])
    (.cond (.s 4)
     (.seq
      (.region [⟨some 2, none, .ex (.mov) [.k .nils]⟩])
      .ret)
     .skip))
   (.seq
    (.region [⟨some 5, none, .ex (.bsl 5 0 [] []) []⟩,
      ⟨some 6, none, .ex (.mov) [.s 0]⟩,
      ⟨some 7, none, .ex (.app 5 48) [.s 5, .s 6]⟩,
      ⟨some 2, none, .ex (.mov) [.s 7]⟩])
    .ret))),
 [.t 2]⟩
theorem c72 : compFn Go.Proofs.Tryz.prog 72 = some fn72 := by kernel_rfl

/-- slices.Clone[[]rubric/api.Change,rubric/api.Change] -/
def fn73 : AFn := ⟨8,
 (.seq
  (.region [⟨some 2, none, .ex (.mov) [.k .nils]⟩])
  (.seq
   (.seq
    (.region [⟨some 3, none, .ex (.mov) [.s 0]⟩,
      ⟨some 4, none, .ex (.eqnil 1 false) [.s 3, .k .nils]⟩])
    (.cond (.s 4)
     (.seq
      (.region [⟨some 2, none, .ex (.mov) [.k .nils]⟩])
      .ret)
     .skip))
   (.seq
    (.region [⟨some 5, none, .ex (.bsl 6 0 [] []) []⟩,
      ⟨some 6, none, .ex (.mov) [.s 0]⟩,
      ⟨some 7, none, .ex (.app 6 56) [.s 5, .s 6]⟩,
      ⟨some 2, none, .ex (.mov) [.s 7]⟩])
    .ret))),
 [.t 2]⟩
theorem c73 : compFn Go.Proofs.Tryz.prog 73 = some fn73 := by kernel_rfl

end Go.Proofs.YtkmaikggdbielaaGreatDoor.Fw

/- The abstract code of functions of the program, and that it is theirs. No condition. Printed by a program (wip/Print.lean, wip/mkfns.py). -/
namespace Go.Proofs.YtkmaikggdbielaaGreatDoor.Fw
open Go

/-- (*rubric/history.History).with -/
def fn38 : AFn := ⟨58,
 (.seq
  (.region [⟨some 3, none, .ex (.box) [.s 1]⟩,
    ⟨some 4, none, .ex (.alloc [.nils, .nils]) []⟩,
    ⟨some 5, none, .ex (.mov) [.k (.int .i64 0)]⟩])
  (.seq
   (.seq
    (.region [⟨some 9, none, .ex (.mov) [.s 0]⟩,
      ⟨some 10, none, .ex (.nilck) [.s 9]⟩,
      ⟨some 11, none, .ex (.fa 6) [.s 10]⟩,
      ⟨some 12, none, .ex (.ld 1) [.s 11]⟩,
      ⟨some 13, none, .ex (.len) [.s 12]⟩,
      ⟨some 14, none, .ex (.ibin .eql) [.s 13, .k (.int .i64 0)]⟩])
    (.cond (.s 14)
     (.seq
      (.region [⟨some 15, none, .ex (.lda 2) [.s 3]⟩,
        ⟨none, none, .ex (.st 2) [.s 4, .s 15]⟩,
        ⟨some 5, none, .ex (.mov) [.k (.int .i64 0)]⟩])
      .ret)
     .skip))
   (.seq
    (.draw (.op ⟨some 17, none, .ex (.mov) [.s 0]⟩ (.op ⟨some 18, none, .ex (.nilck) [.s 17]⟩ (.op ⟨some 19, none, .ex (.fa 0) [.s 18]⟩ (.op ⟨some 20, none, .ex (.ld 1) [.s 19]⟩ (.op ⟨some 21, none, .ex (.mov) [.s 0]⟩ (.op ⟨some 22, none, .ex (.nilck) [.s 21]⟩ (.op ⟨some 23, none, .ex (.fa 6) [.s 22]⟩ (.op ⟨some 24, none, .ex (.ld 1) [.s 23]⟩ (.op ⟨some 25, none, .ex (.ia 2) [.s 24, .k (.int .i64 0)]⟩ (.op ⟨some 26, none, .ex (.fa 0) [.s 25]⟩ (.op ⟨some 27, none, .ex (.ld 1) [.s 26]⟩ (.op ⟨some 28, none, .ex (.fa 0) [.s 3]⟩ (.op ⟨some 29, none, .ex (.ld 1) [.s 28]⟩ (.op ⟨some 30, none, .callf 54 [.s 20, .s 27, .s 29]⟩ (.op ⟨some 16, none, .ex (.mov) [.s 30]⟩ (.op ⟨some 31, none, .ex (.ext 0) [.s 16]⟩ (.op ⟨some 32, none, .ex (.ext 1) [.s 16]⟩ (.op ⟨some 6, none, .ex (.mov) [.s 31]⟩ (.op ⟨some 7, none, .ex (.mov) [.s 32]⟩ .done))))))))))))))))))))
    (.seq
     (.seq
      (.region [⟨some 33, none, .ex (.mov) [.s 7]⟩,
        ⟨some 34, none, .ex (.ibin .neq) [.s 33, .k (.int .i64 0)]⟩])
      (.cond (.s 34)
       (.seq
        (.region [⟨some 35, none, .ex (.build [.nils, .nils] []) []⟩,
          ⟨some 36, none, .ex (.mov) [.s 7]⟩,
          ⟨none, none, .ex (.st 2) [.s 4, .s 35]⟩,
          ⟨some 5, none, .ex (.mov) [.s 36]⟩])
        .ret)
       .skip))
     (.seq
      (.draw (.op ⟨some 38, none, .ex (.mov) [.s 0]⟩ (.op ⟨some 39, none, .ex (.nilck) [.s 38]⟩ (.op ⟨some 40, none, .ex (.fa 0) [.s 39]⟩ (.op ⟨some 41, none, .ex (.ld 1) [.s 40]⟩ (.op ⟨some 42, none, .ex (.fa 1) [.s 3]⟩ (.op ⟨some 43, none, .ex (.ld 1) [.s 42]⟩ (.op ⟨some 44, none, .ex (.mov) [.s 0]⟩ (.op ⟨some 45, none, .ex (.nilck) [.s 44]⟩ (.op ⟨some 46, none, .ex (.fa 6) [.s 45]⟩ (.op ⟨some 47, none, .ex (.ld 1) [.s 46]⟩ (.op ⟨some 48, none, .ex (.ia 2) [.s 47, .k (.int .i64 0)]⟩ (.op ⟨some 49, none, .ex (.fa 1) [.s 48]⟩ (.op ⟨some 50, none, .ex (.ld 1) [.s 49]⟩ (.op ⟨some 51, none, .callf 54 [.s 41, .s 43, .s 50]⟩ (.op ⟨some 37, none, .ex (.mov) [.s 51]⟩ (.op ⟨some 52, none, .ex (.ext 0) [.s 37]⟩ (.op ⟨some 53, none, .ex (.ext 1) [.s 37]⟩ (.op ⟨some 8, none, .ex (.mov) [.s 52]⟩ (.op ⟨some 7, none, .ex (.mov) [.s 53]⟩ .done))))))))))))))))))))
      (.seq
       (.region [⟨some 54, none, .ex (.mov) [.s 6]⟩,
         ⟨some 55, none, .ex (.mov) [.s 8]⟩,
         ⟨some 56, none, .ex (.build [.nils, .nils] [(0, 1), (1, 1)]) [.s 54, .s 55]⟩,
         ⟨some 57, none, .ex (.mov) [.s 7]⟩,
         ⟨none, none, .ex (.st 2) [.s 4, .s 56]⟩,
         ⟨some 5, none, .ex (.mov) [.s 57]⟩])
       .ret)))))),
 [.ca 4 2, .t 5]⟩
theorem c38 : compFn Go.Proofs.Tryz.prog 38 = some fn38 := by kernel_rfl

/-- rubric/compose.Compose -/
def fn54 : AFn := ⟨79,
 (.seq
  (.region [⟨some 6, none, .ex (.mov) [.k .nils]⟩,
    ⟨some 7, none, .ex (.mov) [.k (.int .i64 0)]⟩])
  (.scope
   (.seq
    (.seq
     (.region [⟨some 14, none, .ex (.mov) [.s 0]⟩,
       ⟨some 15, none, .ex (.mov) [.s 1]⟩,
       ⟨some 16, none, .ex (.mov) [.s 2]⟩,
       ⟨some 17, none, .callf 74 [.s 14, .s 15, .s 16]⟩,
       ⟨some 8, none, .ex (.mov) [.s 17]⟩])
     (.seq
      (.region [⟨some 18, none, .ex (.mov) [.s 8]⟩,
        ⟨some 19, none, .ex (.ibin .neq) [.s 18, .k (.int .i64 0)]⟩])
      (.cond (.s 19)
       (.seq
        (.region [⟨some 20, none, .ex (.mov) [.s 8]⟩,
          ⟨some 6, none, .ex (.mov) [.k .nils]⟩,
          ⟨some 7, none, .ex (.mov) [.s 20]⟩])
        .ret)
       .skip)))
    (.seq
     (.region [⟨some 21, none, .callf 75 []⟩,
       ⟨some 9, none, .ex (.mov) [.s 21]⟩])
     (.seq
      (.region [⟨some 22, none, .ex (.mov) [.s 1]⟩,
        ⟨some 23, none, .ex (.build [.nils, (.int .i64 0)] [(0, 1)]) [.s 22]⟩,
        ⟨some 24, none, .ex (.box) [.s 23]⟩,
        ⟨some 25, none, .ex (.mov) [.s 2]⟩,
        ⟨some 26, none, .ex (.build [.nils, (.int .i64 0)] [(0, 1)]) [.s 25]⟩,
        ⟨some 27, none, .ex (.box) [.s 26]⟩,
        ⟨some 10, none, .ex (.mov) [.s 24]⟩,
        ⟨some 11, none, .ex (.mov) [.s 27]⟩])
      (.seq
       .skip
       (.seq
        (.block 0
         (.loop
          (.seq
           (.seq
            (.region [⟨some 28, none, .ex (.mov) [.s 11]⟩,
              ⟨some 29, none, .callf 76 [.s 28]⟩,
              ⟨some 30, none, .ex (.bnot) [.s 29]⟩])
            (.cond (.s 30)
             .skip
             (.exit 0)))
           (.block 1
            (.seq
             (.block 2
              (.seq
               (.region [⟨some 32, none, .ex (.mov) [.s 11]⟩,
                 ⟨some 33, none, .callf 77 [.s 32]⟩,
                 ⟨some 34, none, .ex (.ibin .eql) [.s 33, .k (.int .u8 2)]⟩,
                 ⟨some 31, none, .ex (.mov) [.s 34]⟩])
               (.cond (.s 31)
                (.seq
                 (.region [⟨some 35, none, .ex (.mov) [.s 9]⟩,
                   ⟨some 36, none, .ex (.mov) [.s 11]⟩,
                   ⟨some 37, none, .callf 79 [.s 36, .k (.int .i64 536870912)]⟩,
                   ⟨some 38, none, .callf 78 [.s 35, .s 37]⟩])
                 (.exit 1))
                (.seq
                 (.region [⟨some 40, none, .ex (.mov) [.s 10]⟩,
                   ⟨some 41, none, .callf 77 [.s 40]⟩,
                   ⟨some 42, none, .ex (.ibin .eql) [.s 41, .k (.int .u8 3)]⟩,
                   ⟨some 39, none, .ex (.mov) [.s 42]⟩])
                 (.cond (.s 39)
                  (.seq
                   (.region [⟨some 43, none, .ex (.mov) [.s 9]⟩,
                     ⟨some 44, none, .ex (.mov) [.s 10]⟩,
                     ⟨some 45, none, .callf 79 [.s 44, .k (.int .i64 536870912)]⟩,
                     ⟨some 46, none, .callf 78 [.s 43, .s 45]⟩])
                   (.exit 1))
                  .skip)))))
             (.seq
              (.region [⟨some 47, none, .ex (.mov) [.s 10]⟩,
                ⟨some 48, none, .callf 80 [.s 47]⟩,
                ⟨some 49, none, .ex (.mov) [.s 11]⟩,
                ⟨some 50, none, .callf 80 [.s 49]⟩,
                ⟨some 51, none, .ex (.mn) [.s 48, .s 50]⟩,
                ⟨some 12, none, .ex (.mov) [.s 51]⟩])
              (.region [⟨some 52, none, .ex (.mov) [.s 0]⟩,
                ⟨some 53, none, .ex (.mov) [.s 9]⟩,
                ⟨some 54, none, .ex (.mov) [.s 10]⟩,
                ⟨some 55, none, .ex (.mov) [.s 12]⟩,
                ⟨some 56, none, .callf 79 [.s 54, .s 55]⟩,
                ⟨some 57, none, .ex (.mov) [.s 11]⟩,
                ⟨some 58, none, .ex (.mov) [.s 12]⟩,
                ⟨some 59, none, .callf 79 [.s 57, .s 58]⟩,
                ⟨some 60, none, .callf 81 [.s 52, .s 53, .s 56, .s 59]⟩])))))))
        (.seq
         (.block 3
          (.loop
           (.seq
            (.seq
             (.region [⟨some 61, none, .ex (.mov) [.s 10]⟩,
               ⟨some 62, none, .callf 76 [.s 61]⟩,
               ⟨some 63, none, .ex (.bnot) [.s 62]⟩])
             (.cond (.s 63)
              .skip
              (.exit 3)))
            (.block 4
             (.region [⟨some 64, none, .ex (.mov) [.s 9]⟩,
               ⟨some 65, none, .ex (.mov) [.s 10]⟩,
               ⟨some 66, none, .callf 79 [.s 65, .k (.int .i64 536870912)]⟩,
               ⟨some 67, none, .callf 78 [.s 64, .s 66]⟩])))))
         (.seq
          (.region [⟨some 68, none, .ex (.mov) [.s 9]⟩,
            ⟨some 69, none, .callf 82 [.s 68]⟩,
            ⟨some 13, none, .ex (.mov) [.s 69]⟩])
          (.seq
           (.seq
            (.region [⟨some 70, none, .ex (.mov) [.s 13]⟩,
              ⟨some 71, none, .callf 83 [.s 70]⟩,
              ⟨some 72, none, .ex (.ibin .gtr) [.s 71, .k (.int .i64 536870912)]⟩,
              ⟨some 73, none, .ex (.mov) [.s 72]⟩,
              ⟨some 74, some (73, false), .ex (.mov) [.s 13]⟩,
              ⟨some 75, some (73, false), .callf 84 [.s 74]⟩,
              ⟨some 76, some (73, false), .ex (.ibin .gtr) [.s 75, .k (.int .i64 536870912)]⟩,
              ⟨some 77, none, .ex (.pick) [.s 73, .k (.bool true), .s 76]⟩])
            (.cond (.s 77)
             (.seq
              (.region [⟨some 6, none, .ex (.mov) [.k .nils]⟩,
                ⟨some 7, none, .ex (.mov) [.k (.int .i64 3)]⟩])
              .ret)
             .skip))
           (.seq
            (.region [⟨some 78, none, .ex (.mov) [.s 13]⟩,
              ⟨some 6, none, .ex (.mov) [.s 78]⟩,
              ⟨some 7, none, .ex (.mov) [.k (.int .i64 0)]⟩])
            .ret))))))))))),
 [.t 6, .t 7]⟩
theorem c54 : compFn Go.Proofs.Tryz.prog 54 = some fn54 := by kernel_rfl

/-- rubric/compose.may -/
def fn74 : AFn := ⟨23,
 (.seq
  (.region [⟨some 6, none, .ex (.mov) [.k (.int .i64 0)]⟩])
  (.seq
   (.region [⟨some 9, none, .ex (.mov) [.s 0]⟩,
     ⟨some 10, none, .ex (.mov) [.s 1]⟩,
     ⟨some 11, none, .callf 100 [.s 9, .s 10]⟩,
     ⟨some 12, none, .ex (.mov) [.s 0]⟩,
     ⟨some 13, none, .ex (.mov) [.s 2]⟩,
     ⟨some 14, none, .callf 100 [.s 12, .s 13]⟩,
     ⟨some 7, none, .ex (.mov) [.s 11]⟩,
     ⟨some 8, none, .ex (.mov) [.s 14]⟩])
   (.seq
    (.seq
     (.region [⟨some 15, none, .ex (.mov) [.s 7]⟩,
       ⟨some 16, none, .ex (.ibin .eql) [.s 15, .k (.int .i64 0)]⟩,
       ⟨some 17, none, .ex (.mov) [.s 16]⟩,
       ⟨some 18, some (17, false), .ex (.mov) [.s 8]⟩,
       ⟨some 19, some (17, false), .ex (.ibin .eql) [.s 18, .k (.int .i64 3)]⟩,
       ⟨some 20, none, .ex (.pick) [.s 17, .k (.bool true), .s 19]⟩])
     (.cond (.s 20)
      (.seq
       (.region [⟨some 21, none, .ex (.mov) [.s 8]⟩,
         ⟨some 6, none, .ex (.mov) [.s 21]⟩])
       .ret)
      .skip))
    (.seq
     (.region [⟨some 22, none, .ex (.mov) [.s 7]⟩,
       ⟨some 6, none, .ex (.mov) [.s 22]⟩])
     .ret)))),
 [.t 6]⟩
theorem c74 : compFn Go.Proofs.Tryz.prog 74 = some fn74 := by kernel_rfl

/-- rubric/normal.New -/
def fn75 : AFn := ⟨3,
 (.seq
  (.region [⟨some 0, none, .ex (.mov) [.k .nilp]⟩])
  (.seq
   (.region [⟨some 1, none, .ex (.build [.nils, .nils, (.int .i64 0)] []) []⟩,
     ⟨some 2, none, .ex (.box) [.s 1]⟩,
     ⟨some 0, none, .ex (.mov) [.s 2]⟩])
   .ret)),
 [.t 0]⟩
theorem c75 : compFn Go.Proofs.Tryz.prog 75 = some fn75 := by kernel_rfl

/-- (*rubric/compose.reader).over -/
def fn76 : AFn := ⟨9,
 (.seq
  (.region [⟨some 2, none, .ex (.mov) [.k (.bool false)]⟩])
  (.seq
   (.region [⟨some 3, none, .ex (.mov) [.s 0]⟩,
     ⟨some 4, none, .ex (.nilck) [.s 3]⟩,
     ⟨some 5, none, .ex (.fa 0) [.s 4]⟩,
     ⟨some 6, none, .ex (.ld 1) [.s 5]⟩,
     ⟨some 7, none, .ex (.len) [.s 6]⟩,
     ⟨some 8, none, .ex (.ibin .eql) [.s 7, .k (.int .i64 0)]⟩,
     ⟨some 2, none, .ex (.mov) [.s 8]⟩])
   .ret)),
 [.t 2]⟩
theorem c76 : compFn Go.Proofs.Tryz.prog 76 = some fn76 := by kernel_rfl

/-- (*rubric/compose.reader).kind -/
def fn77 : AFn := ⟨12,
 (.seq
  (.region [⟨some 2, none, .ex (.mov) [.k (.int .u8 0)]⟩])
  (.seq
   (.seq
    (.region [⟨some 3, none, .ex (.mov) [.s 0]⟩,
      ⟨some 4, none, .callf 76 [.s 3]⟩])
    (.cond (.s 4)
     (.seq
      (.region [⟨some 2, none, .ex (.mov) [.k (.int .u8 1)]⟩])
      .ret)
     .skip))
   (.seq
    (.region [⟨some 5, none, .ex (.mov) [.s 0]⟩,
      ⟨some 6, none, .ex (.nilck) [.s 5]⟩,
      ⟨some 7, none, .ex (.fa 0) [.s 6]⟩,
      ⟨some 8, none, .ex (.ld 1) [.s 7]⟩,
      ⟨some 9, none, .ex (.ia 5) [.s 8, .k (.int .i64 0)]⟩,
      ⟨some 10, none, .ex (.fa 0) [.s 9]⟩,
      ⟨some 11, none, .ex (.ld 1) [.s 10]⟩,
      ⟨some 2, none, .ex (.mov) [.s 11]⟩])
    .ret))),
 [.t 2]⟩
theorem c77 : compFn Go.Proofs.Tryz.prog 77 = some fn77 := by kernel_rfl

/-- rubric/compose.tell -/
def fn78 : AFn := ⟨26,
 (.seq
  (.region [⟨some 3, none, .ex (.box) [.s 1]⟩])
  (.seq
   (.region [⟨some 4, none, .ex (.fa 0) [.s 3]⟩,
     ⟨some 5, none, .ex (.ld 1) [.s 4]⟩])
   (.block 0
    (.seq
     (.region [⟨some 11, none, .ex (.ibin .eql) [.s 5, .k (.int .u8 1)]⟩,
       ⟨some 10, none, .ex (.mov) [.s 11]⟩])
     (.cond (.s 10)
      (.region [⟨some 12, none, .ex (.mov) [.s 0]⟩,
        ⟨some 13, none, .ex (.fa 1) [.s 3]⟩,
        ⟨some 14, none, .ex (.ld 1) [.s 13]⟩,
        ⟨some 15, none, .ex (.fa 4) [.s 3]⟩,
        ⟨some 16, none, .ex (.ld 1) [.s 15]⟩,
        ⟨some 17, none, .callf 101 [.s 12, .s 14, .s 16]⟩])
      (.seq
       (.region [⟨some 19, none, .ex (.ibin .eql) [.s 5, .k (.int .u8 2)]⟩,
         ⟨some 18, none, .ex (.mov) [.s 19]⟩])
       (.cond (.s 18)
        (.region [⟨some 20, none, .ex (.mov) [.s 0]⟩,
          ⟨some 21, none, .ex (.fa 2) [.s 3]⟩,
          ⟨some 22, none, .ex (.ld 1) [.s 21]⟩,
          ⟨some 23, none, .ex (.fa 3) [.s 3]⟩,
          ⟨some 24, none, .ex (.ld 1) [.s 23]⟩,
          ⟨some 25, none, .callf 102 [.s 20, .s 22, .s 24]⟩])
        (.region [⟨some 6, none, .ex (.mov) [.s 0]⟩,
          ⟨some 7, none, .ex (.fa 1) [.s 3]⟩,
          ⟨some 8, none, .ex (.ld 1) [.s 7]⟩,
          ⟨some 9, none, .callf 103 [.s 6, .s 8]⟩])))))))),
 []⟩
theorem c78 : compFn Go.Proofs.Tryz.prog 78 = some fn78 := by kernel_rfl

/-- (*rubric/compose.reader).take -/
def fn79 : AFn := ⟨62,
 (.seq
  (.region [⟨some 4, none, .ex (.alloc [(.int .u8 0), (.int .i64 0), .nils, .nils, .nils]) []⟩])
  (.seq
   (.seq
    (.region [⟨some 6, none, .ex (.mov) [.s 0]⟩,
      ⟨some 7, none, .callf 76 [.s 6]⟩])
    (.cond (.s 7)
     (.seq
      (.region [⟨some 8, none, .ex (.mov) [.s 1]⟩,
        ⟨some 9, none, .ex (.build [(.int .u8 0), (.int .i64 0), .nils, .nils, .nils] [(0, 1), (1, 1)]) [.k (.int .u8 1), .s 8]⟩,
        ⟨none, none, .ex (.st 5) [.s 4, .s 9]⟩])
      .ret)
     .skip))
   (.seq
    (.region [⟨some 10, none, .ex (.mov) [.s 0]⟩,
      ⟨some 11, none, .ex (.nilck) [.s 10]⟩,
      ⟨some 12, none, .ex (.fa 0) [.s 11]⟩,
      ⟨some 13, none, .ex (.ld 1) [.s 12]⟩,
      ⟨some 14, none, .ex (.ia 5) [.s 13, .k (.int .i64 0)]⟩,
      ⟨some 15, none, .ex (.lda 5) [.s 14]⟩,
      ⟨some 5, none, .ex (.alloc [(.int .u8 0), (.int .i64 0), .nils, .nils, .nils]) []⟩,
      ⟨none, none, .ex (.st 5) [.s 5, .s 15]⟩])
    (.seq
     (.region [⟨some 16, none, .ex (.mov) [.s 1]⟩,
       ⟨some 17, none, .ex (.mov) [.s 0]⟩,
       ⟨some 18, none, .callf 104 [.s 17]⟩,
       ⟨some 19, none, .ex (.mn) [.s 16, .s 18]⟩,
       ⟨some 1, none, .ex (.mov) [.s 19]⟩])
     (.seq
      (.seq
       (.region [⟨some 20, none, .ex (.fa 0) [.s 5]⟩,
         ⟨some 21, none, .ex (.ld 1) [.s 20]⟩,
         ⟨some 22, none, .ex (.ibin .eql) [.s 21, .k (.int .u8 2)]⟩])
       (.cond (.s 22)
        (.draw (.op ⟨some 23, none, .ex (.fa 2) [.s 5]⟩ (.op ⟨some 24, none, .ex (.ld 1) [.s 23]⟩ (.op ⟨some 25, none, .ex (.mov) [.s 0]⟩ (.op ⟨some 26, none, .ex (.nilck) [.s 25]⟩ (.op ⟨some 27, none, .ex (.fa 1) [.s 26]⟩ (.op ⟨some 28, none, .ex (.ld 1) [.s 27]⟩ (.op ⟨some 29, none, .ex (.mov) [.s 0]⟩ (.op ⟨some 30, none, .ex (.nilck) [.s 29]⟩ (.op ⟨some 31, none, .ex (.fa 1) [.s 30]⟩ (.op ⟨some 32, none, .ex (.ld 1) [.s 31]⟩ (.op ⟨some 33, none, .ex (.mov) [.s 1]⟩ (.op ⟨some 34, none, .ex (.ibin .add) [.s 32, .s 33]⟩ (.op ⟨some 35, none, .ex (.slc 1 true true false) [.s 24, .s 28, .s 34]⟩ (.op ⟨some 36, none, .ex (.fa 2) [.s 5]⟩ (.op ⟨none, none, .ex (.st 1) [.s 36, .s 35]⟩ .done))))))))))))))))
        (.region [⟨some 37, none, .ex (.mov) [.s 1]⟩,
          ⟨some 38, none, .ex (.fa 1) [.s 5]⟩,
          ⟨none, none, .ex (.st 1) [.s 38, .s 37]⟩])))
      (.seq
       (.region [⟨some 39, none, .ex (.mov) [.s 0]⟩,
         ⟨some 40, none, .ex (.nilck) [.s 39]⟩,
         ⟨some 41, none, .ex (.fa 1) [.s 40]⟩,
         ⟨some 42, none, .ex (.ld 1) [.s 41]⟩,
         ⟨some 43, none, .ex (.mov) [.s 1]⟩,
         ⟨some 44, none, .ex (.ibin .add) [.s 42, .s 43]⟩,
         ⟨some 45, none, .ex (.nilck) [.s 39]⟩,
         ⟨some 46, none, .ex (.fa 1) [.s 45]⟩,
         ⟨none, none, .ex (.st 1) [.s 46, .s 44]⟩])
       (.seq
        (.seq
         (.region [⟨some 47, none, .ex (.mov) [.s 0]⟩,
           ⟨some 48, none, .callf 104 [.s 47]⟩,
           ⟨some 49, none, .ex (.ibin .eql) [.s 48, .k (.int .i64 0)]⟩])
         (.cond (.s 49)
          (.region [⟨some 50, none, .ex (.mov) [.s 0]⟩,
            ⟨some 51, none, .ex (.mov) [.s 0]⟩,
            ⟨some 52, none, .ex (.mov) [.s 0]⟩,
            ⟨some 53, none, .ex (.nilck) [.s 52]⟩,
            ⟨some 54, none, .ex (.fa 0) [.s 53]⟩,
            ⟨some 55, none, .ex (.ld 1) [.s 54]⟩,
            ⟨some 56, none, .ex (.slc 5 true false false) [.s 55, .k (.int .i64 1)]⟩,
            ⟨some 57, none, .ex (.nilck) [.s 50]⟩,
            ⟨some 58, none, .ex (.fa 0) [.s 57]⟩,
            ⟨none, none, .ex (.st 1) [.s 58, .s 56]⟩,
            ⟨some 59, none, .ex (.nilck) [.s 51]⟩,
            ⟨some 60, none, .ex (.fa 1) [.s 59]⟩,
            ⟨none, none, .ex (.st 1) [.s 60, .k (.int .i64 0)]⟩])
          .skip))
        (.seq
         (.region [⟨some 61, none, .ex (.lda 5) [.s 5]⟩,
           ⟨none, none, .ex (.st 5) [.s 4, .s 61]⟩])
         .ret)))))))),
 [.ca 4 5]⟩
theorem c79 : compFn Go.Proofs.Tryz.prog 79 = some fn79 := by kernel_rfl

/-- (*rubric/compose.reader).long -/
def fn80 : AFn := ⟨7,
 (.seq
  (.region [⟨some 2, none, .ex (.mov) [.k (.int .i64 0)]⟩])
  (.seq
   (.seq
    (.region [⟨some 3, none, .ex (.mov) [.s 0]⟩,
      ⟨some 4, none, .callf 76 [.s 3]⟩])
    (.cond (.s 4)
     (.seq
      (.region [⟨some 2, none, .ex (.mov) [.k (.int .i64 536870912)]⟩])
      .ret)
     .skip))
   (.seq
    (.region [⟨some 5, none, .ex (.mov) [.s 0]⟩,
      ⟨some 6, none, .callf 104 [.s 5]⟩,
      ⟨some 2, none, .ex (.mov) [.s 6]⟩])
    .ret))),
 [.t 2]⟩
theorem c80 : compFn Go.Proofs.Tryz.prog 80 = some fn80 := by kernel_rfl

/-- rubric/compose.both -/
def fn81 : AFn := ⟨64,
 (.seq
  (.region [⟨some 6, none, .ex (.box) [.s 2]⟩,
    ⟨some 7, none, .ex (.box) [.s 3]⟩])
  (.block 0
   (.seq
    (.region [⟨some 12, none, .ex (.fa 0) [.s 6]⟩,
      ⟨some 13, none, .ex (.ld 1) [.s 12]⟩,
      ⟨some 14, none, .ex (.ibin .eql) [.s 13, .k (.int .u8 1)]⟩,
      ⟨some 15, none, .ex (.mov) [.s 14]⟩,
      ⟨some 16, some (15, true), .ex (.fa 0) [.s 7]⟩,
      ⟨some 17, some (15, true), .ex (.ld 1) [.s 16]⟩,
      ⟨some 18, some (15, true), .ex (.ibin .eql) [.s 17, .k (.int .u8 1)]⟩,
      ⟨some 19, none, .ex (.pick) [.s 15, .s 18, .k (.bool false)]⟩,
      ⟨some 11, none, .ex (.mov) [.s 19]⟩])
    (.cond (.s 11)
     (.draw (.op ⟨some 20, none, .ex (.mov) [.s 1]⟩ (.op ⟨some 21, none, .ex (.fa 1) [.s 7]⟩ (.op ⟨some 23, none, .ex (.fa 4) [.s 6]⟩ (.op ⟨some 24, none, .ex (.ld 1) [.s 23]⟩ (.op ⟨some 25, none, .ex (.fa 4) [.s 7]⟩ (.op ⟨some 26, none, .ex (.ld 1) [.s 25]⟩ (.fork (.op ⟨some 22, none, .ex (.ld 1) [.s 21]⟩ (.op ⟨some 27, none, .callf 105 [.s 24, .s 26]⟩ (.op ⟨some 28, none, .callf 101 [.s 20, .s 22, .s 27]⟩ .done))) (.op ⟨some 27, none, .callf 105 [.s 24, .s 26]⟩ (.op ⟨some 22, none, .ex (.ld 1) [.s 21]⟩ (.op ⟨some 28, none, .callf 101 [.s 20, .s 22, .s 27]⟩ .done)))))))))))
     (.seq
      (.region [⟨some 30, none, .ex (.fa 0) [.s 6]⟩,
        ⟨some 31, none, .ex (.ld 1) [.s 30]⟩,
        ⟨some 32, none, .ex (.ibin .eql) [.s 31, .k (.int .u8 1)]⟩,
        ⟨some 29, none, .ex (.mov) [.s 32]⟩])
      (.cond (.s 29)
       (.region [⟨some 33, none, .ex (.mov) [.s 1]⟩,
         ⟨some 34, none, .ex (.fa 1) [.s 7]⟩,
         ⟨some 35, none, .ex (.ld 1) [.s 34]⟩,
         ⟨some 36, none, .callf 103 [.s 33, .s 35]⟩])
       (.seq
        (.region [⟨some 38, none, .ex (.fa 0) [.s 7]⟩,
          ⟨some 39, none, .ex (.ld 1) [.s 38]⟩,
          ⟨some 40, none, .ex (.ibin .eql) [.s 39, .k (.int .u8 1)]⟩,
          ⟨some 37, none, .ex (.mov) [.s 40]⟩])
        (.cond (.s 37)
         (.seq
          (.region [⟨some 41, none, .ex (.fa 2) [.s 6]⟩,
            ⟨some 42, none, .ex (.ld 1) [.s 41]⟩,
            ⟨some 43, none, .ex (.len) [.s 42]⟩,
            ⟨some 44, none, .ex (.mov) [.k (.int .i64 0)]⟩])
          (.block 1
           (.loop
            (.seq
             (.region [⟨some 45, none, .ex (.ibin .lss) [.s 44, .s 43]⟩])
             (.seq
              (.cond (.s 45)
               .skip
               (.exit 1))
              (.seq
               (.block 2
                (.seq
                 (.region [⟨some 46, none, .ex (.ia 1) [.s 42, .s 44]⟩,
                   ⟨some 47, none, .ex (.ld 1) [.s 46]⟩,
                   ⟨some 9, none, .ex (.mov) [.s 47]⟩])
                 (.seq
                  (.region [⟨some 48, none, .ex (.mov) [.s 0]⟩,
                    ⟨some 49, none, .ex (.mov) [.s 9]⟩,
                    ⟨some 50, none, .ex (.fa 3) [.s 6]⟩,
                    ⟨some 51, none, .ex (.ld 1) [.s 50]⟩,
                    ⟨some 52, none, .ex (.build [(.int .i32 0), .nils] [(0, 1), (1, 1)]) [.s 49, .s 51]⟩,
                    ⟨some 53, none, .ex (.fa 4) [.s 7]⟩,
                    ⟨some 54, none, .ex (.ld 1) [.s 53]⟩,
                    ⟨some 55, none, .callf 106 [.s 48, .s 52, .s 54]⟩,
                    ⟨some 10, none, .ex (.alloc [(.int .i32 0), .nils]) []⟩,
                    ⟨none, none, .ex (.st 2) [.s 10, .s 55]⟩])
                  (.region [⟨some 56, none, .ex (.mov) [.s 1]⟩,
                    ⟨some 57, none, .ex (.fa 0) [.s 10]⟩,
                    ⟨some 58, none, .ex (.ld 1) [.s 57]⟩,
                    ⟨some 59, none, .ex (.bsl 1 1 [(.int .i32 0)] [(0, 1)]) [.s 58]⟩,
                    ⟨some 60, none, .ex (.fa 1) [.s 10]⟩,
                    ⟨some 61, none, .ex (.ld 1) [.s 60]⟩,
                    ⟨some 62, none, .callf 102 [.s 56, .s 59, .s 61]⟩]))))
               (.region [⟨some 63, none, .ex (.ibin .add) [.s 44, .k (.int .i64 1)]⟩,
                 ⟨some 44, none, .ex (.mov) [.s 63]⟩])))))))
         .skip)))))))),
 []⟩
theorem c81 : compFn Go.Proofs.Tryz.prog 81 = some fn81 := by kernel_rfl

/-- (*rubric/normal.Maker).Ops -/
def fn82 : AFn := ⟨42,
 (.seq
  (.region [⟨some 2, none, .ex (.mov) [.k .nils]⟩])
  (.seq
   (.seq
    (.region [⟨some 5, none, .ex (.mov) [.s 0]⟩,
      ⟨some 6, none, .ex (.eqnil 0 false) [.s 5, .k .nilp]⟩])
    (.cond (.s 6)
     (.seq
      (.region [⟨some 2, none, .ex (.mov) [.k .nils]⟩])
      .ret)
     .skip))
   (.seq
    (.draw (.op ⟨some 7, none, .ex (.mov) [.s 0]⟩ (.op ⟨some 8, none, .ex (.nilck) [.s 7]⟩ (.op ⟨some 9, none, .ex (.fa 0) [.s 8]⟩ (.op ⟨some 11, none, .ex (.mov) [.s 0]⟩ (.fork (.op ⟨some 10, none, .ex (.ld 1) [.s 9]⟩ (.op ⟨some 12, none, .callf 108 [.s 11]⟩ (.op ⟨some 13, none, .ex (.bsl 1 2 [.nils, .nils] [(0, 1), (1, 1)]) [.s 10, .s 12]⟩ (.op ⟨some 14, none, .callf 107 [.s 13]⟩ (.op ⟨some 3, none, .ex (.mov) [.s 14]⟩ .done))))) (.op ⟨some 12, none, .callf 108 [.s 11]⟩ (.op ⟨some 10, none, .ex (.ld 1) [.s 9]⟩ (.op ⟨some 13, none, .ex (.bsl 1 2 [.nils, .nils] [(0, 1), (1, 1)]) [.s 10, .s 12]⟩ (.op ⟨some 14, none, .callf 107 [.s 13]⟩ (.op ⟨some 3, none, .ex (.mov) [.s 14]⟩ .done)))))))))))
    (.seq
     (.seq
      (.region [⟨some 15, none, .ex (.mov) [.s 3]⟩,
        ⟨some 16, none, .ex (.len) [.s 15]⟩,
        ⟨some 17, none, .ex (.ibin .sub) [.s 16, .k (.int .i64 1)]⟩,
        ⟨some 4, none, .ex (.mov) [.s 17]⟩])
      (.seq
       (.region [⟨some 18, none, .ex (.mov) [.s 4]⟩,
         ⟨some 19, none, .ex (.ibin .geq) [.s 18, .k (.int .i64 0)]⟩,
         ⟨some 20, none, .ex (.mov) [.s 19]⟩,
         ⟨some 21, some (20, true), .ex (.mov) [.s 3]⟩,
         ⟨some 22, some (20, true), .ex (.mov) [.s 4]⟩,
         ⟨some 23, some (20, true), .ex (.ia 5) [.s 21, .s 22]⟩,
         ⟨some 24, some (20, true), .ex (.fa 0) [.s 23]⟩,
         ⟨some 25, some (20, true), .ex (.ld 1) [.s 24]⟩,
         ⟨some 26, some (20, true), .ex (.ibin .eql) [.s 25, .k (.int .u8 1)]⟩,
         ⟨some 27, none, .ex (.pick) [.s 20, .s 26, .k (.bool false)]⟩,
         ⟨some 28, none, .ex (.mov) [.s 27]⟩,
         ⟨some 29, some (28, true), .ex (.mov) [.s 3]⟩,
         ⟨some 30, some (28, true), .ex (.mov) [.s 4]⟩,
         ⟨some 31, some (28, true), .ex (.ia 5) [.s 29, .s 30]⟩,
         ⟨some 32, some (28, true), .ex (.fa 4) [.s 31]⟩,
         ⟨some 33, some (28, true), .ex (.ld 1) [.s 32]⟩,
         ⟨some 34, some (28, true), .ex (.len) [.s 33]⟩,
         ⟨some 35, some (28, true), .ex (.ibin .eql) [.s 34, .k (.int .i64 0)]⟩,
         ⟨some 36, none, .ex (.pick) [.s 28, .s 35, .k (.bool false)]⟩])
       (.cond (.s 36)
        (.region [⟨some 37, none, .ex (.mov) [.s 3]⟩,
          ⟨some 38, none, .ex (.mov) [.s 4]⟩,
          ⟨some 39, none, .ex (.slc 5 false true false) [.s 37, .s 38]⟩,
          ⟨some 3, none, .ex (.mov) [.s 39]⟩])
        .skip)))
     (.seq
      (.region [⟨some 40, none, .ex (.mov) [.s 3]⟩,
        ⟨some 41, none, .callf 37 [.s 40]⟩,
        ⟨some 2, none, .ex (.mov) [.s 41]⟩])
      .ret))))),
 [.t 2]⟩
theorem c82 : compFn Go.Proofs.Tryz.prog 82 = some fn82 := by kernel_rfl

/-- rubric/ops.Takes -/
def fn83 : AFn := ⟨21,
 (.seq
  (.region [⟨some 2, none, .ex (.mov) [.k (.int .i64 0)]⟩])
  (.seq
   (.region [⟨some 3, none, .ex (.mov) [.k (.int .i64 0)]⟩])
   (.seq
    (.seq
     (.region [⟨some 6, none, .ex (.mov) [.s 0]⟩,
       ⟨some 7, none, .ex (.len) [.s 6]⟩,
       ⟨some 8, none, .ex (.mov) [.k (.int .i64 0)]⟩])
     (.block 0
      (.loop
       (.seq
        (.region [⟨some 9, none, .ex (.ibin .lss) [.s 8, .s 7]⟩])
        (.seq
         (.cond (.s 9)
          .skip
          (.exit 0))
         (.seq
          (.block 1
           (.seq
            (.region [⟨some 10, none, .ex (.ia 5) [.s 6, .s 8]⟩,
              ⟨some 11, none, .ex (.lda 5) [.s 10]⟩,
              ⟨some 5, none, .ex (.alloc [(.int .u8 0), (.int .i64 0), .nils, .nils, .nils]) []⟩,
              ⟨none, none, .ex (.st 5) [.s 5, .s 11]⟩])
            (.seq
             (.region [⟨some 12, none, .ex (.fa 0) [.s 5]⟩,
               ⟨some 13, none, .ex (.ld 1) [.s 12]⟩,
               ⟨some 14, none, .ex (.ibin .neq) [.s 13, .k (.int .u8 2)]⟩])
             (.cond (.s 14)
              (.region [⟨some 15, none, .ex (.mov) [.s 3]⟩,
                ⟨some 16, none, .ex (.fa 1) [.s 5]⟩,
                ⟨some 17, none, .ex (.ld 1) [.s 16]⟩,
                ⟨some 18, none, .ex (.ibin .add) [.s 15, .s 17]⟩,
                ⟨some 3, none, .ex (.mov) [.s 18]⟩])
              .skip))))
          (.region [⟨some 19, none, .ex (.ibin .add) [.s 8, .k (.int .i64 1)]⟩,
            ⟨some 8, none, .ex (.mov) [.s 19]⟩])))))))
    (.seq
     (.region [⟨some 20, none, .ex (.mov) [.s 3]⟩,
       ⟨some 2, none, .ex (.mov) [.s 20]⟩])
     .ret)))),
 [.t 2]⟩
theorem c83 : compFn Go.Proofs.Tryz.prog 83 = some fn83 := by kernel_rfl

/-- rubric/ops.Makes -/
def fn84 : AFn := ⟨21,
 (.seq
  (.region [⟨some 2, none, .ex (.mov) [.k (.int .i64 0)]⟩])
  (.seq
   (.region [⟨some 3, none, .ex (.mov) [.k (.int .i64 0)]⟩])
   (.seq
    (.seq
     (.region [⟨some 6, none, .ex (.mov) [.s 0]⟩,
       ⟨some 7, none, .ex (.len) [.s 6]⟩,
       ⟨some 8, none, .ex (.mov) [.k (.int .i64 0)]⟩])
     (.block 0
      (.loop
       (.seq
        (.region [⟨some 9, none, .ex (.ibin .lss) [.s 8, .s 7]⟩])
        (.seq
         (.cond (.s 9)
          .skip
          (.exit 0))
         (.seq
          (.block 1
           (.seq
            (.region [⟨some 10, none, .ex (.ia 5) [.s 6, .s 8]⟩,
              ⟨some 11, none, .ex (.lda 5) [.s 10]⟩,
              ⟨some 5, none, .ex (.alloc [(.int .u8 0), (.int .i64 0), .nils, .nils, .nils]) []⟩,
              ⟨none, none, .ex (.st 5) [.s 5, .s 11]⟩])
            (.seq
             (.region [⟨some 12, none, .ex (.fa 0) [.s 5]⟩,
               ⟨some 13, none, .ex (.ld 1) [.s 12]⟩,
               ⟨some 14, none, .ex (.ibin .neq) [.s 13, .k (.int .u8 3)]⟩])
             (.cond (.s 14)
              (.region [⟨some 15, none, .ex (.mov) [.s 3]⟩,
                ⟨some 16, none, .ex (.lda 5) [.s 5]⟩,
                ⟨some 17, none, .callf 109 [.s 16]⟩,
                ⟨some 18, none, .ex (.ibin .add) [.s 15, .s 17]⟩,
                ⟨some 3, none, .ex (.mov) [.s 18]⟩])
              .skip))))
          (.region [⟨some 19, none, .ex (.ibin .add) [.s 8, .k (.int .i64 1)]⟩,
            ⟨some 8, none, .ex (.mov) [.s 19]⟩])))))))
    (.seq
     (.region [⟨some 20, none, .ex (.mov) [.s 3]⟩,
       ⟨some 2, none, .ex (.mov) [.s 20]⟩])
     .ret)))),
 [.t 2]⟩
theorem c84 : compFn Go.Proofs.Tryz.prog 84 = some fn84 := by kernel_rfl

/-- rubric/ops.May -/
def fn100 : AFn := ⟨36,
 (.seq
  (.region [⟨some 4, none, .ex (.mov) [.k (.int .i64 0)]⟩])
  (.seq
   (.region [⟨some 5, none, .ex (.mov) [.k (.int .i64 0)]⟩])
   (.seq
    (.seq
     (.region [⟨some 9, none, .ex (.mov) [.s 1]⟩,
       ⟨some 10, none, .ex (.len) [.s 9]⟩,
       ⟨some 11, none, .ex (.mov) [.k (.int .i64 0)]⟩])
     (.block 0
      (.loop
       (.seq
        (.region [⟨some 12, none, .ex (.ibin .lss) [.s 11, .s 10]⟩])
        (.seq
         (.cond (.s 12)
          .skip
          (.exit 0))
         (.seq
          (.block 1
           (.seq
            (.region [⟨some 13, none, .ex (.ia 5) [.s 9, .s 11]⟩,
              ⟨some 14, none, .ex (.lda 5) [.s 13]⟩,
              ⟨some 7, none, .ex (.alloc [(.int .u8 0), (.int .i64 0), .nils, .nils, .nils]) []⟩,
              ⟨none, none, .ex (.st 5) [.s 7, .s 14]⟩])
            (.seq
             (.region [⟨some 15, none, .ex (.mov) [.s 0]⟩,
               ⟨some 16, none, .ex (.lda 5) [.s 7]⟩,
               ⟨some 17, none, .callf 119 [.s 15, .s 16]⟩,
               ⟨some 8, none, .ex (.mov) [.s 17]⟩])
             (.block 2
              (.seq
               (.region [⟨some 19, none, .ex (.mov) [.s 8]⟩,
                 ⟨some 20, none, .ex (.ibin .eql) [.s 19, .k (.int .i64 3)]⟩,
                 ⟨some 18, none, .ex (.mov) [.s 20]⟩])
               (.cond (.s 18)
                (.seq
                 (.region [⟨some 21, none, .ex (.mov) [.s 8]⟩,
                   ⟨some 4, none, .ex (.mov) [.s 21]⟩])
                 .ret)
                (.seq
                 (.region [⟨some 23, none, .ex (.mov) [.s 8]⟩,
                   ⟨some 24, none, .ex (.ibin .neq) [.s 23, .k (.int .i64 0)]⟩,
                   ⟨some 22, none, .ex (.mov) [.s 24]⟩])
                 (.cond (.s 22)
                  (.region [⟨some 25, none, .ex (.mov) [.s 8]⟩,
                    ⟨some 5, none, .ex (.mov) [.s 25]⟩])
                  .skip))))))))
          (.region [⟨some 26, none, .ex (.ibin .add) [.s 11, .k (.int .i64 1)]⟩,
            ⟨some 11, none, .ex (.mov) [.s 26]⟩])))))))
    (.seq
     (.seq
      (.region [⟨some 27, none, .ex (.mov) [.s 1]⟩,
        ⟨some 28, none, .callf 83 [.s 27]⟩,
        ⟨some 29, none, .ex (.ibin .gtr) [.s 28, .k (.int .i64 536870912)]⟩,
        ⟨some 30, none, .ex (.mov) [.s 29]⟩,
        ⟨some 31, some (30, false), .ex (.mov) [.s 1]⟩,
        ⟨some 32, some (30, false), .callf 84 [.s 31]⟩,
        ⟨some 33, some (30, false), .ex (.ibin .gtr) [.s 32, .k (.int .i64 536870912)]⟩,
        ⟨some 34, none, .ex (.pick) [.s 30, .k (.bool true), .s 33]⟩])
      (.cond (.s 34)
       (.seq
        (.region [⟨some 4, none, .ex (.mov) [.k (.int .i64 3)]⟩])
        .ret)
       .skip))
     (.seq
      (.region [⟨some 35, none, .ex (.mov) [.s 5]⟩,
        ⟨some 4, none, .ex (.mov) [.s 35]⟩])
      .ret))))),
 [.t 4]⟩
theorem c100 : compFn Go.Proofs.Tryz.prog 100 = some fn100 := by kernel_rfl

/-- (*rubric/normal.Maker).Retain -/
def fn101 : AFn := ⟨85,
 (.seq
  (.seq
   (.region [⟨some 7, none, .ex (.mov) [.s 0]⟩,
     ⟨some 8, none, .ex (.eqnil 0 false) [.s 7, .k .nilp]⟩,
     ⟨some 9, none, .ex (.mov) [.s 8]⟩,
     ⟨some 10, some (9, false), .ex (.mov) [.s 1]⟩,
     ⟨some 11, some (9, false), .ex (.ibin .lss) [.s 10, .k (.int .i64 1)]⟩,
     ⟨some 12, none, .ex (.pick) [.s 9, .k (.bool true), .s 11]⟩])
   (.cond (.s 12)
    .ret
    .skip))
  (.seq
   (.draw (.op ⟨some 13, none, .ex (.mov) [.s 0]⟩ (.op ⟨some 14, none, .ex (.mov) [.s 0]⟩ (.op ⟨some 15, none, .ex (.nilck) [.s 14]⟩ (.op ⟨some 16, none, .ex (.fa 0) [.s 15]⟩ (.op ⟨some 18, none, .ex (.mov) [.s 0]⟩ (.fork (.op ⟨some 17, none, .ex (.ld 1) [.s 16]⟩ (.op ⟨some 19, none, .callf 108 [.s 18]⟩ (.op ⟨some 20, none, .ex (.app 5 88) [.s 17, .s 19]⟩ (.op ⟨some 21, none, .ex (.nilck) [.s 13]⟩ (.op ⟨some 22, none, .ex (.fa 0) [.s 21]⟩ (.op ⟨none, none, .ex (.st 1) [.s 22, .s 20]⟩ .done)))))) (.op ⟨some 19, none, .callf 108 [.s 18]⟩ (.op ⟨some 17, none, .ex (.ld 1) [.s 16]⟩ (.op ⟨some 20, none, .ex (.app 5 88) [.s 17, .s 19]⟩ (.op ⟨some 21, none, .ex (.nilck) [.s 13]⟩ (.op ⟨some 22, none, .ex (.fa 0) [.s 21]⟩ (.op ⟨none, none, .ex (.st 1) [.s 22, .s 20]⟩ .done)))))))))))))
   (.seq
    (.region [⟨some 23, none, .ex (.mov) [.s 0]⟩,
      ⟨some 24, none, .ex (.mov) [.s 0]⟩,
      ⟨some 25, none, .ex (.nilck) [.s 23]⟩,
      ⟨some 26, none, .ex (.fa 1) [.s 25]⟩,
      ⟨none, none, .ex (.st 1) [.s 26, .k .nils]⟩,
      ⟨some 27, none, .ex (.nilck) [.s 24]⟩,
      ⟨some 28, none, .ex (.fa 2) [.s 27]⟩,
      ⟨none, none, .ex (.st 1) [.s 28, .k (.int .i64 0)]⟩])
    (.seq
     (.region [⟨some 29, none, .ex (.mov) [.s 0]⟩,
       ⟨some 30, none, .ex (.nilck) [.s 29]⟩,
       ⟨some 31, none, .ex (.fa 0) [.s 30]⟩,
       ⟨some 32, none, .ex (.ld 1) [.s 31]⟩,
       ⟨some 33, none, .ex (.len) [.s 32]⟩,
       ⟨some 34, none, .ex (.ibin .sub) [.s 33, .k (.int .i64 1)]⟩,
       ⟨some 6, none, .ex (.mov) [.s 34]⟩])
     (.seq
      (.seq
       (.region [⟨some 35, none, .ex (.mov) [.s 6]⟩,
         ⟨some 36, none, .ex (.ibin .geq) [.s 35, .k (.int .i64 0)]⟩,
         ⟨some 37, none, .ex (.mov) [.s 36]⟩,
         ⟨some 38, some (37, true), .ex (.mov) [.s 0]⟩,
         ⟨some 39, some (37, true), .ex (.nilck) [.s 38]⟩,
         ⟨some 40, some (37, true), .ex (.fa 0) [.s 39]⟩,
         ⟨some 41, some (37, true), .ex (.ld 1) [.s 40]⟩,
         ⟨some 42, some (37, true), .ex (.mov) [.s 6]⟩,
         ⟨some 43, some (37, true), .ex (.ia 5) [.s 41, .s 42]⟩,
         ⟨some 44, some (37, true), .ex (.fa 0) [.s 43]⟩,
         ⟨some 45, some (37, true), .ex (.ld 1) [.s 44]⟩,
         ⟨some 46, some (37, true), .ex (.ibin .eql) [.s 45, .k (.int .u8 1)]⟩,
         ⟨some 47, none, .ex (.pick) [.s 37, .s 46, .k (.bool false)]⟩,
         ⟨some 48, none, .ex (.mov) [.s 47]⟩,
         ⟨some 49, some (48, true), .ex (.mov) [.s 0]⟩,
         ⟨some 50, some (48, true), .ex (.nilck) [.s 49]⟩,
         ⟨some 51, some (48, true), .ex (.fa 0) [.s 50]⟩,
         ⟨some 52, some (48, true), .ex (.ld 1) [.s 51]⟩,
         ⟨some 53, some (48, true), .ex (.mov) [.s 6]⟩,
         ⟨some 54, some (48, true), .ex (.ia 5) [.s 52, .s 53]⟩,
         ⟨some 55, some (48, true), .ex (.fa 4) [.s 54]⟩,
         ⟨some 56, some (48, true), .ex (.ld 1) [.s 55]⟩,
         ⟨some 57, some (48, true), .ex (.mov) [.s 2]⟩,
         ⟨some 58, some (48, true), .callf 120 [.s 56, .s 57]⟩,
         ⟨some 59, none, .ex (.pick) [.s 48, .s 58, .k (.bool false)]⟩])
       (.cond (.s 59)
        (.seq
         (.region [⟨some 60, none, .ex (.mov) [.s 0]⟩,
           ⟨some 61, none, .ex (.nilck) [.s 60]⟩,
           ⟨some 62, none, .ex (.fa 0) [.s 61]⟩,
           ⟨some 63, none, .ex (.ld 1) [.s 62]⟩,
           ⟨some 64, none, .ex (.mov) [.s 6]⟩,
           ⟨some 65, none, .ex (.ia 5) [.s 63, .s 64]⟩,
           ⟨some 66, none, .ex (.fa 1) [.s 65]⟩,
           ⟨some 67, none, .ex (.ld 1) [.s 66]⟩,
           ⟨some 68, none, .ex (.mov) [.s 1]⟩,
           ⟨some 69, none, .ex (.ibin .add) [.s 67, .s 68]⟩,
           ⟨some 70, none, .ex (.ia 5) [.s 63, .s 64]⟩,
           ⟨some 71, none, .ex (.fa 1) [.s 70]⟩,
           ⟨none, none, .ex (.st 1) [.s 71, .s 69]⟩])
         .ret)
        .skip))
      (.draw (.op ⟨some 72, none, .ex (.mov) [.s 0]⟩ (.op ⟨some 73, none, .ex (.mov) [.s 0]⟩ (.op ⟨some 74, none, .ex (.nilck) [.s 73]⟩ (.op ⟨some 75, none, .ex (.fa 0) [.s 74]⟩ (.op ⟨some 77, none, .ex (.mov) [.s 1]⟩ (.op ⟨some 78, none, .ex (.mov) [.s 2]⟩ (.fork (.op ⟨some 76, none, .ex (.ld 1) [.s 75]⟩ (.op ⟨some 79, none, .callf 53 [.s 78]⟩ (.op ⟨some 80, none, .ex (.build [(.int .u8 0), (.int .i64 0), .nils, .nils, .nils] [(0, 1), (1, 1), (4, 1)]) [.k (.int .u8 1), .s 77, .s 79]⟩ (.op ⟨some 81, none, .ex (.bsl 5 1 [(.int .u8 0), (.int .i64 0), .nils, .nils, .nils] [(0, 5)]) [.s 80]⟩ (.op ⟨some 82, none, .ex (.app 5 88) [.s 76, .s 81]⟩ (.op ⟨some 83, none, .ex (.nilck) [.s 72]⟩ (.op ⟨some 84, none, .ex (.fa 0) [.s 83]⟩ (.op ⟨none, none, .ex (.st 1) [.s 84, .s 82]⟩ .done)))))))) (.op ⟨some 79, none, .callf 53 [.s 78]⟩ (.op ⟨some 76, none, .ex (.ld 1) [.s 75]⟩ (.op ⟨some 80, none, .ex (.build [(.int .u8 0), (.int .i64 0), .nils, .nils, .nils] [(0, 1), (1, 1), (4, 1)]) [.k (.int .u8 1), .s 77, .s 79]⟩ (.op ⟨some 81, none, .ex (.bsl 5 1 [(.int .u8 0), (.int .i64 0), .nils, .nils, .nils] [(0, 5)]) [.s 80]⟩ (.op ⟨some 82, none, .ex (.app 5 88) [.s 76, .s 81]⟩ (.op ⟨some 83, none, .ex (.nilck) [.s 72]⟩ (.op ⟨some 84, none, .ex (.fa 0) [.s 83]⟩ (.op ⟨none, none, .ex (.st 1) [.s 84, .s 82]⟩ .done))))))))))))))))))))),
 []⟩
theorem c101 : compFn Go.Proofs.Tryz.prog 101 = some fn101 := by kernel_rfl

/-- (*rubric/normal.Maker).Insert -/
def fn102 : AFn := ⟨65,
 (.seq
  (.seq
   (.region [⟨some 7, none, .ex (.mov) [.s 0]⟩,
     ⟨some 8, none, .ex (.eqnil 0 false) [.s 7, .k .nilp]⟩,
     ⟨some 9, none, .ex (.mov) [.s 8]⟩,
     ⟨some 10, some (9, false), .ex (.mov) [.s 1]⟩,
     ⟨some 11, some (9, false), .ex (.len) [.s 10]⟩,
     ⟨some 12, some (9, false), .ex (.ibin .eql) [.s 11, .k (.int .i64 0)]⟩,
     ⟨some 13, none, .ex (.pick) [.s 9, .k (.bool true), .s 12]⟩])
   (.cond (.s 13)
    .ret
    .skip))
  (.seq
   (.region [⟨some 14, none, .ex (.mov) [.s 0]⟩,
     ⟨some 15, none, .ex (.nilck) [.s 14]⟩,
     ⟨some 16, none, .ex (.fa 1) [.s 15]⟩,
     ⟨some 17, none, .ex (.ld 1) [.s 16]⟩,
     ⟨some 18, none, .ex (.len) [.s 17]⟩,
     ⟨some 19, none, .ex (.ibin .sub) [.s 18, .k (.int .i64 1)]⟩,
     ⟨some 6, none, .ex (.mov) [.s 19]⟩])
   (.seq
    (.seq
     (.region [⟨some 20, none, .ex (.mov) [.s 6]⟩,
       ⟨some 21, none, .ex (.ibin .geq) [.s 20, .k (.int .i64 0)]⟩,
       ⟨some 22, none, .ex (.mov) [.s 21]⟩,
       ⟨some 23, some (22, true), .ex (.mov) [.s 0]⟩,
       ⟨some 24, some (22, true), .ex (.nilck) [.s 23]⟩,
       ⟨some 25, some (22, true), .ex (.fa 1) [.s 24]⟩,
       ⟨some 26, some (22, true), .ex (.ld 1) [.s 25]⟩,
       ⟨some 27, some (22, true), .ex (.mov) [.s 6]⟩,
       ⟨some 28, some (22, true), .ex (.ia 5) [.s 26, .s 27]⟩,
       ⟨some 29, some (22, true), .ex (.fa 3) [.s 28]⟩,
       ⟨some 30, some (22, true), .ex (.ld 1) [.s 29]⟩,
       ⟨some 31, some (22, true), .ex (.mov) [.s 2]⟩,
       ⟨some 32, some (22, true), .callf 121 [.s 30, .s 31]⟩,
       ⟨some 33, none, .ex (.pick) [.s 22, .s 32, .k (.bool false)]⟩])
     (.cond (.s 33)
      (.seq
       (.draw (.op ⟨some 34, none, .ex (.mov) [.s 0]⟩ (.op ⟨some 35, none, .ex (.nilck) [.s 34]⟩ (.op ⟨some 36, none, .ex (.fa 1) [.s 35]⟩ (.op ⟨some 38, none, .ex (.mov) [.s 6]⟩ (.op ⟨some 39, none, .ex (.mov) [.s 0]⟩ (.op ⟨some 40, none, .ex (.nilck) [.s 39]⟩ (.op ⟨some 41, none, .ex (.fa 1) [.s 40]⟩ (.op ⟨some 42, none, .ex (.ld 1) [.s 41]⟩ (.op ⟨some 43, none, .ex (.mov) [.s 6]⟩ (.op ⟨some 44, none, .ex (.ia 5) [.s 42, .s 43]⟩ (.op ⟨some 45, none, .ex (.fa 2) [.s 44]⟩ (.op ⟨some 46, none, .ex (.ld 1) [.s 45]⟩ (.op ⟨some 47, none, .ex (.mov) [.s 1]⟩ (.fork (.op ⟨some 37, none, .ex (.ld 1) [.s 36]⟩ (.op ⟨some 48, none, .ex (.app 1 4) [.s 46, .s 47]⟩ (.op ⟨some 49, none, .ex (.ia 5) [.s 37, .s 38]⟩ (.op ⟨some 50, none, .ex (.fa 2) [.s 49]⟩ (.op ⟨none, none, .ex (.st 1) [.s 50, .s 48]⟩ .done))))) (.op ⟨some 48, none, .ex (.app 1 4) [.s 46, .s 47]⟩ (.op ⟨some 37, none, .ex (.ld 1) [.s 36]⟩ (.op ⟨some 49, none, .ex (.ia 5) [.s 37, .s 38]⟩ (.op ⟨some 50, none, .ex (.fa 2) [.s 49]⟩ (.op ⟨none, none, .ex (.st 1) [.s 50, .s 48]⟩ .done))))))))))))))))))))
       .ret)
      .skip))
    (.draw (.op ⟨some 51, none, .ex (.mov) [.s 0]⟩ (.op ⟨some 52, none, .ex (.mov) [.s 0]⟩ (.op ⟨some 53, none, .ex (.nilck) [.s 52]⟩ (.op ⟨some 54, none, .ex (.fa 1) [.s 53]⟩ (.op ⟨some 56, none, .ex (.mov) [.s 1]⟩ (.op ⟨some 58, none, .ex (.mov) [.s 2]⟩ (.fork (.op ⟨some 55, none, .ex (.ld 1) [.s 54]⟩ (.op ⟨some 57, none, .callf 51 [.s 56]⟩ (.op ⟨some 59, none, .callf 52 [.s 58]⟩ (.op ⟨some 60, none, .ex (.build [(.int .u8 0), (.int .i64 0), .nils, .nils, .nils] [(0, 1), (2, 1), (3, 1)]) [.k (.int .u8 2), .s 57, .s 59]⟩ (.op ⟨some 61, none, .ex (.bsl 5 1 [(.int .u8 0), (.int .i64 0), .nils, .nils, .nils] [(0, 5)]) [.s 60]⟩ (.op ⟨some 62, none, .ex (.app 5 88) [.s 55, .s 61]⟩ (.op ⟨some 63, none, .ex (.nilck) [.s 51]⟩ (.op ⟨some 64, none, .ex (.fa 1) [.s 63]⟩ (.op ⟨none, none, .ex (.st 1) [.s 64, .s 62]⟩ .done))))))))) (.op ⟨some 57, none, .callf 51 [.s 56]⟩ (.fork (.op ⟨some 55, none, .ex (.ld 1) [.s 54]⟩ (.op ⟨some 59, none, .callf 52 [.s 58]⟩ (.op ⟨some 60, none, .ex (.build [(.int .u8 0), (.int .i64 0), .nils, .nils, .nils] [(0, 1), (2, 1), (3, 1)]) [.k (.int .u8 2), .s 57, .s 59]⟩ (.op ⟨some 61, none, .ex (.bsl 5 1 [(.int .u8 0), (.int .i64 0), .nils, .nils, .nils] [(0, 5)]) [.s 60]⟩ (.op ⟨some 62, none, .ex (.app 5 88) [.s 55, .s 61]⟩ (.op ⟨some 63, none, .ex (.nilck) [.s 51]⟩ (.op ⟨some 64, none, .ex (.fa 1) [.s 63]⟩ (.op ⟨none, none, .ex (.st 1) [.s 64, .s 62]⟩ .done)))))))) (.op ⟨some 59, none, .callf 52 [.s 58]⟩ (.op ⟨some 55, none, .ex (.ld 1) [.s 54]⟩ (.op ⟨some 60, none, .ex (.build [(.int .u8 0), (.int .i64 0), .nils, .nils, .nils] [(0, 1), (2, 1), (3, 1)]) [.k (.int .u8 2), .s 57, .s 59]⟩ (.op ⟨some 61, none, .ex (.bsl 5 1 [(.int .u8 0), (.int .i64 0), .nils, .nils, .nils] [(0, 5)]) [.s 60]⟩ (.op ⟨some 62, none, .ex (.app 5 88) [.s 55, .s 61]⟩ (.op ⟨some 63, none, .ex (.nilck) [.s 51]⟩ (.op ⟨some 64, none, .ex (.fa 1) [.s 63]⟩ (.op ⟨none, none, .ex (.st 1) [.s 64, .s 62]⟩ .done))))))))))))))))))))),
 []⟩
theorem c102 : compFn Go.Proofs.Tryz.prog 102 = some fn102 := by kernel_rfl

/-- (*rubric/normal.Maker).Delete -/
def fn103 : AFn := ⟨15,
 (.seq
  (.region [⟨some 4, none, .ex (.mov) [.s 0]⟩,
    ⟨some 5, none, .ex (.eqnil 0 true) [.s 4, .k .nilp]⟩])
  (.cond (.s 5)
   (.region [⟨some 6, none, .ex (.mov) [.s 0]⟩,
     ⟨some 7, none, .ex (.nilck) [.s 6]⟩,
     ⟨some 8, none, .ex (.fa 2) [.s 7]⟩,
     ⟨some 9, none, .ex (.ld 1) [.s 8]⟩,
     ⟨some 10, none, .ex (.mov) [.s 1]⟩,
     ⟨some 11, none, .ex (.mx) [.s 10, .k (.int .i64 0)]⟩,
     ⟨some 12, none, .ex (.ibin .add) [.s 9, .s 11]⟩,
     ⟨some 13, none, .ex (.nilck) [.s 6]⟩,
     ⟨some 14, none, .ex (.fa 2) [.s 13]⟩,
     ⟨none, none, .ex (.st 1) [.s 14, .s 12]⟩])
   .skip)),
 []⟩
theorem c103 : compFn Go.Proofs.Tryz.prog 103 = some fn103 := by kernel_rfl

/-- (*rubric/compose.reader).left -/
def fn104 : AFn := ⟨36,
 (.seq
  (.region [⟨some 2, none, .ex (.mov) [.k (.int .i64 0)]⟩])
  (.seq
   (.seq
    (.region [⟨some 3, none, .ex (.mov) [.s 0]⟩,
      ⟨some 4, none, .ex (.nilck) [.s 3]⟩,
      ⟨some 5, none, .ex (.fa 0) [.s 4]⟩,
      ⟨some 6, none, .ex (.ld 1) [.s 5]⟩,
      ⟨some 7, none, .ex (.ia 5) [.s 6, .k (.int .i64 0)]⟩,
      ⟨some 8, none, .ex (.fa 0) [.s 7]⟩,
      ⟨some 9, none, .ex (.ld 1) [.s 8]⟩,
      ⟨some 10, none, .ex (.ibin .eql) [.s 9, .k (.int .u8 2)]⟩])
    (.cond (.s 10)
     (.seq
      (.draw (.op ⟨some 11, none, .ex (.mov) [.s 0]⟩ (.op ⟨some 12, none, .ex (.nilck) [.s 11]⟩ (.op ⟨some 13, none, .ex (.fa 0) [.s 12]⟩ (.op ⟨some 14, none, .ex (.ld 1) [.s 13]⟩ (.op ⟨some 15, none, .ex (.ia 5) [.s 14, .k (.int .i64 0)]⟩ (.op ⟨some 16, none, .ex (.fa 2) [.s 15]⟩ (.op ⟨some 17, none, .ex (.ld 1) [.s 16]⟩ (.op ⟨some 18, none, .ex (.len) [.s 17]⟩ (.op ⟨some 19, none, .ex (.mov) [.s 0]⟩ (.op ⟨some 20, none, .ex (.nilck) [.s 19]⟩ (.op ⟨some 21, none, .ex (.fa 1) [.s 20]⟩ (.op ⟨some 22, none, .ex (.ld 1) [.s 21]⟩ (.op ⟨some 23, none, .ex (.ibin .sub) [.s 18, .s 22]⟩ (.op ⟨some 2, none, .ex (.mov) [.s 23]⟩ .done)))))))))))))))
      .ret)
     .skip))
   (.seq
    (.draw (.op ⟨some 24, none, .ex (.mov) [.s 0]⟩ (.op ⟨some 25, none, .ex (.nilck) [.s 24]⟩ (.op ⟨some 26, none, .ex (.fa 0) [.s 25]⟩ (.op ⟨some 27, none, .ex (.ld 1) [.s 26]⟩ (.op ⟨some 28, none, .ex (.ia 5) [.s 27, .k (.int .i64 0)]⟩ (.op ⟨some 29, none, .ex (.fa 1) [.s 28]⟩ (.op ⟨some 30, none, .ex (.ld 1) [.s 29]⟩ (.op ⟨some 31, none, .ex (.mov) [.s 0]⟩ (.op ⟨some 32, none, .ex (.nilck) [.s 31]⟩ (.op ⟨some 33, none, .ex (.fa 1) [.s 32]⟩ (.op ⟨some 34, none, .ex (.ld 1) [.s 33]⟩ (.op ⟨some 35, none, .ex (.ibin .sub) [.s 30, .s 34]⟩ (.op ⟨some 2, none, .ex (.mov) [.s 35]⟩ .done))))))))))))))
    .ret))),
 [.t 2]⟩
theorem c104 : compFn Go.Proofs.Tryz.prog 104 = some fn104 := by kernel_rfl

/-- rubric/patch.Compose -/
def fn105 : AFn := ⟨56,
 (.seq
  (.region [⟨some 4, none, .ex (.mov) [.k .nils]⟩])
  (.seq
   (.region [⟨some 5, none, .ex (.mov) [.k .nils]⟩])
   (.seq
    (.region [⟨some 6, none, .ex (.mov) [.k (.int .i64 0)]⟩])
    (.seq
     (.seq
      (.region [⟨some 9, none, .ex (.mov) [.s 1]⟩,
        ⟨some 10, none, .ex (.len) [.s 9]⟩,
        ⟨some 11, none, .ex (.mov) [.k (.int .i64 0)]⟩])
      (.block 0
       (.loop
        (.seq
         (.region [⟨some 12, none, .ex (.ibin .lss) [.s 11, .s 10]⟩])
         (.seq
          (.cond (.s 12)
           .skip
           (.exit 0))
          (.seq
           (.block 1
            (.seq
             (.region [⟨some 13, none, .ex (.ia 6) [.s 9, .s 11]⟩,
               ⟨some 14, none, .ex (.lda 6) [.s 13]⟩,
               ⟨some 8, none, .ex (.alloc [(.int .i64 0), (.bool false), (.int .u8 0), (.int .i64 0), (.int .u64 0), (.str ⟨#[]⟩)]) []⟩,
               ⟨none, none, .ex (.st 6) [.s 8, .s 14]⟩])
             (.seq
              (.block 2
               (.loop
                (.seq
                 (.seq
                  (.draw (.op ⟨some 15, none, .ex (.mov) [.s 6]⟩ (.op ⟨some 16, none, .ex (.mov) [.s 0]⟩ (.op ⟨some 17, none, .ex (.len) [.s 16]⟩ (.op ⟨some 18, none, .ex (.ibin .lss) [.s 15, .s 17]⟩ (.op ⟨some 19, none, .ex (.mov) [.s 18]⟩ (.op ⟨some 20, some (19, true), .ex (.mov) [.s 0]⟩ (.op ⟨some 21, some (19, true), .ex (.mov) [.s 6]⟩ (.op ⟨some 22, some (19, true), .ex (.ia 6) [.s 20, .s 21]⟩ (.op ⟨some 23, some (19, true), .ex (.fa 0) [.s 22]⟩ (.op ⟨some 24, some (19, true), .ex (.ld 1) [.s 23]⟩ (.op ⟨some 25, some (19, true), .ex (.fa 0) [.s 8]⟩ (.op ⟨some 26, some (19, true), .ex (.ld 1) [.s 25]⟩ (.op ⟨some 27, some (19, true), .ex (.ibin .leq) [.s 24, .s 26]⟩ (.op ⟨some 28, none, .ex (.pick) [.s 19, .s 27, .k (.bool false)]⟩ .done)))))))))))))))
                  (.cond (.s 28)
                   .skip
                   (.exit 2)))
                 (.seq
                  (.block 3
                   (.seq
                    (.draw (.op ⟨some 31, none, .ex (.mov) [.s 0]⟩ (.op ⟨some 32, none, .ex (.mov) [.s 6]⟩ (.op ⟨some 33, none, .ex (.ia 6) [.s 31, .s 32]⟩ (.op ⟨some 34, none, .ex (.fa 0) [.s 33]⟩ (.op ⟨some 35, none, .ex (.ld 1) [.s 34]⟩ (.op ⟨some 36, none, .ex (.fa 0) [.s 8]⟩ (.op ⟨some 37, none, .ex (.ld 1) [.s 36]⟩ (.op ⟨some 38, none, .ex (.ibin .lss) [.s 35, .s 37]⟩ .done)))))))))
                    (.cond (.s 38)
                     (.region [⟨some 39, none, .ex (.mov) [.s 5]⟩,
                       ⟨some 40, none, .ex (.mov) [.s 0]⟩,
                       ⟨some 41, none, .ex (.mov) [.s 6]⟩,
                       ⟨some 42, none, .ex (.ia 6) [.s 40, .s 41]⟩,
                       ⟨some 43, none, .ex (.lda 6) [.s 42]⟩,
                       ⟨some 44, none, .ex (.bsl 6 1 [(.int .i64 0), (.bool false), (.int .u8 0), (.int .i64 0), (.int .u64 0), (.str ⟨#[]⟩)] [(0, 6)]) [.s 43]⟩,
                       ⟨some 45, none, .ex (.app 6 56) [.s 39, .s 44]⟩,
                       ⟨some 5, none, .ex (.mov) [.s 45]⟩])
                     .skip)))
                  (.region [⟨some 29, none, .ex (.mov) [.s 6]⟩,
                    ⟨some 30, none, .ex (.ibin .add) [.s 29, .k (.int .i64 1)]⟩,
                    ⟨some 6, none, .ex (.mov) [.s 30]⟩])))))
              (.region [⟨some 46, none, .ex (.mov) [.s 5]⟩,
                ⟨some 47, none, .ex (.lda 6) [.s 8]⟩,
                ⟨some 48, none, .ex (.bsl 6 1 [(.int .i64 0), (.bool false), (.int .u8 0), (.int .i64 0), (.int .u64 0), (.str ⟨#[]⟩)] [(0, 6)]) [.s 47]⟩,
                ⟨some 49, none, .ex (.app 6 56) [.s 46, .s 48]⟩,
                ⟨some 5, none, .ex (.mov) [.s 49]⟩]))))
           (.region [⟨some 50, none, .ex (.ibin .add) [.s 11, .k (.int .i64 1)]⟩,
             ⟨some 11, none, .ex (.mov) [.s 50]⟩])))))))
     (.seq
      (.region [⟨some 51, none, .ex (.mov) [.s 5]⟩,
        ⟨some 52, none, .ex (.mov) [.s 0]⟩,
        ⟨some 53, none, .ex (.mov) [.s 6]⟩,
        ⟨some 54, none, .ex (.slc 6 true false false) [.s 52, .s 53]⟩,
        ⟨some 55, none, .ex (.app 6 56) [.s 51, .s 54]⟩,
        ⟨some 4, none, .ex (.mov) [.s 55]⟩])
      .ret))))),
 [.t 4]⟩
theorem c105 : compFn Go.Proofs.Tryz.prog 105 = some fn105 := by kernel_rfl

/-- rubric/apply.Cell -/
def fn106 : AFn := ⟨19,
 (.seq
  (.region [⟨some 4, none, .ex (.box) [.s 1]⟩,
    ⟨some 6, none, .ex (.alloc [(.int .i32 0), .nils]) []⟩])
  (.seq
   (.draw (.op ⟨some 7, none, .ex (.fa 0) [.s 4]⟩ (.op ⟨some 9, none, .ex (.fa 1) [.s 4]⟩ (.op ⟨some 11, none, .ex (.mov) [.s 0]⟩ (.op ⟨some 12, none, .ex (.mov) [.s 2]⟩ (.op ⟨some 13, none, .ex (.fa 0) [.s 4]⟩ (.op ⟨some 14, none, .ex (.ld 1) [.s 13]⟩ (.op ⟨some 15, none, .ex (.ibin .eql) [.s 14, .k (.int .i32 10)]⟩ (.fork (.op ⟨some 8, none, .ex (.ld 1) [.s 7]⟩ (.fork (.op ⟨some 10, none, .ex (.ld 1) [.s 9]⟩ (.op ⟨some 16, none, .callf 123 [.s 11, .s 12, .s 15]⟩ (.op ⟨some 17, none, .callf 122 [.s 10, .s 16]⟩ (.op ⟨some 18, none, .ex (.build [(.int .i32 0), .nils] [(0, 1), (1, 1)]) [.s 8, .s 17]⟩ (.op ⟨none, none, .ex (.st 2) [.s 6, .s 18]⟩ .done))))) (.op ⟨some 16, none, .callf 123 [.s 11, .s 12, .s 15]⟩ (.op ⟨some 10, none, .ex (.ld 1) [.s 9]⟩ (.op ⟨some 17, none, .callf 122 [.s 10, .s 16]⟩ (.op ⟨some 18, none, .ex (.build [(.int .i32 0), .nils] [(0, 1), (1, 1)]) [.s 8, .s 17]⟩ (.op ⟨none, none, .ex (.st 2) [.s 6, .s 18]⟩ .done))))))) (.fork (.op ⟨some 10, none, .ex (.ld 1) [.s 9]⟩ (.fork (.op ⟨some 8, none, .ex (.ld 1) [.s 7]⟩ (.op ⟨some 16, none, .callf 123 [.s 11, .s 12, .s 15]⟩ (.op ⟨some 17, none, .callf 122 [.s 10, .s 16]⟩ (.op ⟨some 18, none, .ex (.build [(.int .i32 0), .nils] [(0, 1), (1, 1)]) [.s 8, .s 17]⟩ (.op ⟨none, none, .ex (.st 2) [.s 6, .s 18]⟩ .done))))) (.op ⟨some 16, none, .callf 123 [.s 11, .s 12, .s 15]⟩ (.fork (.op ⟨some 8, none, .ex (.ld 1) [.s 7]⟩ (.op ⟨some 17, none, .callf 122 [.s 10, .s 16]⟩ (.op ⟨some 18, none, .ex (.build [(.int .i32 0), .nils] [(0, 1), (1, 1)]) [.s 8, .s 17]⟩ (.op ⟨none, none, .ex (.st 2) [.s 6, .s 18]⟩ .done)))) (.op ⟨some 17, none, .callf 122 [.s 10, .s 16]⟩ (.op ⟨some 8, none, .ex (.ld 1) [.s 7]⟩ (.op ⟨some 18, none, .ex (.build [(.int .i32 0), .nils] [(0, 1), (1, 1)]) [.s 8, .s 17]⟩ (.op ⟨none, none, .ex (.st 2) [.s 6, .s 18]⟩ .done)))))))) (.op ⟨some 16, none, .callf 123 [.s 11, .s 12, .s 15]⟩ (.op ⟨some 10, none, .ex (.ld 1) [.s 9]⟩ (.fork (.op ⟨some 8, none, .ex (.ld 1) [.s 7]⟩ (.op ⟨some 17, none, .callf 122 [.s 10, .s 16]⟩ (.op ⟨some 18, none, .ex (.build [(.int .i32 0), .nils] [(0, 1), (1, 1)]) [.s 8, .s 17]⟩ (.op ⟨none, none, .ex (.st 2) [.s 6, .s 18]⟩ .done)))) (.op ⟨some 17, none, .callf 122 [.s 10, .s 16]⟩ (.op ⟨some 8, none, .ex (.ld 1) [.s 7]⟩ (.op ⟨some 18, none, .ex (.build [(.int .i32 0), .nils] [(0, 1), (1, 1)]) [.s 8, .s 17]⟩ (.op ⟨none, none, .ex (.st 2) [.s 6, .s 18]⟩ .done)))))))))))))))))
   .ret)),
 [.ca 6 2]⟩
theorem c106 : compFn Go.Proofs.Tryz.prog 106 = some fn106 := by kernel_rfl

/-- slices.Concat[[]rubric/api.Op,rubric/api.Op] -/
def fn107 : AFn := ⟨36,
 (.seq
  (.region [⟨some 2, none, .ex (.mov) [.k .nils]⟩])
  (.seq
   (.region [⟨some 3, none, .ex (.mov) [.k (.int .i64 0)]⟩])
   (.seq
    (.seq
     (.region [⟨some 9, none, .ex (.mov) [.s 0]⟩,
       ⟨some 10, none, .ex (.len) [.s 9]⟩,
       ⟨some 11, none, .ex (.mov) [.k (.int .i64 0)]⟩])
     (.block 0
      (.loop
       (.seq
        (.region [⟨some 12, none, .ex (.ibin .lss) [.s 11, .s 10]⟩])
        (.seq
         (.cond (.s 12)
          .skip
          (.exit 0))
         (.seq
          (.block 1
           (.seq
            (.region [⟨some 13, none, .ex (.ia 1) [.s 9, .s 11]⟩,
              ⟨some 14, none, .ex (.ld 1) [.s 13]⟩,
              ⟨some 5, none, .ex (.mov) [.s 14]⟩])
            (.seq
             (.region [⟨some 15, none, .ex (.mov) [.s 3]⟩,
               ⟨some 16, none, .ex (.mov) [.s 5]⟩,
               ⟨some 17, none, .ex (.len) [.s 16]⟩,
               ⟨some 18, none, .ex (.ibin .add) [.s 15, .s 17]⟩,
               ⟨some 3, none, .ex (.mov) [.s 18]⟩])
             (.seq
              (.region [⟨some 19, none, .ex (.mov) [.s 3]⟩,
                ⟨some 20, none, .ex (.ibin .lss) [.s 19, .k (.int .i64 0)]⟩])
              (.cond (.s 20)
               (.region [⟨some 21, none, .bad⟩,
                 ⟨none, none, .bad⟩])
               .skip)))))
          (.region [⟨some 22, none, .ex (.ibin .add) [.s 11, .k (.int .i64 1)]⟩,
            ⟨some 11, none, .ex (.mov) [.s 22]⟩])))))))
    (.seq
     (.region [⟨some 23, none, .ex (.mov) [.s 3]⟩,
       ⟨some 24, none, .callf 124 [.k .nils, .s 23]⟩,
       ⟨some 6, none, .ex (.mov) [.s 24]⟩])
     (.seq
      (.seq
       (.region [⟨some 25, none, .ex (.mov) [.s 0]⟩,
         ⟨some 26, none, .ex (.len) [.s 25]⟩,
         ⟨some 27, none, .ex (.mov) [.k (.int .i64 0)]⟩])
       (.block 2
        (.loop
         (.seq
          (.region [⟨some 28, none, .ex (.ibin .lss) [.s 27, .s 26]⟩])
          (.seq
           (.cond (.s 28)
            .skip
            (.exit 2))
           (.seq
            (.block 3
             (.seq
              (.region [⟨some 29, none, .ex (.ia 1) [.s 25, .s 27]⟩,
                ⟨some 30, none, .ex (.ld 1) [.s 29]⟩,
                ⟨some 8, none, .ex (.mov) [.s 30]⟩])
              (.region [⟨some 31, none, .ex (.mov) [.s 6]⟩,
                ⟨some 32, none, .ex (.mov) [.s 8]⟩,
                ⟨some 33, none, .ex (.app 5 88) [.s 31, .s 32]⟩,
                ⟨some 6, none, .ex (.mov) [.s 33]⟩])))
            (.region [⟨some 34, none, .ex (.ibin .add) [.s 27, .k (.int .i64 1)]⟩,
              ⟨some 27, none, .ex (.mov) [.s 34]⟩])))))))
      (.seq
       (.region [⟨some 35, none, .ex (.mov) [.s 6]⟩,
         ⟨some 2, none, .ex (.mov) [.s 35]⟩])
       .ret)))))),
 [.t 2]⟩
theorem c107 : compFn Go.Proofs.Tryz.prog 107 = some fn107 := by kernel_rfl

/-- (*rubric/normal.Maker).gap -/
def fn108 : AFn := ⟨23,
 (.seq
  (.region [⟨some 2, none, .ex (.mov) [.k .nils]⟩])
  (.seq
   (.region [⟨some 4, none, .ex (.mov) [.s 0]⟩,
     ⟨some 5, none, .ex (.nilck) [.s 4]⟩,
     ⟨some 6, none, .ex (.fa 1) [.s 5]⟩,
     ⟨some 7, none, .ex (.ld 1) [.s 6]⟩,
     ⟨some 8, none, .callf 50 [.s 7]⟩,
     ⟨some 3, none, .ex (.mov) [.s 8]⟩])
   (.seq
    (.seq
     (.region [⟨some 9, none, .ex (.mov) [.s 0]⟩,
       ⟨some 10, none, .ex (.nilck) [.s 9]⟩,
       ⟨some 11, none, .ex (.fa 2) [.s 10]⟩,
       ⟨some 12, none, .ex (.ld 1) [.s 11]⟩,
       ⟨some 13, none, .ex (.ibin .gtr) [.s 12, .k (.int .i64 0)]⟩])
     (.cond (.s 13)
      (.region [⟨some 14, none, .ex (.mov) [.s 3]⟩,
        ⟨some 15, none, .ex (.mov) [.s 0]⟩,
        ⟨some 16, none, .ex (.nilck) [.s 15]⟩,
        ⟨some 17, none, .ex (.fa 2) [.s 16]⟩,
        ⟨some 18, none, .ex (.ld 1) [.s 17]⟩,
        ⟨some 19, none, .ex (.build [(.int .u8 0), (.int .i64 0), .nils, .nils, .nils] [(0, 1), (1, 1)]) [.k (.int .u8 3), .s 18]⟩,
        ⟨some 20, none, .ex (.bsl 5 1 [(.int .u8 0), (.int .i64 0), .nils, .nils, .nils] [(0, 5)]) [.s 19]⟩,
        ⟨some 21, none, .ex (.app 5 88) [.s 14, .s 20]⟩,
        ⟨some 3, none, .ex (.mov) [.s 21]⟩])
      .skip))
    (.seq
     (.region [⟨some 22, none, .ex (.mov) [.s 3]⟩,
       ⟨some 2, none, .ex (.mov) [.s 22]⟩])
     .ret)))),
 [.t 2]⟩
theorem c108 : compFn Go.Proofs.Tryz.prog 108 = some fn108 := by kernel_rfl

/-- rubric/ops.size -/
def fn109 : AFn := ⟨11,
 (.seq
  (.region [⟨some 1, none, .ex (.box) [.s 0]⟩,
    ⟨some 2, none, .ex (.mov) [.k (.int .i64 0)]⟩])
  (.seq
   (.seq
    (.region [⟨some 3, none, .ex (.fa 0) [.s 1]⟩,
      ⟨some 4, none, .ex (.ld 1) [.s 3]⟩,
      ⟨some 5, none, .ex (.ibin .eql) [.s 4, .k (.int .u8 2)]⟩])
    (.cond (.s 5)
     (.seq
      (.region [⟨some 6, none, .ex (.fa 2) [.s 1]⟩,
        ⟨some 7, none, .ex (.ld 1) [.s 6]⟩,
        ⟨some 8, none, .ex (.len) [.s 7]⟩,
        ⟨some 2, none, .ex (.mov) [.s 8]⟩])
      .ret)
     .skip))
   (.seq
    (.region [⟨some 9, none, .ex (.fa 1) [.s 1]⟩,
      ⟨some 10, none, .ex (.ld 1) [.s 9]⟩,
      ⟨some 2, none, .ex (.mov) [.s 10]⟩])
    .ret))),
 [.t 2]⟩
theorem c109 : compFn Go.Proofs.Tryz.prog 109 = some fn109 := by kernel_rfl

/-- rubric/ops.one -/
def fn119 : AFn := ⟨30,
 (.seq
  (.region [⟨some 3, none, .ex (.box) [.s 1]⟩,
    ⟨some 4, none, .ex (.mov) [.k (.int .i64 0)]⟩])
  (.seq
   (.seq
    (.region [⟨some 6, none, .ex (.lda 5) [.s 3]⟩,
      ⟨some 7, none, .callf 127 [.s 6]⟩,
      ⟨some 8, none, .ex (.bnot) [.s 7]⟩,
      ⟨some 9, none, .ex (.mov) [.s 8]⟩,
      ⟨some 10, some (9, false), .ex (.lda 5) [.s 3]⟩,
      ⟨some 11, some (9, false), .callf 109 [.s 10]⟩,
      ⟨some 12, some (9, false), .ex (.ibin .lss) [.s 11, .k (.int .i64 1)]⟩,
      ⟨some 13, none, .ex (.pick) [.s 9, .k (.bool true), .s 12]⟩,
      ⟨some 14, none, .ex (.mov) [.s 13]⟩,
      ⟨some 15, some (14, false), .ex (.lda 5) [.s 3]⟩,
      ⟨some 16, some (14, false), .callf 109 [.s 15]⟩,
      ⟨some 17, some (14, false), .ex (.ibin .gtr) [.s 16, .k (.int .i64 536870912)]⟩,
      ⟨some 18, none, .ex (.pick) [.s 14, .k (.bool true), .s 17]⟩])
    (.cond (.s 18)
     (.seq
      (.region [⟨some 4, none, .ex (.mov) [.k (.int .i64 3)]⟩])
      .ret)
     .skip))
   (.seq
    (.seq
     (.region [⟨some 19, none, .ex (.mov) [.s 0]⟩,
       ⟨some 20, none, .ex (.fa 3) [.s 3]⟩,
       ⟨some 21, none, .ex (.ld 1) [.s 20]⟩,
       ⟨some 22, none, .callf 128 [.s 19, .s 21]⟩,
       ⟨some 5, none, .ex (.mov) [.s 22]⟩])
     (.seq
      (.region [⟨some 23, none, .ex (.mov) [.s 5]⟩,
        ⟨some 24, none, .ex (.ibin .neq) [.s 23, .k (.int .i64 0)]⟩])
      (.cond (.s 24)
       (.seq
        (.region [⟨some 25, none, .ex (.mov) [.s 5]⟩,
          ⟨some 4, none, .ex (.mov) [.s 25]⟩])
        .ret)
       .skip)))
    (.seq
     (.region [⟨some 26, none, .ex (.mov) [.s 0]⟩,
       ⟨some 27, none, .ex (.fa 4) [.s 3]⟩,
       ⟨some 28, none, .ex (.ld 1) [.s 27]⟩,
       ⟨some 29, none, .callf 129 [.s 26, .s 28]⟩,
       ⟨some 4, none, .ex (.mov) [.s 29]⟩])
     .ret)))),
 [.t 4]⟩
theorem c119 : compFn Go.Proofs.Tryz.prog 119 = some fn119 := by kernel_rfl

/-- rubric/patch.Same -/
def fn120 : AFn := ⟨8,
 (.seq
  (.region [⟨some 4, none, .ex (.mov) [.k (.bool false)]⟩])
  (.seq
   (.region [⟨some 5, none, .ex (.mov) [.s 0]⟩,
     ⟨some 6, none, .ex (.mov) [.s 1]⟩,
     ⟨some 7, none, .callf 130 [.s 5, .s 6]⟩,
     ⟨some 4, none, .ex (.mov) [.s 7]⟩])
   .ret)),
 [.t 4]⟩
theorem c120 : compFn Go.Proofs.Tryz.prog 120 = some fn120 := by kernel_rfl

/-- rubric/attrs.Same -/
def fn121 : AFn := ⟨8,
 (.seq
  (.region [⟨some 4, none, .ex (.mov) [.k (.bool false)]⟩])
  (.seq
   (.region [⟨some 5, none, .ex (.mov) [.s 0]⟩,
     ⟨some 6, none, .ex (.mov) [.s 1]⟩,
     ⟨some 7, none, .callf 131 [.s 5, .s 6]⟩,
     ⟨some 4, none, .ex (.mov) [.s 7]⟩])
   .ret)),
 [.t 4]⟩
theorem c121 : compFn Go.Proofs.Tryz.prog 121 = some fn121 := by kernel_rfl

/-- rubric/patch.Apply -/
def fn122 : AFn := ⟨76,
 (.seq
  (.region [⟨some 4, none, .ex (.mov) [.k .nils]⟩])
  (.scope
   (.seq
    (.region [⟨some 5, none, .ex (.mov) [.k .nils]⟩])
    (.seq
     (.region [⟨some 6, none, .ex (.mov) [.k (.int .i64 0)]⟩])
     (.seq
      .skip
      (.seq
       (.seq
        (.region [⟨some 9, none, .ex (.mov) [.s 1]⟩,
          ⟨some 10, none, .ex (.len) [.s 9]⟩,
          ⟨some 11, none, .ex (.mov) [.k (.int .i64 0)]⟩])
        (.block 0
         (.loop
          (.seq
           (.region [⟨some 12, none, .ex (.ibin .lss) [.s 11, .s 10]⟩])
           (.seq
            (.cond (.s 12)
             .skip
             (.exit 0))
            (.seq
             (.block 1
              (.seq
               (.region [⟨some 13, none, .ex (.ia 6) [.s 9, .s 11]⟩,
                 ⟨some 14, none, .ex (.lda 6) [.s 13]⟩,
                 ⟨some 8, none, .ex (.alloc [(.int .i64 0), (.bool false), (.int .u8 0), (.int .i64 0), (.int .u64 0), (.str ⟨#[]⟩)]) []⟩,
                 ⟨none, none, .ex (.st 6) [.s 8, .s 14]⟩])
               (.seq
                (.block 2
                 (.loop
                  (.seq
                   (.seq
                    (.region [⟨some 15, none, .ex (.mov) [.s 6]⟩,
                      ⟨some 16, none, .ex (.mov) [.s 0]⟩,
                      ⟨some 17, none, .ex (.len) [.s 16]⟩,
                      ⟨some 18, none, .ex (.ibin .lss) [.s 15, .s 17]⟩])
                    (.cond (.s 18)
                     .skip
                     (.exit 2)))
                   (.seq
                    (.block 3
                     (.seq
                      (.block 4
                       (.seq
                        (.draw (.op ⟨some 22, none, .ex (.mov) [.s 0]⟩ (.op ⟨some 23, none, .ex (.mov) [.s 6]⟩ (.op ⟨some 24, none, .ex (.ia 5) [.s 22, .s 23]⟩ (.op ⟨some 25, none, .ex (.fa 0) [.s 24]⟩ (.op ⟨some 26, none, .ex (.ld 1) [.s 25]⟩ (.op ⟨some 27, none, .ex (.fa 0) [.s 8]⟩ (.op ⟨some 28, none, .ex (.ld 1) [.s 27]⟩ (.op ⟨some 29, none, .ex (.ibin .lss) [.s 26, .s 28]⟩ (.op ⟨some 21, none, .ex (.mov) [.s 29]⟩ .done))))))))))
                        (.cond (.s 21)
                         (.seq
                          (.region [⟨some 30, none, .ex (.mov) [.s 5]⟩,
                            ⟨some 31, none, .ex (.mov) [.s 0]⟩,
                            ⟨some 32, none, .ex (.mov) [.s 6]⟩,
                            ⟨some 33, none, .ex (.ia 5) [.s 31, .s 32]⟩,
                            ⟨some 34, none, .ex (.lda 5) [.s 33]⟩,
                            ⟨some 35, none, .ex (.bsl 5 1 [(.int .i64 0), (.int .u8 0), (.int .i64 0), (.int .u64 0), (.str ⟨#[]⟩)] [(0, 5)]) [.s 34]⟩,
                            ⟨some 36, none, .ex (.app 5 48) [.s 30, .s 35]⟩,
                            ⟨some 5, none, .ex (.mov) [.s 36]⟩])
                          (.exit 3))
                         (.seq
                          (.draw (.op ⟨some 38, none, .ex (.mov) [.s 0]⟩ (.op ⟨some 39, none, .ex (.mov) [.s 6]⟩ (.op ⟨some 40, none, .ex (.ia 5) [.s 38, .s 39]⟩ (.op ⟨some 41, none, .ex (.fa 0) [.s 40]⟩ (.op ⟨some 42, none, .ex (.ld 1) [.s 41]⟩ (.op ⟨some 43, none, .ex (.fa 0) [.s 8]⟩ (.op ⟨some 44, none, .ex (.ld 1) [.s 43]⟩ (.op ⟨some 45, none, .ex (.ibin .eql) [.s 42, .s 44]⟩ (.op ⟨some 37, none, .ex (.mov) [.s 45]⟩ .done))))))))))
                          (.cond (.s 37)
                           (.region [⟨some 46, none, .ex (.mov) [.s 6]⟩,
                             ⟨some 47, none, .ex (.ibin .add) [.s 46, .k (.int .i64 1)]⟩,
                             ⟨some 6, none, .ex (.mov) [.s 47]⟩])
                           .skip)))))
                      (.seq
                       (.seq
                        (.region [⟨some 48, none, .ex (.fa 1) [.s 8]⟩,
                          ⟨some 49, none, .ex (.ld 1) [.s 48]⟩,
                          ⟨some 50, none, .ex (.bnot) [.s 49]⟩])
                        (.cond (.s 50)
                         (.region [⟨some 51, none, .ex (.mov) [.s 5]⟩,
                           ⟨some 52, none, .ex (.fa 0) [.s 8]⟩,
                           ⟨some 53, none, .ex (.ld 1) [.s 52]⟩,
                           ⟨some 54, none, .ex (.fa 2) [.s 8]⟩,
                           ⟨some 55, none, .ex (.lda 4) [.s 54]⟩,
                           ⟨some 56, none, .ex (.build [(.int .i64 0), (.int .u8 0), (.int .i64 0), (.int .u64 0), (.str ⟨#[]⟩)] [(0, 1), (1, 4)]) [.s 53, .s 55]⟩,
                           ⟨some 57, none, .ex (.bsl 5 1 [(.int .i64 0), (.int .u8 0), (.int .i64 0), (.int .u64 0), (.str ⟨#[]⟩)] [(0, 5)]) [.s 56]⟩,
                           ⟨some 58, none, .ex (.app 5 48) [.s 51, .s 57]⟩,
                           ⟨some 5, none, .ex (.mov) [.s 58]⟩])
                         .skip))
                       (.exit 1))))
                    (.region [⟨some 19, none, .ex (.mov) [.s 6]⟩,
                      ⟨some 20, none, .ex (.ibin .add) [.s 19, .k (.int .i64 1)]⟩,
                      ⟨some 6, none, .ex (.mov) [.s 20]⟩])))))
                (.seq
                 (.region [⟨some 59, none, .ex (.fa 1) [.s 8]⟩,
                   ⟨some 60, none, .ex (.ld 1) [.s 59]⟩,
                   ⟨some 61, none, .ex (.bnot) [.s 60]⟩])
                 (.cond (.s 61)
                  (.region [⟨some 62, none, .ex (.mov) [.s 5]⟩,
                    ⟨some 63, none, .ex (.fa 0) [.s 8]⟩,
                    ⟨some 64, none, .ex (.ld 1) [.s 63]⟩,
                    ⟨some 65, none, .ex (.fa 2) [.s 8]⟩,
                    ⟨some 66, none, .ex (.lda 4) [.s 65]⟩,
                    ⟨some 67, none, .ex (.build [(.int .i64 0), (.int .u8 0), (.int .i64 0), (.int .u64 0), (.str ⟨#[]⟩)] [(0, 1), (1, 4)]) [.s 64, .s 66]⟩,
                    ⟨some 68, none, .ex (.bsl 5 1 [(.int .i64 0), (.int .u8 0), (.int .i64 0), (.int .u64 0), (.str ⟨#[]⟩)] [(0, 5)]) [.s 67]⟩,
                    ⟨some 69, none, .ex (.app 5 48) [.s 62, .s 68]⟩,
                    ⟨some 5, none, .ex (.mov) [.s 69]⟩])
                  .skip)))))
             (.region [⟨some 70, none, .ex (.ibin .add) [.s 11, .k (.int .i64 1)]⟩,
               ⟨some 11, none, .ex (.mov) [.s 70]⟩])))))))
       (.seq
        (.region [⟨some 71, none, .ex (.mov) [.s 5]⟩,
          ⟨some 72, none, .ex (.mov) [.s 0]⟩,
          ⟨some 73, none, .ex (.mov) [.s 6]⟩,
          ⟨some 74, none, .ex (.slc 5 true false false) [.s 72, .s 73]⟩,
          ⟨some 75, none, .ex (.app 5 48) [.s 71, .s 74]⟩,
          ⟨some 4, none, .ex (.mov) [.s 75]⟩])
        .ret))))))),
 [.t 4]⟩
theorem c122 : compFn Go.Proofs.Tryz.prog 122 = some fn122 := by kernel_rfl

/-- rubric/patch.Part -/
def fn123 : AFn := ⟨11,
 (.seq
  (.region [⟨some 3, none, .ex (.box) [.s 0]⟩,
    ⟨some 5, none, .ex (.box) [.s 2]⟩,
    ⟨some 6, none, .ex (.mov) [.k .nils]⟩])
  (.seq
   (.region [⟨some 7, none, .ex (.mov) [.s 1]⟩,
     ⟨some 8, none, .callf 73 [.s 7]⟩,
     ⟨some 9, none, .ex (.mkfn (.func 133) 0) [.s 3, .s 5]⟩,
     ⟨some 10, none, .callf 132 [.s 8, .s 9]⟩,
     ⟨some 6, none, .ex (.mov) [.s 10]⟩])
   .ret)),
 [.t 6]⟩
theorem c123 : compFn Go.Proofs.Tryz.prog 123 = some fn123 := by kernel_rfl

/-- slices.Grow[[]rubric/api.Op,rubric/api.Op] -/
def fn124 : AFn := ⟨27,
 (.seq
  (.region [⟨some 4, none, .ex (.mov) [.k .nils]⟩])
  (.seq
   (.seq
    (.region [⟨some 5, none, .ex (.mov) [.s 1]⟩,
      ⟨some 6, none, .ex (.ibin .lss) [.s 5, .k (.int .i64 0)]⟩])
    (.cond (.s 6)
     (.region [⟨some 7, none, .bad⟩,
       ⟨none, none, .bad⟩])
     .skip))
   (.seq
    (.seq
     (.region [⟨some 8, none, .ex (.mov) [.s 1]⟩,
       ⟨some 9, none, .ex (.mov) [.s 0]⟩,
       ⟨some 10, none, .ex (.cap) [.s 9]⟩,
       ⟨some 11, none, .ex (.mov) [.s 0]⟩,
       ⟨some 12, none, .ex (.len) [.s 11]⟩,
       ⟨some 13, none, .ex (.ibin .sub) [.s 10, .s 12]⟩,
       ⟨some 14, none, .ex (.ibin .sub) [.s 8, .s 13]⟩,
       ⟨some 1, none, .ex (.mov) [.s 14]⟩])
     (.seq
      (.region [⟨some 15, none, .ex (.mov) [.s 1]⟩,
        ⟨some 16, none, .ex (.ibin .gtr) [.s 15, .k (.int .i64 0)]⟩])
      (.cond (.s 16)
       (.region [⟨some 17, none, .ex (.mov) [.s 0]⟩,
         ⟨some 18, none, .ex (.mov) [.s 0]⟩,
         ⟨some 19, none, .ex (.cap) [.s 18]⟩,
         ⟨some 20, none, .ex (.slc 5 false true false) [.s 17, .s 19]⟩,
         ⟨some 21, none, .ex (.mov) [.s 1]⟩,
         ⟨some 22, none, .ex (.appz 5 88 [(.int .u8 0), (.int .i64 0), .nils, .nils, .nils]) [.s 20, .s 21]⟩,
         ⟨some 23, none, .ex (.mov) [.s 0]⟩,
         ⟨some 24, none, .ex (.len) [.s 23]⟩,
         ⟨some 25, none, .ex (.slc 5 false true false) [.s 22, .s 24]⟩,
         ⟨some 0, none, .ex (.mov) [.s 25]⟩])
       .skip)))
    (.seq
     (.region [⟨some 26, none, .ex (.mov) [.s 0]⟩,
       ⟨some 4, none, .ex (.mov) [.s 26]⟩])
     .ret)))),
 [.t 4]⟩
theorem c124 : compFn Go.Proofs.Tryz.prog 124 = some fn124 := by kernel_rfl

/-- rubric/ops.form -/
def fn127 : AFn := ⟨47,
 (.seq
  (.region [⟨some 1, none, .ex (.box) [.s 0]⟩,
    ⟨some 2, none, .ex (.mov) [.k (.bool false)]⟩])
  (.seq
   (.region [⟨some 4, none, .ex (.fa 2) [.s 1]⟩,
     ⟨some 5, none, .ex (.ld 1) [.s 4]⟩,
     ⟨some 6, none, .ex (.len) [.s 5]⟩,
     ⟨some 7, none, .ex (.ibin .gtr) [.s 6, .k (.int .i64 0)]⟩,
     ⟨some 8, none, .ex (.mov) [.s 7]⟩,
     ⟨some 9, some (8, false), .ex (.fa 3) [.s 1]⟩,
     ⟨some 10, some (8, false), .ex (.ld 1) [.s 9]⟩,
     ⟨some 11, some (8, false), .ex (.len) [.s 10]⟩,
     ⟨some 12, some (8, false), .ex (.ibin .gtr) [.s 11, .k (.int .i64 0)]⟩,
     ⟨some 13, none, .ex (.pick) [.s 8, .k (.bool true), .s 12]⟩,
     ⟨some 3, none, .ex (.mov) [.s 13]⟩])
   (.seq
    (.seq
     (.region [⟨some 14, none, .ex (.fa 0) [.s 1]⟩,
       ⟨some 15, none, .ex (.ld 1) [.s 14]⟩])
     (.block 0
      (.seq
       (.region [⟨some 17, none, .ex (.ibin .eql) [.s 15, .k (.int .u8 1)]⟩,
         ⟨some 16, none, .ex (.mov) [.s 17]⟩])
       (.cond (.s 16)
        (.seq
         (.region [⟨some 18, none, .ex (.mov) [.s 3]⟩,
           ⟨some 19, none, .ex (.bnot) [.s 18]⟩,
           ⟨some 2, none, .ex (.mov) [.s 19]⟩])
         .ret)
        (.seq
         (.region [⟨some 21, none, .ex (.ibin .eql) [.s 15, .k (.int .u8 3)]⟩,
           ⟨some 20, none, .ex (.mov) [.s 21]⟩])
         (.cond (.s 20)
          (.seq
           (.region [⟨some 22, none, .ex (.mov) [.s 3]⟩,
             ⟨some 23, none, .ex (.bnot) [.s 22]⟩,
             ⟨some 24, none, .ex (.mov) [.s 23]⟩,
             ⟨some 25, some (24, true), .ex (.fa 4) [.s 1]⟩,
             ⟨some 26, some (24, true), .ex (.ld 1) [.s 25]⟩,
             ⟨some 27, some (24, true), .ex (.len) [.s 26]⟩,
             ⟨some 28, some (24, true), .ex (.ibin .eql) [.s 27, .k (.int .i64 0)]⟩,
             ⟨some 29, none, .ex (.pick) [.s 24, .s 28, .k (.bool false)]⟩,
             ⟨some 2, none, .ex (.mov) [.s 29]⟩])
           .ret)
          (.seq
           (.region [⟨some 31, none, .ex (.ibin .eql) [.s 15, .k (.int .u8 2)]⟩,
             ⟨some 30, none, .ex (.mov) [.s 31]⟩])
           (.cond (.s 30)
            (.seq
             (.region [⟨some 32, none, .ex (.fa 1) [.s 1]⟩,
               ⟨some 33, none, .ex (.ld 1) [.s 32]⟩,
               ⟨some 34, none, .ex (.ibin .eql) [.s 33, .k (.int .i64 0)]⟩,
               ⟨some 35, none, .ex (.mov) [.s 34]⟩,
               ⟨some 36, some (35, true), .ex (.fa 4) [.s 1]⟩,
               ⟨some 37, some (35, true), .ex (.ld 1) [.s 36]⟩,
               ⟨some 38, some (35, true), .ex (.len) [.s 37]⟩,
               ⟨some 39, some (35, true), .ex (.ibin .eql) [.s 38, .k (.int .i64 0)]⟩,
               ⟨some 40, none, .ex (.pick) [.s 35, .s 39, .k (.bool false)]⟩,
               ⟨some 41, none, .ex (.mov) [.s 40]⟩,
               ⟨some 42, some (41, true), .ex (.fa 2) [.s 1]⟩,
               ⟨some 43, some (41, true), .ex (.ld 1) [.s 42]⟩,
               ⟨some 44, some (41, true), .callf 136 [.s 43, .k (.fn (.func 137) [] [])]⟩,
               ⟨some 45, some (41, true), .ex (.bnot) [.s 44]⟩,
               ⟨some 46, none, .ex (.pick) [.s 41, .s 45, .k (.bool false)]⟩,
               ⟨some 2, none, .ex (.mov) [.s 46]⟩])
             .ret)
            .skip))))))))
    (.seq
     (.region [⟨some 2, none, .ex (.mov) [.k (.bool false)]⟩])
     .ret)))),
 [.t 2]⟩
theorem c127 : compFn Go.Proofs.Tryz.prog 127 = some fn127 := by kernel_rfl

/-- rubric/attrs.May -/
def fn128 : AFn := ⟨48,
 (.seq
  (.region [⟨some 4, none, .ex (.mov) [.k (.int .i64 0)]⟩])
  (.seq
   (.seq
    (.region [⟨some 8, none, .ex (.mov) [.s 1]⟩,
      ⟨some 9, none, .ex (.len) [.s 8]⟩,
      ⟨some 10, none, .ex (.ibin .gtr) [.s 9, .k (.int .i64 64)]⟩])
    (.cond (.s 10)
     (.seq
      (.region [⟨some 4, none, .ex (.mov) [.k (.int .i64 3)]⟩])
      .ret)
     .skip))
   (.seq
    (.region [⟨some 5, none, .ex (.mov) [.k (.int .i64 0)]⟩])
    (.seq
     (.seq
      (.region [⟨some 11, none, .ex (.mov) [.s 1]⟩,
        ⟨some 12, none, .ex (.len) [.s 11]⟩,
        ⟨some 13, none, .ex (.mov) [.k (.int .i64 0)]⟩])
      (.block 0
       (.loop
        (.seq
         (.region [⟨some 14, none, .ex (.ibin .lss) [.s 13, .s 12]⟩])
         (.seq
          (.cond (.s 14)
           .skip
           (.exit 0))
          (.seq
           (.block 1
            (.seq
             (.region [⟨some 15, none, .ex (.mov) [.s 13]⟩,
               ⟨some 16, none, .ex (.ia 5) [.s 11, .s 13]⟩,
               ⟨some 17, none, .ex (.lda 5) [.s 16]⟩,
               ⟨some 7, none, .ex (.alloc [(.int .i64 0), (.int .u8 0), (.int .i64 0), (.int .u64 0), (.str ⟨#[]⟩)]) []⟩,
               ⟨some 6, none, .ex (.mov) [.s 15]⟩,
               ⟨none, none, .ex (.st 5) [.s 7, .s 17]⟩])
             (.block 2
              (.seq
               (.draw (.op ⟨some 19, none, .ex (.mov) [.s 6]⟩ (.op ⟨some 20, none, .ex (.ibin .gtr) [.s 19, .k (.int .i64 0)]⟩ (.op ⟨some 21, none, .ex (.mov) [.s 20]⟩ (.op ⟨some 22, some (21, true), .ex (.mov) [.s 1]⟩ (.op ⟨some 23, some (21, true), .ex (.mov) [.s 6]⟩ (.op ⟨some 24, some (21, true), .ex (.ibin .sub) [.s 23, .k (.int .i64 1)]⟩ (.op ⟨some 25, some (21, true), .ex (.ia 5) [.s 22, .s 24]⟩ (.op ⟨some 26, some (21, true), .ex (.fa 0) [.s 25]⟩ (.op ⟨some 27, some (21, true), .ex (.ld 1) [.s 26]⟩ (.op ⟨some 28, some (21, true), .ex (.fa 0) [.s 7]⟩ (.op ⟨some 29, some (21, true), .ex (.ld 1) [.s 28]⟩ (.op ⟨some 30, some (21, true), .ex (.ibin .geq) [.s 27, .s 29]⟩ (.op ⟨some 31, none, .ex (.pick) [.s 21, .s 30, .k (.bool false)]⟩ (.op ⟨some 32, none, .ex (.mov) [.s 31]⟩ (.op ⟨some 33, some (32, false), .ex (.fa 1) [.s 7]⟩ (.op ⟨some 34, some (32, false), .ex (.lda 4) [.s 33]⟩ (.op ⟨some 35, some (32, false), .callf 139 [.s 34]⟩ (.op ⟨some 36, some (32, false), .ex (.bnot) [.s 35]⟩ (.op ⟨some 37, none, .ex (.pick) [.s 32, .k (.bool true), .s 36]⟩ (.op ⟨some 18, none, .ex (.mov) [.s 37]⟩ .done)))))))))))))))))))))
               (.cond (.s 18)
                (.seq
                 (.region [⟨some 4, none, .ex (.mov) [.k (.int .i64 3)]⟩])
                 .ret)
                (.seq
                 (.region [⟨some 39, none, .ex (.mov) [.s 0]⟩,
                   ⟨some 40, none, .ex (.fa 0) [.s 7]⟩,
                   ⟨some 41, none, .ex (.ld 1) [.s 40]⟩,
                   ⟨some 42, none, .ex (.fa 1) [.s 7]⟩,
                   ⟨some 43, none, .ex (.lda 4) [.s 42]⟩,
                   ⟨some 44, none, .callf 140 [.s 39, .s 41, .s 43]⟩,
                   ⟨some 45, none, .ex (.bnot) [.s 44]⟩,
                   ⟨some 38, none, .ex (.mov) [.s 45]⟩])
                 (.cond (.s 38)
                  (.region [⟨some 5, none, .ex (.mov) [.k (.int .i64 4)]⟩])
                  .skip)))))))
           (.region [⟨some 46, none, .ex (.ibin .add) [.s 13, .k (.int .i64 1)]⟩,
             ⟨some 13, none, .ex (.mov) [.s 46]⟩])))))))
     (.seq
      (.region [⟨some 47, none, .ex (.mov) [.s 5]⟩,
        ⟨some 4, none, .ex (.mov) [.s 47]⟩])
      .ret))))),
 [.t 4]⟩
theorem c128 : compFn Go.Proofs.Tryz.prog 128 = some fn128 := by kernel_rfl

/-- rubric/patch.May -/
def fn129 : AFn := ⟨77,
 (.seq
  (.region [⟨some 4, none, .ex (.mov) [.k (.int .i64 0)]⟩])
  (.seq
   (.seq
    (.region [⟨some 10, none, .ex (.mov) [.s 1]⟩,
      ⟨some 11, none, .ex (.len) [.s 10]⟩,
      ⟨some 12, none, .ex (.ibin .gtr) [.s 11, .k (.int .i64 64)]⟩])
    (.cond (.s 12)
     (.seq
      (.region [⟨some 4, none, .ex (.mov) [.k (.int .i64 3)]⟩])
      .ret)
     .skip))
   (.seq
    (.region [⟨some 5, none, .ex (.mov) [.k (.int .i64 0)]⟩])
    (.seq
     (.seq
      (.region [⟨some 13, none, .ex (.mov) [.s 1]⟩,
        ⟨some 14, none, .ex (.len) [.s 13]⟩,
        ⟨some 15, none, .ex (.mov) [.k (.int .i64 0)]⟩])
      (.block 0
       (.loop
        (.seq
         (.region [⟨some 16, none, .ex (.ibin .lss) [.s 15, .s 14]⟩])
         (.seq
          (.cond (.s 16)
           .skip
           (.exit 0))
          (.seq
           (.block 1
            (.seq
             (.region [⟨some 17, none, .ex (.mov) [.s 15]⟩,
               ⟨some 18, none, .ex (.ia 6) [.s 13, .s 15]⟩,
               ⟨some 19, none, .ex (.lda 6) [.s 18]⟩,
               ⟨some 7, none, .ex (.alloc [(.int .i64 0), (.bool false), (.int .u8 0), (.int .i64 0), (.int .u64 0), (.str ⟨#[]⟩)]) []⟩,
               ⟨some 6, none, .ex (.mov) [.s 17]⟩,
               ⟨none, none, .ex (.st 6) [.s 7, .s 19]⟩])
             (.seq
              (.region [⟨some 21, none, .ex (.mov) [.s 0]⟩,
                ⟨some 22, none, .ex (.fa 0) [.s 7]⟩,
                ⟨some 23, none, .ex (.ld 1) [.s 22]⟩,
                ⟨some 24, none, .callf 134 [.s 21, .s 23]⟩,
                ⟨some 20, none, .ex (.mov) [.s 24]⟩,
                ⟨some 25, none, .ex (.ext 0) [.s 20]⟩,
                ⟨some 26, none, .ex (.ext 1) [.s 20]⟩,
                ⟨some 8, none, .ex (.alloc [(.int .i64 0), (.bool false), (.int .u8 0), (.bool false), (.bool false), (.int .i64 0)]) []⟩,
                ⟨none, none, .ex (.st 6) [.s 8, .s 25]⟩,
                ⟨some 9, none, .ex (.mov) [.s 26]⟩])
              (.block 2
               (.seq
                (.seq
                 (.draw (.op ⟨some 28, none, .ex (.mov) [.s 6]⟩ (.op ⟨some 29, none, .ex (.ibin .gtr) [.s 28, .k (.int .i64 0)]⟩ (.op ⟨some 30, none, .ex (.mov) [.s 29]⟩ (.op ⟨some 31, some (30, true), .ex (.mov) [.s 1]⟩ (.op ⟨some 32, some (30, true), .ex (.mov) [.s 6]⟩ (.op ⟨some 33, some (30, true), .ex (.ibin .sub) [.s 32, .k (.int .i64 1)]⟩ (.op ⟨some 34, some (30, true), .ex (.ia 6) [.s 31, .s 33]⟩ (.op ⟨some 35, some (30, true), .ex (.fa 0) [.s 34]⟩ (.op ⟨some 36, some (30, true), .ex (.ld 1) [.s 35]⟩ (.op ⟨some 37, some (30, true), .ex (.fa 0) [.s 7]⟩ (.op ⟨some 38, some (30, true), .ex (.ld 1) [.s 37]⟩ (.op ⟨some 39, some (30, true), .ex (.ibin .geq) [.s 36, .s 38]⟩ (.op ⟨some 40, none, .ex (.pick) [.s 30, .s 39, .k (.bool false)]⟩ (.op ⟨some 27, none, .ex (.mov) [.s 40]⟩ .done)))))))))))))))
                 (.cond (.s 27)
                  .skip
                  (.seq
                   (.region [⟨some 41, none, .ex (.fa 1) [.s 7]⟩,
                     ⟨some 42, none, .ex (.ld 1) [.s 41]⟩,
                     ⟨some 43, none, .ex (.mov) [.s 42]⟩,
                     ⟨some 44, some (43, true), .ex (.fa 2) [.s 7]⟩,
                     ⟨some 45, some (43, true), .ex (.lda 4) [.s 44]⟩,
                     ⟨some 46, some (43, true), .ex (.build [(.int .u8 0), (.int .i64 0), (.int .u64 0), (.str ⟨#[]⟩)] []) []⟩,
                     ⟨some 47, some (43, true), .ex (.eqagg true [0, 0, 0, 2]) [.s 45, .s 46]⟩,
                     ⟨some 48, none, .ex (.pick) [.s 43, .s 47, .k (.bool false)]⟩,
                     ⟨some 27, none, .ex (.mov) [.s 48]⟩])
                   (.cond (.s 27)
                    .skip
                    (.region [⟨some 49, none, .ex (.fa 1) [.s 7]⟩,
                      ⟨some 50, none, .ex (.ld 1) [.s 49]⟩,
                      ⟨some 51, none, .ex (.bnot) [.s 50]⟩,
                      ⟨some 52, none, .ex (.mov) [.s 51]⟩,
                      ⟨some 53, some (52, true), .ex (.fa 2) [.s 7]⟩,
                      ⟨some 54, some (52, true), .ex (.lda 4) [.s 53]⟩,
                      ⟨some 55, some (52, true), .callf 139 [.s 54]⟩,
                      ⟨some 56, some (52, true), .ex (.bnot) [.s 55]⟩,
                      ⟨some 57, none, .ex (.pick) [.s 52, .s 56, .k (.bool false)]⟩,
                      ⟨some 27, none, .ex (.mov) [.s 57]⟩])))))
                (.cond (.s 27)
                 (.seq
                  (.region [⟨some 4, none, .ex (.mov) [.k (.int .i64 3)]⟩])
                  .ret)
                 (.seq
                  (.region [⟨some 59, none, .ex (.mov) [.s 9]⟩,
                    ⟨some 60, none, .ex (.bnot) [.s 59]⟩,
                    ⟨some 61, none, .ex (.mov) [.s 60]⟩,
                    ⟨some 62, some (61, false), .ex (.fa 1) [.s 7]⟩,
                    ⟨some 63, some (61, false), .ex (.ld 1) [.s 62]⟩,
                    ⟨some 64, some (61, false), .ex (.bnot) [.s 63]⟩,
                    ⟨some 65, some (61, false), .ex (.mov) [.s 64]⟩,
                    ⟨some 66, some (65, true), .ex (.mov) [.s 0]⟩,
                    ⟨some 67, some (65, true), .ex (.fa 0) [.s 7]⟩,
                    ⟨some 68, some (65, true), .ex (.ld 1) [.s 67]⟩,
                    ⟨some 69, some (65, true), .ex (.fa 2) [.s 7]⟩,
                    ⟨some 70, some (65, true), .ex (.lda 4) [.s 69]⟩,
                    ⟨some 71, some (65, true), .callf 140 [.s 66, .s 68, .s 70]⟩,
                    ⟨some 72, some (65, true), .ex (.bnot) [.s 71]⟩,
                    ⟨some 73, some (61, false), .ex (.pick) [.s 65, .s 72, .k (.bool false)]⟩,
                    ⟨some 74, none, .ex (.pick) [.s 61, .k (.bool true), .s 73]⟩,
                    ⟨some 58, none, .ex (.mov) [.s 74]⟩])
                  (.cond (.s 58)
                   (.region [⟨some 5, none, .ex (.mov) [.k (.int .i64 4)]⟩])
                   .skip))))))))
           (.region [⟨some 75, none, .ex (.ibin .add) [.s 15, .k (.int .i64 1)]⟩,
             ⟨some 15, none, .ex (.mov) [.s 75]⟩])))))))
     (.seq
      (.region [⟨some 76, none, .ex (.mov) [.s 5]⟩,
        ⟨some 4, none, .ex (.mov) [.s 76]⟩])
      .ret))))),
 [.t 4]⟩
theorem c129 : compFn Go.Proofs.Tryz.prog 129 = some fn129 := by kernel_rfl

/-- slices.Equal[[]rubric/api.Change,rubric/api.Change] -/
def fn130 : AFn := ⟨26,
 (.seq
  (.region [⟨some 4, none, .ex (.mov) [.k (.bool false)]⟩])
  (.seq
   (.seq
    (.region [⟨some 6, none, .ex (.mov) [.s 0]⟩,
      ⟨some 7, none, .ex (.len) [.s 6]⟩,
      ⟨some 8, none, .ex (.mov) [.s 1]⟩,
      ⟨some 9, none, .ex (.len) [.s 8]⟩,
      ⟨some 10, none, .ex (.ibin .neq) [.s 7, .s 9]⟩])
    (.cond (.s 10)
     (.seq
      (.region [⟨some 4, none, .ex (.mov) [.k (.bool false)]⟩])
      .ret)
     .skip))
   (.seq
    (.seq
     (.region [⟨some 11, none, .ex (.mov) [.s 0]⟩,
       ⟨some 12, none, .ex (.len) [.s 11]⟩,
       ⟨some 13, none, .ex (.mov) [.k (.int .i64 0)]⟩])
     (.block 0
      (.loop
       (.seq
        (.region [⟨some 14, none, .ex (.ibin .lss) [.s 13, .s 12]⟩])
        (.seq
         (.cond (.s 14)
          .skip
          (.exit 0))
         (.seq
          (.block 1
           (.seq
            (.region [⟨some 15, none, .ex (.mov) [.s 13]⟩,
              ⟨some 5, none, .ex (.mov) [.s 15]⟩])
            (.seq
             (.draw (.op ⟨some 16, none, .ex (.mov) [.s 0]⟩ (.op ⟨some 17, none, .ex (.mov) [.s 5]⟩ (.op ⟨some 18, none, .ex (.ia 6) [.s 16, .s 17]⟩ (.op ⟨some 19, none, .ex (.lda 6) [.s 18]⟩ (.op ⟨some 20, none, .ex (.mov) [.s 1]⟩ (.op ⟨some 21, none, .ex (.mov) [.s 5]⟩ (.op ⟨some 22, none, .ex (.ia 6) [.s 20, .s 21]⟩ (.op ⟨some 23, none, .ex (.lda 6) [.s 22]⟩ (.op ⟨some 24, none, .ex (.eqagg true [0, 1, 0, 0, 0, 2]) [.s 19, .s 23]⟩ .done))))))))))
             (.cond (.s 24)
              (.seq
               (.region [⟨some 4, none, .ex (.mov) [.k (.bool false)]⟩])
               .ret)
              .skip))))
          (.region [⟨some 25, none, .ex (.ibin .add) [.s 13, .k (.int .i64 1)]⟩,
            ⟨some 13, none, .ex (.mov) [.s 25]⟩])))))))
    (.seq
     (.region [⟨some 4, none, .ex (.mov) [.k (.bool true)]⟩])
     .ret)))),
 [.t 4]⟩
theorem c130 : compFn Go.Proofs.Tryz.prog 130 = some fn130 := by kernel_rfl

/-- slices.Equal[[]rubric/api.Attr,rubric/api.Attr] -/
def fn131 : AFn := ⟨26,
 (.seq
  (.region [⟨some 4, none, .ex (.mov) [.k (.bool false)]⟩])
  (.seq
   (.seq
    (.region [⟨some 6, none, .ex (.mov) [.s 0]⟩,
      ⟨some 7, none, .ex (.len) [.s 6]⟩,
      ⟨some 8, none, .ex (.mov) [.s 1]⟩,
      ⟨some 9, none, .ex (.len) [.s 8]⟩,
      ⟨some 10, none, .ex (.ibin .neq) [.s 7, .s 9]⟩])
    (.cond (.s 10)
     (.seq
      (.region [⟨some 4, none, .ex (.mov) [.k (.bool false)]⟩])
      .ret)
     .skip))
   (.seq
    (.seq
     (.region [⟨some 11, none, .ex (.mov) [.s 0]⟩,
       ⟨some 12, none, .ex (.len) [.s 11]⟩,
       ⟨some 13, none, .ex (.mov) [.k (.int .i64 0)]⟩])
     (.block 0
      (.loop
       (.seq
        (.region [⟨some 14, none, .ex (.ibin .lss) [.s 13, .s 12]⟩])
        (.seq
         (.cond (.s 14)
          .skip
          (.exit 0))
         (.seq
          (.block 1
           (.seq
            (.region [⟨some 15, none, .ex (.mov) [.s 13]⟩,
              ⟨some 5, none, .ex (.mov) [.s 15]⟩])
            (.seq
             (.draw (.op ⟨some 16, none, .ex (.mov) [.s 0]⟩ (.op ⟨some 17, none, .ex (.mov) [.s 5]⟩ (.op ⟨some 18, none, .ex (.ia 5) [.s 16, .s 17]⟩ (.op ⟨some 19, none, .ex (.lda 5) [.s 18]⟩ (.op ⟨some 20, none, .ex (.mov) [.s 1]⟩ (.op ⟨some 21, none, .ex (.mov) [.s 5]⟩ (.op ⟨some 22, none, .ex (.ia 5) [.s 20, .s 21]⟩ (.op ⟨some 23, none, .ex (.lda 5) [.s 22]⟩ (.op ⟨some 24, none, .ex (.eqagg true [0, 0, 0, 0, 2]) [.s 19, .s 23]⟩ .done))))))))))
             (.cond (.s 24)
              (.seq
               (.region [⟨some 4, none, .ex (.mov) [.k (.bool false)]⟩])
               .ret)
              .skip))))
          (.region [⟨some 25, none, .ex (.ibin .add) [.s 13, .k (.int .i64 1)]⟩,
            ⟨some 13, none, .ex (.mov) [.s 25]⟩])))))))
    (.seq
     (.region [⟨some 4, none, .ex (.mov) [.k (.bool true)]⟩])
     .ret)))),
 [.t 4]⟩
theorem c131 : compFn Go.Proofs.Tryz.prog 131 = some fn131 := by kernel_rfl

/-- slices.DeleteFunc[[]rubric/api.Change,rubric/api.Change] -/
def fn132 : AFn := ⟨42,
 (.seq
  (.region [⟨some 4, none, .ex (.mov) [.k .nils]⟩])
  (.seq
   (.region [⟨some 8, none, .ex (.mov) [.s 0]⟩,
     ⟨some 9, none, .ex (.mov) [.s 1]⟩,
     ⟨some 10, none, .callf 141 [.s 8, .s 9]⟩,
     ⟨some 5, none, .ex (.mov) [.s 10]⟩])
   (.seq
    (.seq
     (.region [⟨some 11, none, .ex (.mov) [.s 5]⟩,
       ⟨some 12, none, .ex (.ibin .eql) [.s 11, .k (.int .i64 (-1))]⟩])
     (.cond (.s 12)
      (.seq
       (.region [⟨some 13, none, .ex (.mov) [.s 0]⟩,
         ⟨some 4, none, .ex (.mov) [.s 13]⟩])
       .ret)
      .skip))
    (.seq
     (.seq
      (.region [⟨some 14, none, .ex (.mov) [.s 5]⟩,
        ⟨some 15, none, .ex (.ibin .add) [.s 14, .k (.int .i64 1)]⟩,
        ⟨some 6, none, .ex (.mov) [.s 15]⟩])
      (.block 0
       (.loop
        (.seq
         (.seq
          (.region [⟨some 16, none, .ex (.mov) [.s 6]⟩,
            ⟨some 17, none, .ex (.mov) [.s 0]⟩,
            ⟨some 18, none, .ex (.len) [.s 17]⟩,
            ⟨some 19, none, .ex (.ibin .lss) [.s 16, .s 18]⟩])
          (.cond (.s 19)
           .skip
           (.exit 0)))
         (.seq
          (.block 1
           (.seq
            (.region [⟨some 22, none, .ex (.mov) [.s 0]⟩,
              ⟨some 23, none, .ex (.mov) [.s 6]⟩,
              ⟨some 24, none, .ex (.ia 6) [.s 22, .s 23]⟩,
              ⟨some 25, none, .ex (.lda 6) [.s 24]⟩,
              ⟨some 7, none, .ex (.alloc [(.int .i64 0), (.bool false), (.int .u8 0), (.int .i64 0), (.int .u64 0), (.str ⟨#[]⟩)]) []⟩,
              ⟨none, none, .ex (.st 6) [.s 7, .s 25]⟩])
            (.seq
             (.region [⟨some 26, none, .ex (.mov) [.s 1]⟩,
               ⟨some 27, none, .ex (.lda 6) [.s 7]⟩,
               ⟨some 28, none, .callv (.s 26) [.s 27]⟩,
               ⟨some 29, none, .ex (.bnot) [.s 28]⟩])
             (.cond (.s 29)
              (.seq
               (.region [⟨some 30, none, .ex (.mov) [.s 0]⟩,
                 ⟨some 31, none, .ex (.mov) [.s 5]⟩,
                 ⟨some 32, none, .ex (.lda 6) [.s 7]⟩,
                 ⟨some 33, none, .ex (.ia 6) [.s 30, .s 31]⟩,
                 ⟨none, none, .ex (.st 6) [.s 33, .s 32]⟩])
               (.region [⟨some 34, none, .ex (.mov) [.s 5]⟩,
                 ⟨some 35, none, .ex (.ibin .add) [.s 34, .k (.int .i64 1)]⟩,
                 ⟨some 5, none, .ex (.mov) [.s 35]⟩]))
              .skip))))
          (.region [⟨some 20, none, .ex (.mov) [.s 6]⟩,
            ⟨some 21, none, .ex (.ibin .add) [.s 20, .k (.int .i64 1)]⟩,
            ⟨some 6, none, .ex (.mov) [.s 21]⟩]))))))
     (.seq
      (.region [⟨some 36, none, .ex (.mov) [.s 0]⟩,
        ⟨some 37, none, .ex (.mov) [.s 5]⟩,
        ⟨some 38, none, .ex (.slc 6 true false false) [.s 36, .s 37]⟩,
        ⟨none, none, .ex (.clear [(.int .i64 0), (.bool false), (.int .u8 0), (.int .i64 0), (.int .u64 0), (.str ⟨#[]⟩)]) [.s 38]⟩])
      (.seq
       (.region [⟨some 39, none, .ex (.mov) [.s 0]⟩,
         ⟨some 40, none, .ex (.mov) [.s 5]⟩,
         ⟨some 41, none, .ex (.slc 6 false true false) [.s 39, .s 40]⟩,
         ⟨some 4, none, .ex (.mov) [.s 41]⟩])
       .ret)))))),
 [.t 4]⟩
theorem c132 : compFn Go.Proofs.Tryz.prog 132 = some fn132 := by kernel_rfl

/-- rubric/patch.Part$1 -/
def fn133 : AFn := ⟨22,
 (.seq
  (.region [⟨some 3, none, .ex (.box) [.s 0]⟩,
    ⟨some 4, none, .ex (.mov) [.k (.bool false)]⟩])
  (.seq
   (.region [⟨some 8, none, .ex (.ld 1) [.s 1]⟩,
     ⟨some 9, none, .ex (.fa 0) [.s 3]⟩,
     ⟨some 10, none, .ex (.ld 1) [.s 9]⟩,
     ⟨some 11, none, .callf 134 [.s 8, .s 10]⟩,
     ⟨some 7, none, .ex (.mov) [.s 11]⟩,
     ⟨some 12, none, .ex (.ext 0) [.s 7]⟩,
     ⟨some 13, none, .ex (.ext 1) [.s 7]⟩,
     ⟨some 5, none, .ex (.alloc [(.int .i64 0), (.bool false), (.int .u8 0), (.bool false), (.bool false), (.int .i64 0)]) []⟩,
     ⟨none, none, .ex (.st 6) [.s 5, .s 12]⟩,
     ⟨some 6, none, .ex (.mov) [.s 13]⟩])
   (.seq
    (.region [⟨some 14, none, .ex (.mov) [.s 6]⟩,
      ⟨some 15, none, .ex (.bnot) [.s 14]⟩,
      ⟨some 16, none, .ex (.mov) [.s 15]⟩,
      ⟨some 17, some (16, false), .ex (.fa 1) [.s 5]⟩,
      ⟨some 18, some (16, false), .ex (.ld 1) [.s 17]⟩,
      ⟨some 19, some (16, false), .ex (.ld 1) [.s 2]⟩,
      ⟨some 20, some (16, false), .ex (.bbin true) [.s 18, .s 19]⟩,
      ⟨some 21, none, .ex (.pick) [.s 16, .k (.bool true), .s 20]⟩,
      ⟨some 4, none, .ex (.mov) [.s 21]⟩])
    .ret))),
 [.t 4]⟩
theorem c133 : compFn Go.Proofs.Tryz.prog 133 = some fn133 := by kernel_rfl

/-- (*rubric/schema.Schema).Find -/
def fn134 : AFn := ⟨22,
 (.seq
  (.region [⟨some 4, none, .ex (.alloc [(.int .i64 0), (.bool false), (.int .u8 0), (.bool false), (.bool false), (.int .i64 0)]) []⟩,
    ⟨some 5, none, .ex (.mov) [.k (.bool false)]⟩])
  (.seq
   (.seq
    (.region [⟨some 8, none, .ex (.mov) [.s 0]⟩,
      ⟨some 9, none, .ex (.eqnil 0 false) [.s 8, .k .nilp]⟩])
    (.cond (.s 9)
     (.seq
      (.region [⟨some 10, none, .ex (.build [(.int .i64 0), (.bool false), (.int .u8 0), (.bool false), (.bool false), (.int .i64 0)] []) []⟩,
        ⟨none, none, .ex (.st 6) [.s 4, .s 10]⟩,
        ⟨some 5, none, .ex (.mov) [.k (.bool false)]⟩])
      .ret)
     .skip))
   (.seq
    (.region [⟨some 12, none, .ex (.mov) [.s 0]⟩,
      ⟨some 13, none, .ex (.nilck) [.s 12]⟩,
      ⟨some 14, none, .ex (.fa 1) [.s 13]⟩,
      ⟨some 15, none, .ex (.ld 1) [.s 14]⟩,
      ⟨some 16, none, .ex (.mov) [.s 1]⟩,
      ⟨some 17, none, .ex (.look 0 (.agg [(.int .i64 0), (.bool false), (.int .u8 0), (.bool false), (.bool false), (.int .i64 0)]) true) [.s 15, .s 16]⟩,
      ⟨some 11, none, .ex (.mov) [.s 17]⟩,
      ⟨some 18, none, .ex (.ext 0) [.s 11]⟩,
      ⟨some 19, none, .ex (.ext 1) [.s 11]⟩,
      ⟨some 6, none, .ex (.alloc [(.int .i64 0), (.bool false), (.int .u8 0), (.bool false), (.bool false), (.int .i64 0)]) []⟩,
      ⟨none, none, .ex (.st 6) [.s 6, .s 18]⟩,
      ⟨some 7, none, .ex (.mov) [.s 19]⟩])
    (.seq
     (.region [⟨some 20, none, .ex (.lda 6) [.s 6]⟩,
       ⟨some 21, none, .ex (.mov) [.s 7]⟩,
       ⟨none, none, .ex (.st 6) [.s 4, .s 20]⟩,
       ⟨some 5, none, .ex (.mov) [.s 21]⟩])
     .ret)))),
 [.ca 4 6, .t 5]⟩
theorem c134 : compFn Go.Proofs.Tryz.prog 134 = some fn134 := by kernel_rfl

/-- slices.ContainsFunc[[]int32,int32] -/
def fn136 : AFn := ⟨9,
 (.seq
  (.region [⟨some 4, none, .ex (.mov) [.k (.bool false)]⟩])
  (.seq
   (.region [⟨some 5, none, .ex (.mov) [.s 0]⟩,
     ⟨some 6, none, .ex (.mov) [.s 1]⟩,
     ⟨some 7, none, .callf 143 [.s 5, .s 6]⟩,
     ⟨some 8, none, .ex (.ibin .geq) [.s 7, .k (.int .i64 0)]⟩,
     ⟨some 4, none, .ex (.mov) [.s 8]⟩])
   .ret)),
 [.t 4]⟩
theorem c136 : compFn Go.Proofs.Tryz.prog 136 = some fn136 := by kernel_rfl

/-- rubric/ops.form$1 -/
def fn137 : AFn := ⟨6,
 (.seq
  (.region [⟨some 2, none, .ex (.mov) [.k (.bool false)]⟩])
  (.seq
   (.region [⟨some 3, none, .ex (.mov) [.s 0]⟩,
     ⟨some 4, none, .callf 138 [.s 3]⟩,
     ⟨some 5, none, .ex (.bnot) [.s 4]⟩,
     ⟨some 2, none, .ex (.mov) [.s 5]⟩])
   .ret)),
 [.t 2]⟩
theorem c137 : compFn Go.Proofs.Tryz.prog 137 = some fn137 := by kernel_rfl

/-- rubric/runes.May -/
def fn138 : AFn := ⟨5,
 (.seq
  (.region [⟨some 2, none, .ex (.mov) [.k (.bool false)]⟩])
  (.seq
   (.region [⟨some 3, none, .ex (.mov) [.s 0]⟩,
     ⟨some 4, none, .callf 144 [.s 3]⟩,
     ⟨some 2, none, .ex (.mov) [.s 4]⟩])
   .ret)),
 [.t 2]⟩
theorem c138 : compFn Go.Proofs.Tryz.prog 138 = some fn138 := by kernel_rfl

/-- rubric/value.May -/
def fn139 : AFn := ⟨45,
 (.seq
  (.region [⟨some 1, none, .ex (.box) [.s 0]⟩,
    ⟨some 2, none, .ex (.mov) [.k (.bool false)]⟩])
  (.seq
   (.seq
    (.region [⟨some 5, none, .ex (.fa 0) [.s 1]⟩,
      ⟨some 6, none, .ex (.ld 1) [.s 5]⟩])
    (.block 0
     (.seq
      (.region [⟨some 8, none, .ex (.ibin .eql) [.s 6, .k (.int .u8 1)]⟩,
        ⟨some 7, none, .ex (.mov) [.s 8]⟩])
      (.cond (.s 7)
       (.seq
        (.draw (.op ⟨some 10, none, .ex (.fa 1) [.s 1]⟩ (.op ⟨some 11, none, .ex (.ld 1) [.s 10]⟩ (.op ⟨some 12, none, .ex (.ibin .eql) [.s 11, .k (.int .i64 1)]⟩ (.fork (.op ⟨some 9, none, .ex (.lda 4) [.s 1]⟩ (.op ⟨some 13, none, .callf 145 [.s 12]⟩ (.op ⟨some 14, none, .ex (.eqagg false [0, 0, 0, 2]) [.s 9, .s 13]⟩ (.op ⟨some 2, none, .ex (.mov) [.s 14]⟩ .done)))) (.op ⟨some 13, none, .callf 145 [.s 12]⟩ (.op ⟨some 9, none, .ex (.lda 4) [.s 1]⟩ (.op ⟨some 14, none, .ex (.eqagg false [0, 0, 0, 2]) [.s 9, .s 13]⟩ (.op ⟨some 2, none, .ex (.mov) [.s 14]⟩ .done)))))))))
        .ret)
       (.seq
        (.region [⟨some 16, none, .ex (.ibin .eql) [.s 6, .k (.int .u8 2)]⟩,
          ⟨some 15, none, .ex (.mov) [.s 16]⟩])
        (.cond (.s 15)
         (.seq
          (.draw (.op ⟨some 18, none, .ex (.fa 1) [.s 1]⟩ (.op ⟨some 19, none, .ex (.ld 1) [.s 18]⟩ (.fork (.op ⟨some 17, none, .ex (.lda 4) [.s 1]⟩ (.op ⟨some 20, none, .callf 146 [.s 19]⟩ (.op ⟨some 21, none, .ex (.eqagg false [0, 0, 0, 2]) [.s 17, .s 20]⟩ (.op ⟨some 2, none, .ex (.mov) [.s 21]⟩ .done)))) (.op ⟨some 20, none, .callf 146 [.s 19]⟩ (.op ⟨some 17, none, .ex (.lda 4) [.s 1]⟩ (.op ⟨some 21, none, .ex (.eqagg false [0, 0, 0, 2]) [.s 17, .s 20]⟩ (.op ⟨some 2, none, .ex (.mov) [.s 21]⟩ .done))))))))
          .ret)
         (.seq
          (.region [⟨some 23, none, .ex (.ibin .eql) [.s 6, .k (.int .u8 3)]⟩,
            ⟨some 22, none, .ex (.mov) [.s 23]⟩])
          (.cond (.s 22)
           (.seq
            (.draw (.op ⟨some 25, none, .ex (.fa 2) [.s 1]⟩ (.op ⟨some 26, none, .ex (.ld 1) [.s 25]⟩ (.op ⟨some 27, none, .ffrom 148 (.s 26)⟩ (.fork (.op ⟨some 24, none, .ex (.lda 4) [.s 1]⟩ (.op ⟨some 28, none, .callf 147 [.s 27]⟩ (.op ⟨some 29, none, .ex (.eqagg false [0, 0, 0, 2]) [.s 24, .s 28]⟩ (.op ⟨some 2, none, .ex (.mov) [.s 29]⟩ .done)))) (.op ⟨some 28, none, .callf 147 [.s 27]⟩ (.op ⟨some 24, none, .ex (.lda 4) [.s 1]⟩ (.op ⟨some 29, none, .ex (.eqagg false [0, 0, 0, 2]) [.s 24, .s 28]⟩ (.op ⟨some 2, none, .ex (.mov) [.s 29]⟩ .done)))))))))
            .ret)
           (.seq
            (.region [⟨some 31, none, .ex (.ibin .eql) [.s 6, .k (.int .u8 4)]⟩,
              ⟨some 30, none, .ex (.mov) [.s 31]⟩])
            (.cond (.s 30)
             (.seq
              (.region [⟨some 33, none, .ex (.fa 3) [.s 1]⟩,
                ⟨some 34, none, .ex (.ld 1) [.s 33]⟩,
                ⟨some 35, none, .callf 149 [.s 34]⟩,
                ⟨some 32, none, .ex (.mov) [.s 35]⟩,
                ⟨some 36, none, .ex (.ext 0) [.s 32]⟩,
                ⟨some 37, none, .ex (.ext 1) [.s 32]⟩,
                ⟨some 3, none, .ex (.alloc [(.int .u8 0), (.int .i64 0), (.int .u64 0), (.str ⟨#[]⟩)]) []⟩,
                ⟨none, none, .ex (.st 4) [.s 3, .s 36]⟩,
                ⟨some 4, none, .ex (.mov) [.s 37]⟩])
              (.seq
               (.region [⟨some 38, none, .ex (.mov) [.s 4]⟩,
                 ⟨some 39, none, .ex (.ibin .eql) [.s 38, .k (.int .i64 0)]⟩,
                 ⟨some 40, none, .ex (.mov) [.s 39]⟩,
                 ⟨some 41, some (40, true), .ex (.lda 4) [.s 1]⟩,
                 ⟨some 42, some (40, true), .ex (.lda 4) [.s 3]⟩,
                 ⟨some 43, some (40, true), .ex (.eqagg false [0, 0, 0, 2]) [.s 41, .s 42]⟩,
                 ⟨some 44, none, .ex (.pick) [.s 40, .s 43, .k (.bool false)]⟩,
                 ⟨some 2, none, .ex (.mov) [.s 44]⟩])
               .ret))
             .skip))))))))))
   (.seq
    (.region [⟨some 2, none, .ex (.mov) [.k (.bool false)]⟩])
    .ret))),
 [.t 2]⟩
theorem c139 : compFn Go.Proofs.Tryz.prog 139 = some fn139 := by kernel_rfl

/-- (*rubric/schema.Schema).Fits -/
def fn140 : AFn := ⟨27,
 (.seq
  (.region [⟨some 5, none, .ex (.box) [.s 2]⟩,
    ⟨some 6, none, .ex (.mov) [.k (.bool false)]⟩])
  (.seq
   (.region [⟨some 10, none, .ex (.mov) [.s 0]⟩,
     ⟨some 11, none, .ex (.mov) [.s 1]⟩,
     ⟨some 12, none, .callf 134 [.s 10, .s 11]⟩,
     ⟨some 9, none, .ex (.mov) [.s 12]⟩,
     ⟨some 13, none, .ex (.ext 0) [.s 9]⟩,
     ⟨some 14, none, .ex (.ext 1) [.s 9]⟩,
     ⟨some 7, none, .ex (.alloc [(.int .i64 0), (.bool false), (.int .u8 0), (.bool false), (.bool false), (.int .i64 0)]) []⟩,
     ⟨none, none, .ex (.st 6) [.s 7, .s 13]⟩,
     ⟨some 8, none, .ex (.mov) [.s 14]⟩])
   (.seq
    (.region [⟨some 15, none, .ex (.mov) [.s 8]⟩,
      ⟨some 16, none, .ex (.mov) [.s 15]⟩,
      ⟨some 17, some (16, true), .ex (.fa 2) [.s 7]⟩,
      ⟨some 18, some (16, true), .ex (.ld 1) [.s 17]⟩,
      ⟨some 19, some (16, true), .ex (.fa 0) [.s 5]⟩,
      ⟨some 20, some (16, true), .ex (.ld 1) [.s 19]⟩,
      ⟨some 21, some (16, true), .ex (.ibin .eql) [.s 18, .s 20]⟩,
      ⟨some 22, none, .ex (.pick) [.s 16, .s 21, .k (.bool false)]⟩,
      ⟨some 23, none, .ex (.mov) [.s 22]⟩,
      ⟨some 24, some (23, true), .ex (.lda 4) [.s 5]⟩,
      ⟨some 25, some (23, true), .callf 139 [.s 24]⟩,
      ⟨some 26, none, .ex (.pick) [.s 23, .s 25, .k (.bool false)]⟩,
      ⟨some 6, none, .ex (.mov) [.s 26]⟩])
    .ret))),
 [.t 6]⟩
theorem c140 : compFn Go.Proofs.Tryz.prog 140 = some fn140 := by kernel_rfl

/-- slices.IndexFunc[[]rubric/api.Change,rubric/api.Change] -/
def fn141 : AFn := ⟨19,
 (.seq
  (.region [⟨some 4, none, .ex (.mov) [.k (.int .i64 0)]⟩])
  (.seq
   (.seq
    (.region [⟨some 6, none, .ex (.mov) [.s 0]⟩,
      ⟨some 7, none, .ex (.len) [.s 6]⟩,
      ⟨some 8, none, .ex (.mov) [.k (.int .i64 0)]⟩])
    (.block 0
     (.loop
      (.seq
       (.region [⟨some 9, none, .ex (.ibin .lss) [.s 8, .s 7]⟩])
       (.seq
        (.cond (.s 9)
         .skip
         (.exit 0))
        (.seq
         (.block 1
          (.seq
           (.region [⟨some 10, none, .ex (.mov) [.s 8]⟩,
             ⟨some 5, none, .ex (.mov) [.s 10]⟩])
           (.seq
            (.region [⟨some 11, none, .ex (.mov) [.s 1]⟩,
              ⟨some 12, none, .ex (.mov) [.s 0]⟩,
              ⟨some 13, none, .ex (.mov) [.s 5]⟩,
              ⟨some 14, none, .ex (.ia 6) [.s 12, .s 13]⟩,
              ⟨some 15, none, .ex (.lda 6) [.s 14]⟩,
              ⟨some 16, none, .callv (.s 11) [.s 15]⟩])
            (.cond (.s 16)
             (.seq
              (.region [⟨some 17, none, .ex (.mov) [.s 5]⟩,
                ⟨some 4, none, .ex (.mov) [.s 17]⟩])
              .ret)
             .skip))))
         (.region [⟨some 18, none, .ex (.ibin .add) [.s 8, .k (.int .i64 1)]⟩,
           ⟨some 8, none, .ex (.mov) [.s 18]⟩])))))))
   (.seq
    (.region [⟨some 4, none, .ex (.mov) [.k (.int .i64 (-1))]⟩])
    .ret))),
 [.t 4]⟩
theorem c141 : compFn Go.Proofs.Tryz.prog 141 = some fn141 := by kernel_rfl

/-- slices.IndexFunc[[]int32,int32] -/
def fn143 : AFn := ⟨19,
 (.seq
  (.region [⟨some 4, none, .ex (.mov) [.k (.int .i64 0)]⟩])
  (.seq
   (.seq
    (.region [⟨some 6, none, .ex (.mov) [.s 0]⟩,
      ⟨some 7, none, .ex (.len) [.s 6]⟩,
      ⟨some 8, none, .ex (.mov) [.k (.int .i64 0)]⟩])
    (.block 0
     (.loop
      (.seq
       (.region [⟨some 9, none, .ex (.ibin .lss) [.s 8, .s 7]⟩])
       (.seq
        (.cond (.s 9)
         .skip
         (.exit 0))
        (.seq
         (.block 1
          (.seq
           (.region [⟨some 10, none, .ex (.mov) [.s 8]⟩,
             ⟨some 5, none, .ex (.mov) [.s 10]⟩])
           (.seq
            (.region [⟨some 11, none, .ex (.mov) [.s 1]⟩,
              ⟨some 12, none, .ex (.mov) [.s 0]⟩,
              ⟨some 13, none, .ex (.mov) [.s 5]⟩,
              ⟨some 14, none, .ex (.ia 1) [.s 12, .s 13]⟩,
              ⟨some 15, none, .ex (.ld 1) [.s 14]⟩,
              ⟨some 16, none, .callv (.s 11) [.s 15]⟩])
            (.cond (.s 16)
             (.seq
              (.region [⟨some 17, none, .ex (.mov) [.s 5]⟩,
                ⟨some 4, none, .ex (.mov) [.s 17]⟩])
              .ret)
             .skip))))
         (.region [⟨some 18, none, .ex (.ibin .add) [.s 8, .k (.int .i64 1)]⟩,
           ⟨some 8, none, .ex (.mov) [.s 18]⟩])))))))
   (.seq
    (.region [⟨some 4, none, .ex (.mov) [.k (.int .i64 (-1))]⟩])
    .ret))),
 [.t 4]⟩
theorem c143 : compFn Go.Proofs.Tryz.prog 143 = some fn143 := by kernel_rfl

/-- unicode/utf8.ValidRune -/
def fn144 : AFn := ⟨17,
 (.seq
  (.region [⟨some 2, none, .ex (.mov) [.k (.bool false)]⟩])
  (.seq
   (.block 0
    (.seq
     (.region [⟨some 4, none, .ex (.mov) [.s 0]⟩,
       ⟨some 5, none, .ex (.ibin .leq) [.k (.int .i32 0), .s 4]⟩,
       ⟨some 6, none, .ex (.mov) [.s 5]⟩,
       ⟨some 7, some (6, true), .ex (.mov) [.s 0]⟩,
       ⟨some 8, some (6, true), .ex (.ibin .lss) [.s 7, .k (.int .i32 55296)]⟩,
       ⟨some 9, none, .ex (.pick) [.s 6, .s 8, .k (.bool false)]⟩,
       ⟨some 3, none, .ex (.mov) [.s 9]⟩])
     (.cond (.s 3)
      (.seq
       (.region [⟨some 2, none, .ex (.mov) [.k (.bool true)]⟩])
       .ret)
      (.seq
       (.region [⟨some 11, none, .ex (.mov) [.s 0]⟩,
         ⟨some 12, none, .ex (.ibin .lss) [.k (.int .i32 57343), .s 11]⟩,
         ⟨some 13, none, .ex (.mov) [.s 12]⟩,
         ⟨some 14, some (13, true), .ex (.mov) [.s 0]⟩,
         ⟨some 15, some (13, true), .ex (.ibin .leq) [.s 14, .k (.int .i32 1114111)]⟩,
         ⟨some 16, none, .ex (.pick) [.s 13, .s 15, .k (.bool false)]⟩,
         ⟨some 10, none, .ex (.mov) [.s 16]⟩])
       (.cond (.s 10)
        (.seq
         (.region [⟨some 2, none, .ex (.mov) [.k (.bool true)]⟩])
         .ret)
        .skip)))))
   (.seq
    (.region [⟨some 2, none, .ex (.mov) [.k (.bool false)]⟩])
    .ret))),
 [.t 2]⟩
theorem c144 : compFn Go.Proofs.Tryz.prog 144 = some fn144 := by kernel_rfl

/-- rubric/value.Flag -/
def fn145 : AFn := ⟨8,
 (.seq
  (.region [⟨some 2, none, .ex (.alloc [(.int .u8 0), (.int .i64 0), (.int .u64 0), (.str ⟨#[]⟩)]) []⟩])
  (.seq
   (.region [⟨some 4, none, .ex (.build [(.int .u8 0), (.int .i64 0), (.int .u64 0), (.str ⟨#[]⟩)] [(0, 1)]) [.k (.int .u8 1)]⟩,
     ⟨some 3, none, .ex (.alloc [(.int .u8 0), (.int .i64 0), (.int .u64 0), (.str ⟨#[]⟩)]) []⟩,
     ⟨none, none, .ex (.st 4) [.s 3, .s 4]⟩])
   (.seq
    (.seq
     (.region [⟨some 5, none, .ex (.mov) [.s 0]⟩])
     (.cond (.s 5)
      (.region [⟨some 6, none, .ex (.fa 1) [.s 3]⟩,
        ⟨none, none, .ex (.st 1) [.s 6, .k (.int .i64 1)]⟩])
      .skip))
    (.seq
     (.region [⟨some 7, none, .ex (.lda 4) [.s 3]⟩,
       ⟨none, none, .ex (.st 4) [.s 2, .s 7]⟩])
     .ret)))),
 [.ca 2 4]⟩
theorem c145 : compFn Go.Proofs.Tryz.prog 145 = some fn145 := by kernel_rfl

/-- rubric/value.Int -/
def fn146 : AFn := ⟨5,
 (.seq
  (.region [⟨some 2, none, .ex (.alloc [(.int .u8 0), (.int .i64 0), (.int .u64 0), (.str ⟨#[]⟩)]) []⟩])
  (.seq
   (.region [⟨some 3, none, .ex (.mov) [.s 0]⟩,
     ⟨some 4, none, .ex (.build [(.int .u8 0), (.int .i64 0), (.int .u64 0), (.str ⟨#[]⟩)] [(0, 1), (1, 1)]) [.k (.int .u8 2), .s 3]⟩,
     ⟨none, none, .ex (.st 4) [.s 2, .s 4]⟩])
   .ret)),
 [.ca 2 4]⟩
theorem c146 : compFn Go.Proofs.Tryz.prog 146 = some fn146 := by kernel_rfl

/-- rubric/value.Float -/
def fn147 : AFn := ⟨9,
 (.seq
  (.region [⟨some 2, none, .ex (.alloc [(.int .u8 0), (.int .i64 0), (.int .u64 0), (.str ⟨#[]⟩)]) []⟩])
  (.seq
   (.seq
    (.region [⟨some 3, none, .ex (.mov) [.s 0]⟩,
      ⟨some 4, none, .callf 151 [.s 3]⟩])
    (.cond (.s 4)
     (.seq
      (.region [⟨some 5, none, .ex (.build [(.int .u8 0), (.int .i64 0), (.int .u64 0), (.str ⟨#[]⟩)] [(0, 1), (2, 1)]) [.k (.int .u8 3), .k (.int .u64 9221120237041090560)]⟩,
        ⟨none, none, .ex (.st 4) [.s 2, .s 5]⟩])
      .ret)
     .skip))
   (.seq
    (.region [⟨some 6, none, .ex (.mov) [.s 0]⟩,
      ⟨some 7, none, .fbits 152 (.s 6)⟩,
      ⟨some 8, none, .ex (.build [(.int .u8 0), (.int .i64 0), (.int .u64 0), (.str ⟨#[]⟩)] [(0, 1), (2, 1)]) [.k (.int .u8 3), .s 7]⟩,
      ⟨none, none, .ex (.st 4) [.s 2, .s 8]⟩])
    .ret))),
 [.ca 2 4]⟩
theorem c147 : compFn Go.Proofs.Tryz.prog 147 = some fn147 := by kernel_rfl

/-- rubric/value.Text -/
def fn149 : AFn := ⟨22,
 (.seq
  (.region [⟨some 2, none, .ex (.alloc [(.int .u8 0), (.int .i64 0), (.int .u64 0), (.str ⟨#[]⟩)]) []⟩,
    ⟨some 3, none, .ex (.mov) [.k (.int .i64 0)]⟩])
  (.seq
   (.seq
    (.region [⟨some 6, none, .ex (.mov) [.s 0]⟩,
      ⟨some 7, none, .ex (.slen) [.s 6]⟩,
      ⟨some 8, none, .ex (.ibin .gtr) [.s 7, .k (.int .i64 64)]⟩])
    (.cond (.s 8)
     (.seq
      (.region [⟨some 9, none, .ex (.build [(.int .u8 0), (.int .i64 0), (.int .u64 0), (.str ⟨#[]⟩)] []) []⟩,
        ⟨none, none, .ex (.st 4) [.s 2, .s 9]⟩,
        ⟨some 3, none, .ex (.mov) [.k (.int .i64 3)]⟩])
      .ret)
     .skip))
   (.seq
    (.seq
     (.region [⟨some 11, none, .ex (.mov) [.s 0]⟩,
       ⟨some 12, none, .ex (.s2b) [.s 11]⟩,
       ⟨some 13, none, .callf 153 [.s 12]⟩,
       ⟨some 10, none, .ex (.mov) [.s 13]⟩,
       ⟨some 14, none, .ex (.ext 0) [.s 10]⟩,
       ⟨some 15, none, .ex (.ext 1) [.s 10]⟩,
       ⟨some 4, none, .ex (.mov) [.s 14]⟩,
       ⟨some 5, none, .ex (.mov) [.s 15]⟩])
     (.seq
      (.region [⟨some 16, none, .ex (.mov) [.s 5]⟩,
        ⟨some 17, none, .ex (.ibin .neq) [.s 16, .k (.int .i64 0)]⟩])
      (.cond (.s 17)
       (.seq
        (.region [⟨some 18, none, .ex (.build [(.int .u8 0), (.int .i64 0), (.int .u64 0), (.str ⟨#[]⟩)] []) []⟩,
          ⟨some 19, none, .ex (.mov) [.s 5]⟩,
          ⟨none, none, .ex (.st 4) [.s 2, .s 18]⟩,
          ⟨some 3, none, .ex (.mov) [.s 19]⟩])
        .ret)
       .skip)))
    (.seq
     (.region [⟨some 20, none, .ex (.mov) [.s 0]⟩,
       ⟨some 21, none, .ex (.build [(.int .u8 0), (.int .i64 0), (.int .u64 0), (.str ⟨#[]⟩)] [(0, 1), (3, 1)]) [.k (.int .u8 4), .s 20]⟩,
       ⟨none, none, .ex (.st 4) [.s 2, .s 21]⟩,
       ⟨some 3, none, .ex (.mov) [.k (.int .i64 0)]⟩])
     .ret)))),
 [.ca 2 4, .t 3]⟩
theorem c149 : compFn Go.Proofs.Tryz.prog 149 = some fn149 := by kernel_rfl

/-- math.IsNaN -/
def fn151 : AFn := ⟨6,
 (.seq
  (.region [⟨some 2, none, .ex (.mov) [.k (.bool false)]⟩])
  (.seq
   (.region [⟨some 3, none, .ex (.mov) [.s 0]⟩,
     ⟨some 4, none, .ex (.mov) [.s 0]⟩,
     ⟨some 5, none, .ex (.fbin .neq) [.s 3, .s 4]⟩,
     ⟨some 2, none, .ex (.mov) [.s 5]⟩])
   .ret)),
 [.t 2]⟩
theorem c151 : compFn Go.Proofs.Tryz.prog 151 = some fn151 := by kernel_rfl

/-- rubric/runes.Read -/
def fn153 : AFn := ⟨21,
 (.seq
  (.region [⟨some 2, none, .ex (.mov) [.k .nils]⟩,
    ⟨some 3, none, .ex (.mov) [.k (.int .i64 0)]⟩])
  (.seq
   (.seq
    (.region [⟨some 7, none, .ex (.mov) [.s 0]⟩,
      ⟨some 8, none, .callf 154 [.s 7]⟩,
      ⟨some 9, none, .ex (.bnot) [.s 8]⟩])
    (.cond (.s 9)
     (.seq
      (.region [⟨some 2, none, .ex (.mov) [.k .nils]⟩,
        ⟨some 3, none, .ex (.mov) [.k (.int .i64 3)]⟩])
      .ret)
     .skip))
   (.seq
    (.region [⟨some 4, none, .ex (.mov) [.k .nils]⟩])
    (.seq
     (.seq
      (.region [⟨some 10, none, .ex (.mov) [.s 0]⟩,
        ⟨some 11, none, .ex (.b2s) [.s 10]⟩,
        ⟨some 12, none, .ex (.rits) [.s 11]⟩])
      (.block 0
       (.loop
        (.seq
         (.region [⟨some 13, none, .ex (.rnext) [.s 12]⟩,
           ⟨some 14, none, .ex (.ext 0) [.s 13]⟩])
         (.seq
          (.cond (.s 14)
           .skip
           (.exit 0))
          (.block 1
           (.seq
            (.region [⟨some 15, none, .ex (.ext 2) [.s 13]⟩,
              ⟨some 6, none, .ex (.mov) [.s 15]⟩])
            (.region [⟨some 16, none, .ex (.mov) [.s 4]⟩,
              ⟨some 17, none, .ex (.mov) [.s 6]⟩,
              ⟨some 18, none, .ex (.bsl 1 1 [(.int .i32 0)] [(0, 1)]) [.s 17]⟩,
              ⟨some 19, none, .ex (.app 1 4) [.s 16, .s 18]⟩,
              ⟨some 4, none, .ex (.mov) [.s 19]⟩]))))))))
     (.seq
      (.region [⟨some 20, none, .ex (.mov) [.s 4]⟩,
        ⟨some 2, none, .ex (.mov) [.s 20]⟩,
        ⟨some 3, none, .ex (.mov) [.k (.int .i64 0)]⟩])
      .ret))))),
 [.t 2, .t 3]⟩
theorem c153 : compFn Go.Proofs.Tryz.prog 153 = some fn153 := by kernel_rfl

end Go.Proofs.YtkmaikggdbielaaGreatDoor.Fw

/- Calls that are worked out: small ones. No condition. -/
namespace Go.Proofs.YtkmaikggdbielaaGreatDoor.Fw
open Go
set_option linter.unusedSimpArgs false
set_option linter.unusedVariables false

def tblG : List (Nat × AFn) := [(145, fn145), (146, fn146), (151, fn151)]
theorem tblG_ok : ∀ p ∈ tblG, compFn Go.Proofs.Tryz.prog p.1 = some p.2 := tbl_cons c145 (tbl_cons c146 (tbl_cons c151 tbl_nil))
theorem workedG {k n : Nat} {f : FuncId} {vs : List V} (hvs : flatL vs = true) {c : V} (hc : c.flat = true) (h : (runFn (tblGet tblG) k n f vs H0).map (·.1) = some c) (H : Heap) : SCalls PP f vs H fun r H' => H' = H ∧ r = c :=
  SCalls.worked (fun f af => tblGet_ok tblG_ok) hvs hc h H
def flagV (b : Bool) : List V := [.int .u8 1, .int .i64 (if b then 1 else 0), .int .u64 0, .str ⟨#[]⟩]
theorem flag_calls (b : Bool) (H : Heap) : SCalls PP 145 [.bool b] H fun r H' => H' = H ∧ r = .agg (flagV b) := by
  cases b
  · exact workedG rfl rfl (k := 10) (n := 5) (by kernel_rfl) H
  · exact workedG rfl rfl (k := 10) (n := 5) (by kernel_rfl) H
def intV (n : Int) : List V := [.int .u8 2, .int .i64 n, .int .u64 0, .str ⟨#[]⟩]
theorem int_calls (n : Int) (H : Heap) : SCalls PP 146 [.int .i64 n] H fun r H' => H' = H ∧ r = .agg (intV n) :=
  workedG rfl rfl (k := 10) (n := 5) (by kernel_rfl) H
def nanB (b : Nat) : Bool := FloatKind.f64.format.order b b != some .eq
theorem isNaN_calls (b : Nat) (H : Heap) : SCalls PP 151 [.float .f64 b] H fun r H' => H' = H ∧ r = .bool (nanB b) :=
  workedG rfl rfl (k := 10) (n := 5) (by kernel_rfl) H
end Go.Proofs.YtkmaikggdbielaaGreatDoor.Fw

