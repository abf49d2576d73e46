/- The framework, part A: abstract values and heaps, and how they stand for the model's values and worlds. No condition. -/
import Derived.Calls
import Derived.Below
import Derived.KernelRfl
namespace Go.Proofs.YtkmaikggdbielaaGreatDoor.Fw
open Go

/-- Abstract values: addresses are numbers of abstract objects. -/
inductive V where
  | bool (b : Bool)
  | int (k : IntKind) (n : Int)
  | float (k : FloatKind) (bits : Nat)
  | str (s : ByteArray)
  | nilp
  | ptr (id off : Nat)
  | nils
  | slice (id off len : Nat) (cap : Option Nat)
  | nilm
  | map (id : Nat)
  | nilf
  | fn (f : Fn) (first caps : List V)
  | agg (cs : List V)
  | tup (vs : List V)
  deriving Inhabited

def V.cells : V → List V
  | .agg cs => cs
  | v => [v]

def V.one : V → Bool
  | .agg _ | .tup _ => false
  | _ => true

abbrev V.undef : V := .tup []

/-- Abstract objects: a row of cells (read only or the call's own), a map, an iterator over a string. -/
inductive Ob where
  | row (ro : Bool) (esz : Nat) (cells : List V)
  | mapo (es : List (V × V))
  | iter (s : ByteArray) (pos : Nat)
  deriving Inhabited

def Ob.owned : Ob → Bool
  | .row ro _ _ => !ro
  | _ => true

def Ob.kind : Ob → Nat × Bool × Nat
  | .row ro esz _ => (0, ro, esz)
  | .mapo _ => (1, true, 0)
  | .iter _ _ => (2, true, 0)

structure Heap where
  gn : Nat   -- the package-level variables have the first numbers
  next : Nat
  get : Nat → Option Ob

def Heap.set (H : Heap) (i : Nat) (o : Ob) : Heap := { H with get := fun j => if j = i then some o else H.get j }
def Heap.kill (H : Heap) (i : Nat) : Heap := { H with get := fun j => if j = i then none else H.get j }
def Heap.new (H : Heap) (o : Ob) : Heap := { gn := H.gn, next := H.next + 1, get := fun j => if j = H.next then some o else H.get j }

@[simp] theorem Heap.set_next (H : Heap) (i : Nat) (o : Ob) : (H.set i o).next = H.next := rfl
@[simp] theorem Heap.kill_next (H : Heap) (i : Nat) : (H.kill i).next = H.next := rfl
@[simp] theorem Heap.new_next (H : Heap) (o : Ob) : (H.new o).next = H.next + 1 := rfl
@[simp] theorem Heap.set_gn (H : Heap) (i : Nat) (o : Ob) : (H.set i o).gn = H.gn := rfl
@[simp] theorem Heap.kill_gn (H : Heap) (i : Nat) : (H.kill i).gn = H.gn := rfl
@[simp] theorem Heap.new_gn (H : Heap) (o : Ob) : (H.new o).gn = H.gn := rfl
theorem Heap.set_get (H : Heap) (i : Nat) (o : Ob) (j : Nat) : (H.set i o).get j = if j = i then some o else H.get j := rfl
theorem Heap.kill_get (H : Heap) (i : Nat) (j : Nat) : (H.kill i).get j = if j = i then none else H.get j := rfl
theorem Heap.new_get (H : Heap) (o : Ob) (j : Nat) : (H.new o).get j = if j = H.next then some o else H.get j := rfl

/-- Where an abstract object lies: its block, its first cell, the block's size. -/
structure Pl where
  b : Nat
  base : Nat
  sz : Nat

section
variable (m : Nat → Pl) (H : Heap)

def PtrOk (id off : Nat) (a : Addr) : Prop :=
  id < H.next ∧ (H.get id ≠ none → a = ⟨(m id).b, (m id).base + off, none⟩)

def SliceOk (id off len : Nat) (cap : Option Nat) (a : Addr) (c : Nat) : Prop :=
  id < H.next ∧ len ≤ c ∧ (∀ k, cap = some k → c = k) ∧
    (0 < c → ∀ o, H.get id = some o →
      a = ⟨(m id).b, (m id).base + off, none⟩ ∧ (∀ esz cells, o = .row false esz cells → cap = none → (m id).base + off + c * esz ≤ (m id).sz))

mutual
def VRel : V → Value → Prop
  | .bool b, x => x = .bool b
  | .int k n, x => x = .int k n
  | .float k n, x => x = .float k n
  | .str s, x => x = .string s
  | .nilp, x => x = .pointer none
  | .ptr id off, x => ∃ a, x = .pointer (some a) ∧ PtrOk m H id off a
  | .nils, x => x = .slice none 0 0
  | .slice id off len cap, x => ∃ a c, x = .slice (some a) len c ∧ SliceOk m H id off len cap a c
  | .nilm, x => x = .map none
  | .map id, x => ∃ r, x = .map (some r) ∧ id < H.next ∧ (H.get id ≠ none → r = (m id).b)
  | .nilf, x => x = .nilFunc
  | .fn f a b, x => ∃ a' b', x = .func f a' b' ∧ VRelL a a'.toList ∧ VRelL b b'.toList
  | .agg cs, x => ∃ cs', x = .agg cs' ∧ VRelL cs cs'.toList
  | .tup vs, x => ∃ vs', x = .tuple vs' ∧ VRelL vs vs'.toList
def VRelL : List V → List Value → Prop
  | [], ys => ys = []
  | v :: vs, ys => ∃ x xs, ys = x :: xs ∧ VRel v x ∧ VRelL vs xs
end
end

def ObRel (m : Nat → Pl) (H : Heap) (w : World) (id : Nat) : Ob → Prop
  | .row ro _ cells => ∃ c e fz, w.heap[(m id).b]? = some (.cells c e fz) ∧ (m id).sz = c.size ∧
      (∀ j v, cells[j]? = some v → ∃ x, c[(m id).base + j]? = some x ∧ VRel m H v x) ∧
      (ro = false → ∀ j, fz.1 ≤ j → j < fz.2 → c.size ≤ j)
  | .mapo es => ∃ es' clock, w.heap[(m id).b]? = some (.map es' clock) ∧
      VRelL m H (es.map (·.1)) (es'.toList.map (·.key)) ∧ VRelL m H (es.map (·.2)) (es'.toList.map (·.val))
  | .iter s pos => (m id).base = 0 ∧ w.heap[(m id).b]? = some (.stringIter s pos)

/-- The package-level variables lie where they lie. -/
def Glob (m : Nat → Pl) (H : Heap) : Prop := ∀ g, g < H.gn → g < H.next ∧ (H.get g ≠ none → (m g).b = g ∧ (m g).base = 0)

structure Rel (m : Nat → Pl) (H : Heap) (w : World) : Prop where
  glob : Glob m H
  bound : ∀ id o, H.get id = some o → id < H.next
  obs : ∀ id o, H.get id = some o → ObRel m H w id o
  apart : ∀ i j o o', H.get i = some o → H.get j = some o' → o.owned = true → i ≠ j → (m i).b ≠ (m j).b

/-- How worlds and what stands for them go on. -/
structure Ev (m : Nat → Pl) (H : Heap) (w : World) (m' : Nat → Pl) (H' : Heap) (w' : World) : Prop where
  bnd : ∀ id o, H.get id = some o → id < H.next
  next : H.next ≤ H'.next
  dead : ∀ id, id < H.next → H.get id = none → H'.get id = none
  keep : ∀ id o o', H.get id = some o → H'.get id = some o' → m' id = m id ∧ o'.kind = o.kind
  os : w'.os = w.os
  tape : w'.tape = w.tape
  output : w'.output = w.output
  size : w.heap.size ≤ w'.heap.size
  block : ∀ b, b < w.heap.size → (∀ id o, H.get id = some o → o.owned = true → (m id).b ≠ b) → w'.heap[b]? = w.heap[b]?
  own : ∀ id o, H'.get id = some o → o.owned = true →
    (∃ id0 o0, H.get id0 = some o0 ∧ o0.owned = true ∧ (m' id).b = (m id0).b) ∨ w.heap.size ≤ (m' id).b

theorem Ev.refl {m : Nat → Pl} {H : Heap} {w : World} (h : Rel m H w) : Ev m H w m H w :=
  ⟨h.bound, Nat.le_refl _, fun _ _ h => h, fun _ o o' h h' => ⟨rfl, by rw [h] at h'; cases h'; rfl⟩, rfl, rfl, rfl, Nat.le_refl _,
    fun _ _ _ => rfl, fun id o h ho => .inl ⟨id, o, h, ho, rfl⟩⟩

theorem Ev.trans {m0 m1 m2 : Nat → Pl} {H0 H1 H2 : Heap} {w0 w1 w2 : World} (h : Ev m0 H0 w0 m1 H1 w1) (k : Ev m1 H1 w1 m2 H2 w2) :
    Ev m0 H0 w0 m2 H2 w2 where
  bnd := h.bnd
  next := Nat.le_trans h.next k.next
  dead := fun id hi hn => k.dead id (Nat.lt_of_lt_of_le hi h.next) (h.dead id hi hn)
  keep := fun id o o' ho ho' => by
    rcases hh : H1.get id with _ | o1
    · have := k.dead id (Nat.lt_of_lt_of_le (h.bnd id o ho) h.next) hh; rw [this] at ho'; cases ho'
    · have a := h.keep id o o1 ho hh
      have b := k.keep id o1 o' hh ho'
      exact ⟨b.1.trans a.1, b.2.trans a.2⟩
  os := k.os.trans h.os
  tape := k.tape.trans h.tape
  output := k.output.trans h.output
  size := Nat.le_trans h.size k.size
  block := fun b hb0 hn => by
    rw [k.block b (Nat.lt_of_lt_of_le hb0 h.size) fun id o ho hw he => ?_, h.block b hb0 hn]
    rcases h.own id o ho hw with ⟨id0, o0, h0, hw0, e⟩ | hge
    · exact hn id0 o0 h0 hw0 (by rw [← e, he])
    · omega
  own := fun id o ho hw => by
    rcases k.own id o ho hw with ⟨id1, o1, h1, hw1, e⟩ | hge
    · rcases h.own id1 o1 h1 hw1 with ⟨id0, o0, h0, hw0, e0⟩ | hge
      · exact .inl ⟨id0, o0, h0, hw0, e.trans e0⟩
      · exact .inr (by rw [e]; exact hge)
    · exact .inr (Nat.le_trans h.size hge)

section mono
variable {m m' : Nat → Pl} {H H' : Heap}

/-- What is asked of a step for values to stand for what they stood for. -/
structure Keeps (m : Nat → Pl) (H : Heap) (m' : Nat → Pl) (H' : Heap) : Prop where
  next : H.next ≤ H'.next
  dead : ∀ id, id < H.next → H.get id = none → H'.get id = none
  keep : ∀ id o o', H.get id = some o → H'.get id = some o' → m' id = m id ∧ o'.kind = o.kind

theorem Ev.keeps {w w' : World} (h : Ev m H w m' H' w') : Keeps m H m' H' := ⟨h.next, h.dead, h.keep⟩
theorem Keeps.refl : Keeps m H m H := ⟨Nat.le_refl _, fun _ _ h => h, fun _ o o' h h' => ⟨rfl, by rw [h] at h'; cases h'; rfl⟩⟩

theorem Keeps.back (h : Keeps m H m' H') {id : Nat} (hi : id < H.next) {o' : Ob} (ho : H'.get id = some o') :
    ∃ o, H.get id = some o ∧ m' id = m id ∧ o'.kind = o.kind := by
  rcases hh : H.get id with _ | o
  · rw [h.dead id hi hh] at ho; cases ho
  · exact ⟨o, rfl, h.keep id o o' hh ho⟩

theorem Glob.mono (h : Keeps m H m' H') (e : H'.gn = H.gn) (k : Glob m H) : Glob m' H' := by
  intro g hg
  obtain ⟨k1, k2⟩ := k g (by omega)
  refine ⟨Nat.lt_of_lt_of_le k1 h.next, fun hn => ?_⟩
  rcases hh : H'.get g with _ | o'
  · exact absurd hh hn
  · obtain ⟨o, ho, e', _⟩ := h.back k1 hh
    rw [e']; exact k2 (by rw [ho]; simp)

theorem PtrOk.mono (h : Keeps m H m' H') {id off : Nat} {a : Addr} (k : PtrOk m H id off a) : PtrOk m' H' id off a := by
  refine ⟨Nat.lt_of_lt_of_le k.1 h.next, fun hn => ?_⟩
  rcases hh : H'.get id with _ | o'
  · exact absurd hh hn
  · obtain ⟨o, ho, e, _⟩ := h.back k.1 hh
    rw [e]; exact k.2 (by rw [ho]; simp)

theorem SliceOk.mono (h : Keeps m H m' H') {id off len : Nat} {cap : Option Nat} {a : Addr} {c : Nat} (k : SliceOk m H id off len cap a c) :
    SliceOk m' H' id off len cap a c := by
  refine ⟨Nat.lt_of_lt_of_le k.1 h.next, k.2.1, k.2.2.1, fun hc o' hn => ?_⟩
  obtain ⟨o, ho, e, ek⟩ := h.back k.1 hn
  obtain ⟨k1, k2⟩ := k.2.2.2 hc o ho
  rw [e]
  refine ⟨k1, fun esz cells heq hcap => ?_⟩
  subst heq
  cases o with
  | row ro0 esz0 cells0 =>
    simp only [Ob.kind, Prod.mk.injEq, true_and] at ek
    obtain ⟨rfl, rfl⟩ := ek
    exact k2 _ _ rfl hcap
  | mapo _ => simp [Ob.kind] at ek
  | iter _ _ => simp [Ob.kind] at ek

mutual
theorem VRel.mono (h : Keeps m H m' H') : ∀ (v : V) (x : Value), VRel m H v x → VRel m' H' v x
  | .bool _, _, k | .int _ _, _, k | .float _ _, _, k | .str _, _, k | .nilp, _, k | .nils, _, k | .nilm, _, k | .nilf, _, k => by
    simpa only [VRel] using k
  | .ptr id off, x, k => by
    simp only [VRel] at *
    obtain ⟨a, e, k⟩ := k
    exact ⟨a, e, k.mono h⟩
  | .slice id off len cap, x, k => by
    simp only [VRel] at *
    obtain ⟨a, c, e, k⟩ := k
    exact ⟨a, c, e, k.mono h⟩
  | .map id, x, k => by
    simp only [VRel] at *
    obtain ⟨r, e, hi, k⟩ := k
    refine ⟨r, e, Nat.lt_of_lt_of_le hi h.next, fun hn => ?_⟩
    rcases hh : H'.get id with _ | o'
    · exact absurd hh hn
    · obtain ⟨o, ho, e', _⟩ := h.back hi hh
      rw [e']; exact k (by rw [ho]; simp)
  | .fn f a b, x, k => by
    simp only [VRel] at *
    obtain ⟨a', b', e, k1, k2⟩ := k
    exact ⟨a', b', e, VRelL.mono h a _ k1, VRelL.mono h b _ k2⟩
  | .agg cs, x, k => by
    simp only [VRel] at *
    obtain ⟨cs', e, k⟩ := k
    exact ⟨cs', e, VRelL.mono h cs _ k⟩
  | .tup cs, x, k => by
    simp only [VRel] at *
    obtain ⟨cs', e, k⟩ := k
    exact ⟨cs', e, VRelL.mono h cs _ k⟩
theorem VRelL.mono (h : Keeps m H m' H') : ∀ (vs : List V) (xs : List Value), VRelL m H vs xs → VRelL m' H' vs xs
  | [], _, k => by simpa only [VRelL] using k
  | v :: vs, xs, k => by
    simp only [VRelL] at *
    obtain ⟨x, ys, e, k1, k2⟩ := k
    exact ⟨x, ys, e, VRel.mono h v x k1, VRelL.mono h vs ys k2⟩
end
end mono

section lists
variable {m : Nat → Pl} {H : Heap}
theorem VRelL.nil {ys : List Value} (h : VRelL m H [] ys) : ys = [] := by simpa only [VRelL] using h
theorem VRelL.cons {v : V} {vs : List V} {ys : List Value} (h : VRelL m H (v :: vs) ys) : ∃ x xs, ys = x :: xs ∧ VRel m H v x ∧ VRelL m H vs xs := by
  simpa only [VRelL] using h
theorem VRelL.mk_nil : VRelL m H [] [] := by simp only [VRelL]
theorem VRelL.mk_cons {v : V} {vs : List V} {x : Value} {xs : List Value} (h : VRel m H v x) (k : VRelL m H vs xs) : VRelL m H (v :: vs) (x :: xs) := by
  simp only [VRelL]; exact ⟨x, xs, rfl, h, k⟩
theorem VRelL.length : ∀ {vs : List V} {xs : List Value}, VRelL m H vs xs → xs.length = vs.length
  | [], _, h => by rw [h.nil]; rfl
  | v :: vs, _, h => by
    obtain ⟨x, xs, rfl, _, k⟩ := h.cons
    simp [k.length]
theorem VRelL.get : ∀ {vs : List V} {xs : List Value} (_ : VRelL m H vs xs) {i : Nat} {v : V}, vs[i]? = some v → ∃ x, xs[i]? = some x ∧ VRel m H v x
  | [], _, h, i, v, e => by simp at e
  | u :: vs, _, h, i, v, e => by
    obtain ⟨x, xs, rfl, k1, k⟩ := h.cons
    cases i with
    | zero => simp at e; subst e; exact ⟨x, by simp, k1⟩
    | succ i => simpa using k.get (i := i) (by simpa using e)
theorem VRelL.of_get : ∀ {vs : List V} {xs : List Value}, xs.length = vs.length → (∀ (i : Nat) (v : V), vs[i]? = some v → ∃ x, xs[i]? = some x ∧ VRel m H v x) → VRelL m H vs xs
  | [], xs, hl, _ => by
    obtain rfl : xs = [] := List.eq_nil_of_length_eq_zero hl
    exact .mk_nil
  | v :: vs, [], hl, _ => by simp at hl
  | v :: vs, x :: xs, hl, h => by
    refine .mk_cons ?_ (.of_get (by simpa using hl) fun i u e => ?_)
    · obtain ⟨y, hy, k⟩ := h 0 v (by simp); simp at hy; subst hy; exact k
    · simpa using h (i + 1) u (by simpa using e)
theorem VRelL.append {vs us : List V} {xs ys : List Value} (h : VRelL m H vs xs) (k : VRelL m H us ys) : VRelL m H (vs ++ us) (xs ++ ys) := by
  induction vs generalizing xs with
  | nil => rw [h.nil]; exact k
  | cons v vs ih =>
    obtain ⟨x, xs, rfl, k1, k2⟩ := h.cons
    exact .mk_cons k1 (ih k2)
theorem VRelL.split {vs us : List V} {zs : List Value} (h : VRelL m H (vs ++ us) zs) : ∃ xs ys, zs = xs ++ ys ∧ VRelL m H vs xs ∧ VRelL m H us ys := by
  induction vs generalizing zs with
  | nil => exact ⟨[], zs, rfl, .mk_nil, h⟩
  | cons v vs ih =>
    obtain ⟨x, zs, rfl, k1, k2⟩ := h.cons
    obtain ⟨xs, ys, rfl, h1, h2⟩ := ih k2
    exact ⟨x :: xs, ys, rfl, .mk_cons k1 h1, h2⟩
theorem VRelL.replicate {v : V} {x : Value} (h : VRel m H v x) : ∀ n, VRelL m H (List.replicate n v) (List.replicate n x)
  | 0 => .mk_nil
  | n + 1 => .mk_cons h (.replicate h n)
theorem VRelL.take {vs : List V} {xs : List Value} (h : VRelL m H vs xs) (n : Nat) : VRelL m H (vs.take n) (xs.take n) := by
  induction vs generalizing xs n with
  | nil => rw [h.nil]; simpa using VRelL.mk_nil
  | cons v vs ih =>
    obtain ⟨x, xs, rfl, k1, k2⟩ := h.cons
    cases n with
    | zero => exact .mk_nil
    | succ n => exact .mk_cons k1 (ih k2 n)
theorem VRelL.drop {vs : List V} {xs : List Value} (h : VRelL m H vs xs) (n : Nat) : VRelL m H (vs.drop n) (xs.drop n) := by
  induction vs generalizing xs n with
  | nil => rw [h.nil]; simpa using VRelL.mk_nil
  | cons v vs ih =>
    obtain ⟨x, xs, rfl, k1, k2⟩ := h.cons
    cases n with
    | zero => exact .mk_cons k1 k2
    | succ n => exact ih k2 n

theorem VRel.cells {v : V} {x : Value} (h : VRel m H v x) : VRelL m H v.cells x.cells.toList := by
  cases v with
  | agg cs => simp only [VRel] at h; obtain ⟨cs', rfl, h⟩ := h; exact h
  | ptr id off => obtain ⟨a, rfl, _⟩ := (by simpa only [VRel] using h); exact .mk_cons (by simpa only [VRel] using h) .mk_nil
  | slice id off len cap => obtain ⟨a, c, rfl, _⟩ := (by simpa only [VRel] using h); exact .mk_cons (by simpa only [VRel] using h) .mk_nil
  | map id => obtain ⟨a, rfl, _⟩ := (by simpa only [VRel] using h); exact .mk_cons (by simpa only [VRel] using h) .mk_nil
  | fn f a b => obtain ⟨a', b', rfl, _⟩ := (by simpa only [VRel] using h); exact .mk_cons (by simpa only [VRel] using h) .mk_nil
  | tup vs => obtain ⟨a', rfl, _⟩ := (by simpa only [VRel] using h); exact .mk_cons (by simpa only [VRel] using h) .mk_nil
  | bool b => obtain rfl := (by simpa only [VRel] using h); exact .mk_cons (by simp only [VRel]) .mk_nil
  | int k n => obtain rfl := (by simpa only [VRel] using h); exact .mk_cons (by simp only [VRel]) .mk_nil
  | float k n => obtain rfl := (by simpa only [VRel] using h); exact .mk_cons (by simp only [VRel]) .mk_nil
  | str s => obtain rfl := (by simpa only [VRel] using h); exact .mk_cons (by simp only [VRel]) .mk_nil
  | nilp => obtain rfl := (by simpa only [VRel] using h); exact .mk_cons (by simp only [VRel]) .mk_nil
  | nils => obtain rfl := (by simpa only [VRel] using h); exact .mk_cons (by simp only [VRel]) .mk_nil
  | nilm => obtain rfl := (by simpa only [VRel] using h); exact .mk_cons (by simp only [VRel]) .mk_nil
  | nilf => obtain rfl := (by simpa only [VRel] using h); exact .mk_cons (by simp only [VRel]) .mk_nil

theorem VRel.one {v : V} {x : Value} (h : VRel m H v x) (k : v.one = true) : (∀ cs, x ≠ .agg cs) ∧ (∀ cs, x ≠ .tuple cs) := by
  cases v with
  | agg cs => simp [V.one] at k
  | tup cs => simp [V.one] at k
  | ptr id off => simp only [VRel] at h; obtain ⟨_, rfl, _⟩ := h; simp
  | slice id off len cap => simp only [VRel] at h; obtain ⟨_, _, rfl, _⟩ := h; simp
  | map id => simp only [VRel] at h; obtain ⟨_, rfl, _⟩ := h; simp
  | fn f a b => simp only [VRel] at h; obtain ⟨_, _, rfl, _⟩ := h; simp
  | bool _ => simp only [VRel] at h; subst h; simp
  | int _ _ => simp only [VRel] at h; subst h; simp
  | float _ _ => simp only [VRel] at h; subst h; simp
  | str _ => simp only [VRel] at h; subst h; simp
  | nilp => simp only [VRel] at h; subst h; simp
  | nils => simp only [VRel] at h; subst h; simp
  | nilm => simp only [VRel] at h; subst h; simp
  | nilf => simp only [VRel] at h; subst h; simp
end lists
end Go.Proofs.YtkmaikggdbielaaGreatDoor.Fw
