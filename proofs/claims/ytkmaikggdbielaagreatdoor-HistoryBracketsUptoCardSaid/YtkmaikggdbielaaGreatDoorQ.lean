/- The framework, part Q: a region whose order is drawn: a tree of orders stands for all of them. No condition. -/
import Derived.Test.YtkmaikggdbielaaGreatDoorO
namespace Go.Proofs.YtkmaikggdbielaaGreatDoor.Fw
open Go
set_option linter.unusedSimpArgs false
set_option linter.unusedVariables false

inductive DT where
  | done
  | op (o : AOper) (t : DT)
  | fork (a b : DT)
  deriving Inhabited

def WF (H : Heap) : Prop := ∀ id o, H.get id = some o → id < H.next

def pureK : AK → Bool
  | .mov | .pick | .nilck | .ibin _ | .bbin _ | .sbin _ | .fbin _ | .eqnil _ _ | .eqagg _ _ | .neg | .bnot | .fa _ | .ia _ | .iar _ _ | .build _ _ | .konst _ | .len | .slen | .cap | .ext _ | .fld _ | .flda _ _ | .idxs | .idxa _ | .mkfn _ _ | .toInt _ | .id => true
  | _ => false
def readK : AK → Bool
  | .ld _ | .lda _ | .slc _ _ _ _ | .slca _ _ _ _ _ | .slcs _ _ | .b2s | .look _ _ _ => true
  | k => pureK k
def noG : X → Bool
  | .g _ => false
  | _ => true
def allocK : AK → Bool
  | .alloc _ | .box | .bsl _ _ _ _ | .mkmap | .s2b | .rits => true
  | _ => false
/-- 0: no eye for the heap; 1: it reads the heap, and a new object is nothing to it; 2: it reads the heap; 3: it makes a new object; 4: anything. -/
def AOp.kind : AOp → Nat
  | .ex k xs => if pureK k && xs.all noG then 0 else if readK k then (match k with | .slc _ _ _ _ => 2 | _ => 1) else if allocK k then 3 else 4
  | .fbits _ x => if noG x then 0 else 1
  | .ffrom _ x => if noG x then 0 else 1
  | _ => 4
def X.slot : X → List Nat
  | .s t => [t]
  | _ => []
def slots : List X → List Nat
  | [] => []
  | x :: xs => x.slot ++ slots xs
def AOp.slots : AOp → List Nat
  | .ex _ xs => Fw.slots xs
  | .fbits _ x => x.slot
  | .ffrom _ x => x.slot
  | .callf _ xs => Fw.slots xs
  | .callv x xs => x.slot ++ Fw.slots xs
  | .bad => []
def AOper.looks (o : AOper) : List Nat := (match o.g with | some (t, _) => [t] | none => []) ++ o.a.slots

def SCWf (SC : FuncId → List V → Heap → (V → Heap → Prop) → Prop) : Prop := ∀ f vs H R, SC f vs H R → SC f vs H fun r H' => R r H' ∧ WF H'
def SCMono (SC : FuncId → List V → Heap → (V → Heap → Prop) → Prop) : Prop := ∀ f vs H R R', SC f vs H R → (∀ r H', R r H' → R' r H') → SC f vs H R'

/-! ### Well formed heaps -/
theorem WF.new {H : Heap} (h : WF H) (o : Ob) : WF (H.new o) := fun id o' e => by
  rw [Heap.new_get] at e
  simp only [Heap.new_next]
  split at e
  · omega
  · have := h id o' e; omega
theorem WF.set {H : Heap} (h : WF H) {i : Nat} {o0 : Ob} (hi : H.get i = some o0) (o : Ob) : WF (H.set i o) := fun id o' e => by
  rw [Heap.set_get] at e
  simp only [Heap.set_next]
  split at e
  · rename_i e'; rw [e']; exact h i o0 hi
  · exact h id o' e
theorem WF.kill {H : Heap} (h : WF H) (i : Nat) : WF (H.kill i) := fun id o' e => by
  rw [Heap.kill_get] at e
  simp only [Heap.kill_next]
  split at e
  · cases e
  · exact h id o' e
theorem WF.get_new {H : Heap} (h : WF H) {id : Nat} {o' : Ob} (e : H.get id = some o') (o : Ob) : (H.new o).get id = some o' := by
  rw [Heap.new_get, if_neg (by have := h id o' e; omega)]; exact e
theorem WF.writeAt {H H' : Heap} (h : WF H) {id off : Nat} {vs : List V} (e : writeAt H id off vs = some H') : WF H' := by
  unfold Fw.writeAt at e
  split at e
  · rename_i esz cells hg
    split at e
    · cases e; exact h.set hg _
    · cases e
  · cases e
theorem map_some_H {α : Type} {q : Option α} {f : α → V × Heap} {r : V} {H' : Heap} (h : q.map f = some (r, H')) : ∃ a, q = some a ∧ f a = (r, H') := by
  cases q with
  | none => cases h
  | some a => exact ⟨a, rfl, by simpa using h⟩
theorem WF.append {H H' : Heap} (h : WF H) {sz bytes : Nat} {s x r : V} (e : appendA H sz bytes s x = some (r, H')) : WF H' := by
  unfold appendA at e
  repeat' (first
    | (cases e; done)
    | (cases e; exact h)
    | (cases e; exact h.new _)
    | (cases e; exact (h.kill _).new _)
    | (cases e; exact (h.new _).kill _)
    | (obtain ⟨a, e1, e2⟩ := map_some_H e; cases e2; exact h.writeAt e1)
    | (obtain ⟨a, e1, e2⟩ := Option.bind_eq_some_iff.1 e; clear e; rename _ = some (r, H') => e)
    | split at e)

theorem exec_wf {k : AK} {vs : List V} {H H' : Heap} {r : V} (h : WF H) (e : exec k vs H = some (r, H')) : WF H' := by
  cases k <;> simp only [exec] at e
  all_goals
    repeat' (first
      | (cases e; done)
      | (cases e; exact h)
      | (cases e; exact h.new _)
      | (cases e; rename_i hg _; exact h.set hg _)
      | (cases e; rename_i hg _ _; exact h.set hg _)
      | (cases e; rename_i hg _ _ _; exact h.set hg _)
      | (cases e; rename_i hg _ _ _ _; exact h.set hg _)
      | exact h.append e
      | (obtain ⟨a, e1, e2⟩ := map_some_H e; cases e2; first | exact h.writeAt e1 | exact h)
      | (obtain ⟨a, e1, e2⟩ := Option.bind_eq_some_iff.1 e; clear e; rename _ = some (r, H') => e)
      | split at e)

/-! ### Frames -/
theorem FrSub.refl (fr : Fr) : FrSub fr fr := fun _ _ h => h
theorem FrSub.trans {a b c : Fr} (h : FrSub a b) (k : FrSub b c) : FrSub a c := fun t v e => k t v (h t v e)
theorem Fr.get_put (fr : Fr) (d : Option Nat) (v : V) (t : Nat) : (fr.put d v).get t = if d = some t then some v else fr.get t := by
  cases d with
  | none => simp only [Fr.put, reduceCtorEq, if_false]
  | some d =>
    simp only [Fr.put, Fr.get, Option.some.injEq]
theorem FrSub.put {a b : Fr} (h : FrSub a b) (d : Option Nat) (v : V) : FrSub (a.put d v) (b.put d v) := fun t u e => by
  rw [Fr.get_put] at e ⊢
  split
  · rename_i hd; rw [if_pos hd] at e; exact e
  · rename_i hd; rw [if_neg hd] at e; exact h t u e
theorem FrSub.swap (fr : Fr) {d e : Option Nat} (v u : V) (h : ∀ t, d = some t → e ≠ some t) : FrSub ((fr.put d v).put e u) ((fr.put e u).put d v) := fun t x hx => by
  rw [Fr.get_put, Fr.get_put] at hx ⊢
  by_cases hd : d = some t
  · have := h t hd
    rw [if_pos hd]; rw [if_neg this, if_pos hd] at hx; exact hx
  · rw [if_neg hd]
    rw [if_neg hd] at hx; exact hx

theorem evX_sub {fr fr' : Fr} (h : FrSub fr fr') {H : Heap} {x : X} {v : V} (e : x.ev fr H = some v) : x.ev fr' H = some v := by
  cases x with
  | s t => exact h t v e
  | k v => exact e
  | g n => exact e
theorem evL_sub {fr fr' : Fr} (h : FrSub fr fr') {H : Heap} : ∀ {xs : List X} {vs : List V} (_ : evL fr H xs = some vs), evL fr' H xs = some vs
  | [], vs, e => e
  | x :: xs, vs, e => by
    simp only [evL] at e ⊢
    split at e
    · rename_i v vs' h1 h2
      rw [evX_sub h h1, evL_sub h h2]; exact e
    · cases e
theorem guard_sub {fr fr' : Fr} (h : FrSub fr fr') {g : Option (Nat × Bool)} {b : Bool} (e : guardA fr g = some b) : guardA fr' g = some b := by
  cases g with
  | none => exact e
  | some p =>
    obtain ⟨t, c⟩ := p
    simp only [guardA] at e ⊢
    split at e
    · rename_i c' hc; rw [h _ _ hc]; exact e
    · rename_i hc; rw [h _ _ hc]; exact e
    · cases e
theorem evX_put {fr : Fr} {d : Option Nat} {v : V} {H : Heap} {x : X} (h : ∀ t, d = some t → t ∉ x.slot) : x.ev (fr.put d v) H = x.ev fr H := by
  cases x with
  | s t =>
    simp only [X.ev, Fr.get_put]
    rw [if_neg]
    intro e; exact h t e (by simp [X.slot])
  | k v => rfl
  | g n => rfl
theorem evL_put {fr : Fr} {d : Option Nat} {v : V} {H : Heap} : ∀ {xs : List X} (_ : ∀ t, d = some t → t ∉ slots xs), evL (fr.put d v) H xs = evL fr H xs
  | [], h => rfl
  | x :: xs, h => by
    simp only [evL]
    rw [evX_put (fun t e k => h t e (by simp [slots, k])), evL_put (fun t e k => h t e (by simp [slots, k]))]
theorem guard_put {fr : Fr} {d : Option Nat} {v : V} {g : Option (Nat × Bool)} (h : ∀ t, d = some t → ∀ b, g ≠ some (t, b)) : guardA (fr.put d v) g = guardA fr g := by
  cases g with
  | none => rfl
  | some p =>
    obtain ⟨t, c⟩ := p
    simp only [guardA]
    rw [Fr.get_put, if_neg]
    intro e; exact h t e c rfl
theorem evX_heap {fr : Fr} {x : X} (h : noG x = true) (H H2 : Heap) : x.ev fr H = x.ev fr H2 := by
  cases x <;> first | rfl | (simp [noG] at h)
theorem evL_heap {fr : Fr} : ∀ {xs : List X} (_ : xs.all noG = true) (H H2 : Heap), evL fr H xs = evL fr H2 xs
  | [], h, H, H2 => rfl
  | x :: xs, h, H, H2 => by
    simp at h
    simp only [evL]
    rw [evX_heap h.1 H H2, evL_heap (by simpa using h.2) H H2]

/-! ### What pure and reading operations leave -/
theorem map_H {q : Option V} {H : Heap} {r : V} {H' : Heap} (h : q.map (·, H) = some (r, H')) : H' = H ∧ ∀ H2 : Heap, q.map (·, H2) = some (r, H2) := by
  cases q with
  | none => cases h
  | some v => cases h; exact ⟨rfl, fun _ => rfl⟩
theorem map_H' {α : Type} {f : α → V} {q : Option α} {H : Heap} {r : V} {H' : Heap} (h : q.map (fun a => (f a, H)) = some (r, H')) : H' = H ∧ ∀ H2 : Heap, q.map (fun a => (f a, H2)) = some (r, H2) := by
  cases q with
  | none => cases h
  | some v => cases h; exact ⟨rfl, fun _ => rfl⟩
theorem exec_pure {k : AK} (hk : pureK k = true) {vs : List V} {H H' : Heap} {r : V} (h : exec k vs H = some (r, H')) : H' = H ∧ ∀ H2, exec k vs H2 = some (r, H2) := by
  cases k <;> (first | (simp only [pureK, Bool.false_eq_true] at hk; done) | skip) <;> clear hk <;> simp only [exec] at h ⊢ <;> (first
    | (cases h; exact ⟨rfl, fun _ => rfl⟩)
    | skip)
  all_goals
    split at h <;> (first
      | (exact map_H h)
      | (exact map_H' h)
      | (cases h; done)
      | (cases h; exact ⟨rfl, fun _ => rfl⟩)
      | skip)
  all_goals (first
    | (split at h <;> (first
      | (rename_i hc; obtain ⟨h1, h2⟩ := map_H h; exact ⟨h1, fun H2 => by rw [if_pos hc]; exact h2 H2⟩)
      | (rename_i hc; obtain ⟨h1, h2⟩ := map_H' h; exact ⟨h1, fun H2 => by rw [if_pos hc]; exact h2 H2⟩)
      | (rename_i hc; cases h; exact ⟨rfl, fun _ => by rw [if_pos hc]⟩)
      | (cases h; done)))
    | (rename_i hc; obtain ⟨h1, h2⟩ := map_H' h; exact ⟨h1, fun H2 => by rw [if_pos hc]; exact h2 H2⟩))

theorem exec_read {k : AK} (hk : readK k = true) {vs : List V} {H H' : Heap} {r : V} (h : exec k vs H = some (r, H')) : H' = H := by
  cases hp : pureK k with
  | true => exact (exec_pure hp h).1
  | false =>
    cases k <;> (first | (simp only [readK, hp, Bool.false_eq_true] at hk; done) | skip) <;> clear hk hp <;> simp only [exec] at h
    all_goals
      repeat' (first
        | (cases h; done)
        | (cases h; rfl)
        | exact (map_H h).1
        | exact (map_H' h).1
        | split at h)

theorem exec_alloc {k : AK} (hk : allocK k = true) {vs : List V} {H H' : Heap} {r : V} (h : exec k vs H = some (r, H')) : ∃ o, H' = H.new o := by
  cases k <;> (first | (simp only [allocK, Bool.false_eq_true] at hk; done) | skip) <;> clear hk <;> simp only [exec] at h
  all_goals
    repeat' (first
      | (cases h; done)
      | (cases h; exact ⟨_, rfl⟩)
      | (obtain ⟨a, e1, e2⟩ := Option.bind_eq_some_iff.1 h; clear h; rename _ = some (r, H') => h)
      | split at h)
def readK1 : AK → Bool
  | .slc _ _ _ _ => false
  | k => readK k
theorem readN_new {H : Heap} (hw : WF H) (o : Ob) {n : Nat} {v : V} {cs : List V} (h : readN H n v = some cs) : readN (H.new o) n v = some cs := by
  cases v with
  | slice id off len cap =>
    simp only [readN] at h ⊢
    by_cases hn : n = 0
    · rw [if_pos hn] at h ⊢; exact h
    · rw [if_neg hn] at h ⊢
      split at h
      · rename_i ro esz cells hg
        rw [hw.get_new hg o]
        exact h
      · cases h
  | _ => simp only [readN] at h ⊢ <;> exact h
theorem exec_read_new {k : AK} (hk : readK1 k = true) {vs : List V} {H : Heap} (hw : WF H) {r : V} {H' : Heap} (h : exec k vs H = some (r, H')) (o : Ob) : ∃ H2, exec k vs (H.new o) = some (r, H2) := by
  cases hp : pureK k with
  | true => exact ⟨_, (exec_pure hp h).2 _⟩
  | false =>
    cases k <;> (first | (simp only [readK1, readK, hp, Bool.false_eq_true] at hk; done) | skip) <;> clear hk hp <;> simp only [exec] at h ⊢
    case ld =>
      split at h
      · split at h
        · rename_i hg
          rw [hw.get_new hg o]
          obtain ⟨a, e1, e2⟩ := map_some_H h
          cases e2
          exact ⟨H.new o, by simp only [e1, Option.map_some]⟩
        · cases h
      · cases h
    case lda =>
      split at h
      · split at h
        · rename_i hg
          rw [hw.get_new hg o]
          simp only
          split at h
          · rename_i hc; cases h; exact ⟨H.new o, by rw [if_pos hc]⟩
          · cases h
        · cases h
      · cases h
    case look =>
      split at h
      · split at h
        · rename_i hg
          rw [hw.get_new hg o]
          simp only
          generalize (if keyOk _ _ = true then findE _ _ _ else none) = q at h ⊢
          split at h
          · cases h; exact ⟨_, rfl⟩
          · obtain ⟨a, e1, e2⟩ := map_some_H h
            cases e2
            exact ⟨H.new o, by simp only [e1, Option.map_some]⟩
          · cases h
        · cases h
      · cases h
    case b2s =>
      split at h
      · split at h
        · split at h
          · rename_i hn
            rename_i n hl cs
            rw [readN_new hw o hn]
            obtain ⟨a, e1, e2⟩ := map_some_H h
            cases e2
            exact ⟨H.new o, by simp only [e1, Option.map_some]⟩
          · cases h
        · cases h
      · cases h
    all_goals
      repeat' (first
        | (cases h; done)
        | (cases h; exact ⟨H.new o, by simp only [*, if_true, and_self]⟩)
        | (cases h; exact ⟨H.new o, rfl⟩)
        | split at h)

/-! ### One operation -/
section
variable {SC : FuncId → List V → Heap → (V → Heap → Prop) → Prop}

def valA (o : AOper) (fr : Fr) (H : Heap) : Option V :=
  match guardA fr o.g with
  | none => none
  | some false => some .undef
  | some true =>
    match o.a with
    | .ex k xs => match evL fr H xs with
      | some vs => match exec k vs H with
        | some (r, _) => some r
        | none => none
      | none => none
    | .fbits _ x => match x.ev fr H with
      | some (.float .f64 b) => some (.int .u64 b)
      | _ => none
    | .ffrom _ x => match x.ev fr H with
      | some (.int .u64 n) => some (.float .f64 n.toNat)
      | _ => none
    | _ => none

theorem kind_ex {k : AK} {xs : List X} (h : (AOp.ex k xs).kind ≤ 2) : readK k = true := by
  simp only [AOp.kind] at h
  split at h
  · rename_i e
    simp at e
    cases k <;> simp_all [pureK, readK]
  · split at h
    · assumption
    · split at h <;> omega
theorem kind_ex1 {k : AK} {xs : List X} (h : (AOp.ex k xs).kind ≤ 1) : readK1 k = true := by
  simp only [AOp.kind] at h
  split at h
  · rename_i e
    simp at e
    cases k <;> simp_all [pureK, readK, readK1]
  · split at h
    · rename_i hr
      split at h
      · omega
      · rename_i hn
        cases k <;> first | exact hr | (exact absurd rfl (hn _ _ _ _))
    · split at h <;> omega
theorem kind_ex3 {k : AK} {xs : List X} (h : (AOp.ex k xs).kind = 3) : allocK k = true := by
  simp only [AOp.kind] at h
  split at h
  · omega
  · split at h
    · split at h <;> omega
    · split at h
      · assumption
      · omega
theorem kind_b {f : FuncId} {x : X} : (AOp.fbits f x).kind ≤ 1 := by simp only [AOp.kind]; split <;> omega
theorem kind_f {f : FuncId} {x : X} : (AOp.ffrom f x).kind ≤ 1 := by simp only [AOp.kind]; split <;> omega

theorem stepA_val {o : AOper} (hk : o.a.kind ≤ 2) {fr : Fr} {H : Heap} {K : Fr → Heap → Prop} : stepA SC o fr H K ↔ ∃ v, valA o fr H = some v ∧ K (fr.put o.dst v) H := by
  unfold stepA valA
  cases hg : guardA fr o.g with
  | none => simp
  | some b =>
    cases b with
    | false => simp
    | true =>
      simp only
      cases ha : o.a with
      | ex k xs =>
        rw [ha] at hk
        simp only
        cases he : evL fr H xs with
        | none => simp
        | some vs =>
          simp only
          cases hx : exec k vs H with
          | none => simp
          | some p =>
            obtain ⟨r, H'⟩ := p
            have := exec_read (kind_ex hk) hx
            subst this
            simp
      | fbits f x =>
        simp only
        constructor
        · intro h
          split at h
          · rename_i b he; rw [he]; exact ⟨_, rfl, h⟩
          · exact h.elim
        · rintro ⟨v, h1, h2⟩
          split at h1
          · rename_i b he; cases h1; rw [he]; exact h2
          · cases h1
      | ffrom f x =>
        simp only
        constructor
        · intro h
          split at h
          · rename_i b he; rw [he]; exact ⟨_, rfl, h⟩
          · exact h.elim
        · rintro ⟨v, h1, h2⟩
          split at h1
          · rename_i b he; cases h1; rw [he]; exact h2
          · cases h1
      | callf f xs => rw [ha] at hk; simp [AOp.kind] at hk
      | callv x xs => rw [ha] at hk; simp [AOp.kind] at hk
      | bad => rw [ha] at hk; simp [AOp.kind] at hk

theorem looks_g {o : AOper} {d : Option Nat} (h : ∀ t, d = some t → t ∉ o.looks) : ∀ t, d = some t → ∀ b, o.g ≠ some (t, b) := by
  intro t e b hg
  exact h t e (by simp [AOper.looks, hg])
theorem looks_a {o : AOper} {d : Option Nat} (h : ∀ t, d = some t → t ∉ o.looks) : ∀ t, d = some t → t ∉ o.a.slots := by
  intro t e k
  exact h t e (by simp [AOper.looks, k])

theorem valA_put {o : AOper} {fr : Fr} {H : Heap} {d : Option Nat} {v : V} (h : ∀ t, d = some t → t ∉ o.looks) : valA o (fr.put d v) H = valA o fr H := by
  have ha := looks_a h
  unfold valA
  rw [guard_put (looks_g h)]
  split
  · rfl
  · rfl
  · cases hoa : o.a with
    | ex k xs => rw [hoa] at ha; simp only; rw [evL_put (by simpa [AOp.slots] using ha)]
    | fbits f x => rw [hoa] at ha; simp only; rw [evX_put (by simpa [AOp.slots] using ha)]
    | ffrom f x => rw [hoa] at ha; simp only; rw [evX_put (by simpa [AOp.slots] using ha)]
    | callf f xs => rfl
    | callv x xs => rfl
    | bad => rfl

theorem valA_heap {o : AOper} (hk : o.a.kind = 0) {fr : Fr} {H H2 : Heap} {v : V} (h : valA o fr H = some v) : valA o fr H2 = some v := by
  unfold valA at h ⊢
  split at h
  · cases h
  · exact h
  · cases hoa : o.a with
    | ex k xs =>
      rw [hoa] at hk h
      simp only [AOp.kind] at hk
      split at hk
      · rename_i e
        simp only [Bool.and_eq_true] at e
        simp only at h ⊢
        rw [evL_heap e.2 H2 H]
        split at h
        · rename_i vs he
          split at h
          · rename_i r H' hx
            rw [(exec_pure e.1 hx).2 H2]
            exact h
          · cases h
        · cases h
      · split at hk
        · split at hk <;> omega
        · split at hk <;> omega
    | fbits f x =>
      rw [hoa] at hk h
      simp only [AOp.kind] at hk
      split at hk
      · rename_i e; simp only at h ⊢; rw [evX_heap e H2 H]; exact h
      · omega
    | ffrom f x =>
      rw [hoa] at hk h
      simp only [AOp.kind] at hk
      split at hk
      · rename_i e; simp only at h ⊢; rw [evX_heap e H2 H]; exact h
      · omega
    | callf f xs => rw [hoa] at hk; simp [AOp.kind] at hk
    | callv x xs => rw [hoa] at hk; simp [AOp.kind] at hk
    | bad => rw [hoa] at hk; simp [AOp.kind] at hk

theorem evX_gn {fr : Fr} {x : X} {H H2 : Heap} (h : H.gn = H2.gn) : x.ev fr H = x.ev fr H2 := by
  cases x <;> simp only [X.ev, h]
theorem evL_gn {fr : Fr} {H H2 : Heap} (h : H.gn = H2.gn) : ∀ {xs : List X}, evL fr H xs = evL fr H2 xs
  | [] => rfl
  | x :: xs => by simp only [evL]; rw [evX_gn h, evL_gn h]
theorem valA_new {o : AOper} (hk : o.a.kind ≤ 1) {fr : Fr} {H : Heap} (hw : WF H) {v : V} (h : valA o fr H = some v) (ob : Ob) : valA o fr (H.new ob) = some v := by
  unfold valA at h ⊢
  split at h
  · cases h
  · exact h
  · cases hoa : o.a with
    | ex k xs =>
      rw [hoa] at hk h
      simp only at h ⊢
      rw [evL_gn (H := H.new ob) (H2 := H) rfl]
      split at h
      · rename_i vs he
        split at h
        · rename_i r H' hx
          obtain ⟨H2, hx2⟩ := exec_read_new (kind_ex1 hk) hw hx ob
          rw [hx2]
          exact h
        · cases h
      · cases h
    | fbits f x =>
      rw [hoa] at h
      simp only at h ⊢
      rw [evX_gn (H := H.new ob) (H2 := H) rfl]; exact h
    | ffrom f x =>
      rw [hoa] at h
      simp only at h ⊢
      rw [evX_gn (H := H.new ob) (H2 := H) rfl]; exact h
    | callf f xs => rw [hoa] at hk; simp [AOp.kind] at hk
    | callv x xs => rw [hoa] at hk; simp [AOp.kind] at hk
    | bad => rw [hoa] at hk; simp [AOp.kind] at hk

theorem stepA_wf (hS : SCWf SC) (hM : SCMono SC) {o : AOper} {fr : Fr} {H : Heap} (hw : WF H) {K : Fr → Heap → Prop} (h : stepA SC o fr H K) : stepA SC o fr H fun f H' => K f H' ∧ WF H' := by
  unfold stepA at h ⊢
  cases hg : guardA fr o.g with
  | none => rw [hg] at h; exact h.elim
  | some b =>
    rw [hg] at h
    cases b with
    | false => exact ⟨h, hw⟩
    | true =>
      simp only at h ⊢
      cases ha : o.a with
      | ex k xs =>
        rw [ha] at h
        simp only at h ⊢
        cases he : evL fr H xs with
        | none => rw [he] at h; exact h.elim
        | some vs =>
          rw [he] at h
          simp only at h ⊢
          cases hx : exec k vs H with
          | none => rw [hx] at h; exact h.elim
          | some p => rw [hx] at h; exact ⟨h, exec_wf hw hx⟩
      | fbits f x =>
        rw [ha] at h
        simp only at h ⊢
        split at h
        · rename_i b he; exact ⟨h, hw⟩
        · exact h.elim
      | ffrom f x =>
        rw [ha] at h
        simp only at h ⊢
        split at h
        · rename_i b he; exact ⟨h, hw⟩
        · exact h.elim
      | callf f xs =>
        rw [ha] at h
        simp only at h ⊢
        cases he : evL fr H xs with
        | none => rw [he] at h; exact h.elim
        | some vs =>
          rw [he] at h
          exact hS _ _ _ _ h
      | callv x xs =>
        rw [ha] at h
        simp only at h ⊢
        split at h
        · exact hS _ _ _ _ h
        · exact h.elim
      | bad => rw [ha] at h; exact h.elim

theorem stepA_sub (hM : SCMono SC) {o : AOper} {fr fr' : Fr} (hs : FrSub fr fr') {H : Heap} {K K' : Fr → Heap → Prop} (h : stepA SC o fr H K) (hK : ∀ f f' H, FrSub f f' → K f H → K' f' H) : stepA SC o fr' H K' := by
  unfold stepA at h ⊢
  cases hg : guardA fr o.g with
  | none => rw [hg] at h; exact h.elim
  | some b =>
    rw [hg] at h
    rw [guard_sub hs hg]
    cases b with
    | false => exact hK _ _ _ (hs.put _ _) h
    | true =>
      simp only at h ⊢
      cases ha : o.a with
      | ex k xs =>
        rw [ha] at h
        simp only at h ⊢
        cases he : evL fr H xs with
        | none => rw [he] at h; exact h.elim
        | some vs =>
          rw [he] at h; rw [evL_sub hs he]
          simp only at h ⊢
          cases hx : exec k vs H with
          | none => rw [hx] at h; exact h.elim
          | some p => rw [hx] at h; exact hK _ _ _ (hs.put _ _) h
      | fbits f x =>
        rw [ha] at h
        simp only at h ⊢
        split at h
        · rename_i b he; rw [evX_sub hs he]; exact hK _ _ _ (hs.put _ _) h
        · exact h.elim
      | ffrom f x =>
        rw [ha] at h
        simp only at h ⊢
        split at h
        · rename_i b he; rw [evX_sub hs he]; exact hK _ _ _ (hs.put _ _) h
        · exact h.elim
      | callf f xs =>
        rw [ha] at h
        simp only at h ⊢
        cases he : evL fr H xs with
        | none => rw [he] at h; exact h.elim
        | some vs =>
          rw [he] at h; rw [evL_sub hs he]
          exact hM _ _ _ _ _ h fun r H' hr => hK _ _ _ (hs.put _ _) hr
      | callv x xs =>
        rw [ha] at h
        simp only at h ⊢
        split at h
        · rename_i f first caps vs he he2
          rw [evX_sub hs he, evL_sub hs he2]
          exact hM _ _ _ _ _ h fun r H' hr => hK _ _ _ (hs.put _ _) hr
        · exact h.elim
      | bad => rw [ha] at h; exact h.elim

theorem stepA_swap (hM : SCMono SC) {o : AOper} {fr : Fr} {d : Option Nat} {v : V} (hl : ∀ t, d = some t → t ∉ o.looks) {H : Heap} {K : Fr → Heap → Prop} (h : stepA SC o (fr.put d v) H K) :
    stepA SC o fr H fun f H' => ∃ u, f = fr.put o.dst u ∧ K ((fr.put d v).put o.dst u) H' ∧ (o.a.kind ≤ 2 → H' = H) ∧ (o.a.kind = 3 → H' = H ∨ ∃ ob, H' = H.new ob) := by
  have la := looks_a hl
  by_cases hk : o.a.kind ≤ 2
  · rw [stepA_val hk] at h ⊢
    obtain ⟨u, h1, h2⟩ := h
    rw [valA_put hl] at h1
    exact ⟨u, h1, u, rfl, h2, fun _ => rfl, fun _ => .inl rfl⟩
  unfold stepA at h ⊢
  rw [guard_put (looks_g hl)] at h
  cases hg : guardA fr o.g with
  | none => rw [hg] at h; exact h.elim
  | some b =>
    rw [hg] at h
    cases b with
    | false => exact ⟨_, rfl, h, fun k => absurd k hk, fun _ => .inl rfl⟩
    | true =>
      simp only at h ⊢
      cases ha : o.a with
      | ex k xs =>
        rw [ha] at h la hk
        simp only at h ⊢
        rw [evL_put (by simpa [AOp.slots] using la)] at h
        cases he : evL fr H xs with
        | none => rw [he] at h; exact h.elim
        | some vs =>
          rw [he] at h
          simp only at h ⊢
          cases hx : exec k vs H with
          | none => rw [hx] at h; exact h.elim
          | some p =>
            obtain ⟨r, H'⟩ := p
            rw [hx] at h
            exact ⟨_, rfl, h, fun k => absurd k hk, fun k3 => .inr (exec_alloc (kind_ex3 k3) hx)⟩
      | fbits f x => rw [ha] at hk; exact absurd (Nat.le_trans kind_b (by omega)) hk
      | ffrom f x => rw [ha] at hk; exact absurd (Nat.le_trans kind_f (by omega)) hk
      | callf f xs =>
        rw [ha] at h la hk
        simp only at h ⊢
        rw [evL_put (by simpa [AOp.slots] using la)] at h
        cases he : evL fr H xs with
        | none => rw [he] at h; exact h.elim
        | some vs =>
          rw [he] at h
          exact hM _ _ _ _ _ h fun r H' hr => ⟨_, rfl, hr, fun k => absurd k hk, fun k3 => by simp [AOp.kind] at k3⟩
      | callv x xs =>
        rw [ha] at h la hk
        simp only at h ⊢
        have lx : ∀ t, d = some t → t ∉ x.slot := fun t e k => la t e (by simp [AOp.slots, k])
        have lxs : ∀ t, d = some t → t ∉ slots xs := fun t e k => la t e (by simp [AOp.slots, k])
        rw [evX_put lx, evL_put lxs] at h
        split at h
        · rename_i f first caps vs he he2
          exact hM _ _ _ _ _ h fun r H' hr => ⟨_, rfl, hr, fun k => absurd k hk, fun k3 => by simp [AOp.kind] at k3⟩
        · exact h.elim
      | bad => rw [ha] at h; exact h.elim
end

/-! ### All orders, and a tree that stands for them -/
section
variable (SC : FuncId → List V → Heap → (V → Heap → Prop) → Prop)

def wpT : DT → Fr → Heap → (Fr → Heap → Prop) → Prop
  | .done, fr, H, K => K fr H
  | .op o t, fr, H, K => stepA SC o fr H fun fr H => wpT t fr H K
  | .fork a b, fr, H, K => wpT a fr H K ∧ wpT b fr H K

def wpAnyA (ops : Array Oper) (al : List AOper) : Nat → Array Bool → Fr → Heap → (Fr → Heap → Prop) → Prop
  | 0, listed, fr, H, K => Region.ready .any ops listed = [] ∧ K fr H
  | f + 1, listed, fr, H, K => (Region.ready .any ops listed = [] → K fr H) ∧ ∀ i ∈ Region.ready .any ops listed, match al[i]? with
    | some o => stepA SC o fr H fun fr H => wpAnyA ops al f (listed.setIfInBounds i true) fr H K
    | none => False
end

/-- Operations that must come after i: each waits for i or for another of them. -/
def after (ops : Array Oper) (i : Nat) : List Nat :=
  (List.range ops.size).foldl (fun D j => match ops[j]? with
    | some o => if o.after.any fun e => Region.binds .any e && (e.on == i || D.contains e.on) then j :: D else D
    | none => D) []
def afterOk (ops : Array Oper) (i : Nat) (D : List Nat) : Bool :=
  D.all fun j => match ops[j]? with
    | some o => o.after.any fun e => Region.binds .any e && (e.on == i || D.contains e.on)
    | none => true
def apartA (oi oj : AOper) : Bool :=
  (match oi.dst with | some d => !oj.looks.contains d | none => true) && (match oj.dst with | some d => !oi.looks.contains d | none => true)
    && (match oi.dst, oj.dst with | some d, some e => d != e | _, _ => true)
def freeA (ops : Array Oper) (al : List AOper) (listed : Array Bool) (i : Nat) : Bool :=
  match al[i]? with
  | some oi =>
    let D := after ops i
    oi.a.kind ≤ 2 && afterOk ops i D && D.all (fun j => !listed.getD j false) && !listed.getD i false &&
    (List.range ops.size).all fun j => j == i || listed.getD j true || D.contains j || (match al[j]? with
      | some oj => apartA oi oj && (oi.a.kind == 0 || oj.a.kind ≤ 2 || (oi.a.kind == 1 && oj.a.kind == 3))
      | none => true)
  | none => false
def forkAll (f : Nat → Option DT) : List Nat → Option DT
  | [] => none
  | [i] => f i
  | i :: is => match f i, forkAll f is with
    | some a, some b => some (.fork a b)
    | _, _ => none
def opT (al : List AOper) (i : Nat) (t : Option DT) : Option DT := match al[i]?, t with
  | some o, some t => some (.op o t)
  | _, _ => none
def plan (ops : Array Oper) (al : List AOper) : Nat → Array Bool → Option DT
  | 0, listed => match Region.ready .any ops listed with
    | [] => some .done
    | _ => none
  | f + 1, listed => match Region.ready .any ops listed with
    | [] => some .done
    | is => match is.find? (freeA ops al listed) with
      | some i => opT al i (plan ops al f (listed.setIfInBounds i true))
      | none => forkAll (fun i => opT al i (plan ops al f (listed.setIfInBounds i true))) is

/-! ### The tree is enough -/
section
variable {SC : FuncId → List V → Heap → (V → Heap → Prop) → Prop} {ops : Array Oper} {al : List AOper}

def KMono (K : Fr → Heap → Prop) : Prop := ∀ f f' H, FrSub f f' → K f H → K f' H

theorem wpAnyA_mono (hM : SCMono SC) {K : Fr → Heap → Prop} (hK : KMono K) : ∀ (n : Nat) (listed : Array Bool) (fr fr' : Fr) (H : Heap), FrSub fr fr' → wpAnyA SC ops al n listed fr H K → wpAnyA SC ops al n listed fr' H K
  | 0, listed, fr, fr', H, hs, h => ⟨h.1, hK _ _ _ hs h.2⟩
  | n + 1, listed, fr, fr', H, hs, h => by
    refine ⟨fun e => hK _ _ _ hs (h.1 e), fun i hi => ?_⟩
    have := h.2 i hi
    cases ha : al[i]? with
    | none => rw [ha] at this; exact this.elim
    | some o =>
      rw [ha] at this
      exact stepA_sub hM hs this fun f f' H hf hw => wpAnyA_mono hM hK n _ _ _ _ hf hw

theorem set_comm (l : Array Bool) (i j : Nat) : (l.setIfInBounds i true).setIfInBounds j true = (l.setIfInBounds j true).setIfInBounds i true := by
  by_cases h : i = j
  · subst h; rfl
  · exact Array.setIfInBounds_comm _ _ h

theorem getD_listed {l : Array Bool} {i j : Nat} (h : l.getD j false = true) : (l.setIfInBounds i true).getD j false = true := getD_set_true h

structure Free (ops : Array Oper) (al : List AOper) (listed : Array Bool) (i : Nat) (oi : AOper) (D : List Nat) : Prop where
  get : al[i]? = some oi
  kind : oi.a.kind ≤ 2
  dep : ∀ j ∈ D, ∀ o, ops[j]? = some o → ∃ e ∈ o.after, Region.binds .any e = true ∧ (e.on = i ∨ e.on ∈ D)
  unl : ∀ j ∈ D, listed.getD j false = false
  uni : listed.getD i false = false
  oth : ∀ j oj, al[j]? = some oj → j < ops.size → j ≠ i → listed.getD j true = false → j ∉ D → apartA oi oj = true ∧ ((oi.a.kind = 0 ∨ oj.a.kind ≤ 2) ∨ (oi.a.kind = 1 ∧ oj.a.kind = 3))

theorem freeA_spec {listed : Array Bool} {i : Nat} (h : freeA ops al listed i = true) : ∃ oi D, Free ops al listed i oi D := by
  unfold freeA at h
  cases ha : al[i]? with
  | none => rw [ha] at h; cases h
  | some oi =>
    rw [ha] at h
    simp only [Bool.and_eq_true, decide_eq_true_eq] at h
    obtain ⟨⟨⟨⟨h1, h2⟩, h3⟩, h4⟩, h5⟩ := h
    refine ⟨oi, after ops i, ha, h1, fun j hj o ho => ?_, fun j hj => ?_, by simpa using h4, fun j oj hoj hjn hji hjl hjD => ?_⟩
    · unfold afterOk at h2
      have := List.all_eq_true.1 h2 j hj
      rw [ho] at this
      obtain ⟨e, he, hb⟩ := Array.any_eq_true'.1 this
      simp only [Bool.and_eq_true, Bool.or_eq_true, beq_iff_eq, List.contains_iff_mem] at hb
      exact ⟨e, he, hb.1, hb.2⟩
    · have := List.all_eq_true.1 h3 j hj
      simpa using this
    · have := List.all_eq_true.1 h5 j (by simpa using hjn)
      simp only [Bool.or_eq_true, beq_iff_eq, hji, false_or, hjl, Bool.false_eq_true, List.contains_iff_mem, hjD, hoj, Bool.and_eq_true, decide_eq_true_eq] at this
      exact this

theorem apart_spec {oi oj : AOper} (h : apartA oi oj = true) : (∀ t, oi.dst = some t → t ∉ oj.looks) ∧ (∀ t, oj.dst = some t → t ∉ oi.looks) ∧ (∀ t, oi.dst = some t → oj.dst ≠ some t) := by
  unfold apartA at h
  simp only [Bool.and_eq_true] at h
  obtain ⟨⟨h1, h2⟩, h3⟩ := h
  refine ⟨fun t e => ?_, fun t e => ?_, fun t e k => ?_⟩
  · rw [e] at h1; simpa using h1
  · rw [e] at h2; simpa using h2
  · rw [e, k] at h3; simp at h3

theorem wpAnyA_first (hM : SCMono SC) {K : Fr → Heap → Prop} (hK : KMono K) : ∀ (n : Nat) (listed : Array Bool) (i : Nat) (oi : AOper) (D : List Nat) (fr : Fr) (H : Heap) (v : V),
    (oi.a.kind = 0 ∨ WF H) → i ∈ Region.ready .any ops listed → Free ops al listed i oi D → valA oi fr H = some v → wpAnyA SC ops al n (listed.setIfInBounds i true) (fr.put oi.dst v) H K → wpAnyA SC ops al (n + 1) listed fr H K
  | n, listed, i, oi, D, fr, H, v, hW, hi, hF, hv, hw => by
    refine ⟨fun e => absurd (e ▸ hi) (by simp), fun j hj => ?_⟩
    by_cases hji : j = i
    · subst hji
      rw [hF.get]
      simp only
      rw [stepA_val hF.kind]
      exact ⟨v, hv, hw⟩
    · have hj' := ready_mono (ops := ops) (md := .any) hj hji
      cases n with
      | zero => rw [hw.1] at hj'; cases hj'
      | succ n =>
        have hwj := hw.2 j hj'
        cases ha : al[j]? with
        | none => rw [ha] at hwj; exact hwj.elim
        | some oj =>
          rw [ha] at hwj
          simp only at hwj ⊢
          obtain ⟨hjl, o, ho, hall⟩ := mem_ready.1 hj
          have hjn : j < ops.size := (Array.getElem?_eq_some_iff.1 ho).1
          have hjD : j ∉ D := by
            intro hd
            obtain ⟨e, he, hb, hk⟩ := hF.dep j hd o ho
            have hl := hall e he hb
            rcases hk with hk | hk
            · rw [hk, hF.uni] at hl; cases hl
            · rw [hF.unl _ hk] at hl; cases hl
          obtain ⟨hap, hkk⟩ := hF.oth j oj ha hjn hji hjl hjD
          obtain ⟨a1, a2, a3⟩ := apart_spec hap
          refine stepA_sub hM (FrSub.refl fr) (stepA_swap hM a1 hwj) fun f f' H' hf hq => ?_
          obtain ⟨u, rfl, hq, hHH, hHN⟩ := hq
          have hW' : oi.a.kind = 0 ∨ WF H' := by
            rcases hkk with (h0 | h1) | ⟨_, h3⟩
            · exact .inl h0
            · rw [hHH h1]; exact hW
            · rcases hW with h0 | hw
              · exact .inl h0
              · rcases hHN h3 with e | ⟨ob, e⟩
                · rw [e]; exact .inr hw
                · rw [e]; exact .inr (hw.new ob)
          refine wpAnyA_mono hM hK (n + 1) _ _ _ _ hf ?_
          have hne : ∀ k, listed.getD k false = false → k ≠ j → (listed.setIfInBounds j true).getD k false = false := fun k hk hkj => by rw [getD_set_ne false (Ne.symm hkj)]; exact hk
          refine wpAnyA_first hM hK n (listed.setIfInBounds j true) i oi D _ H' v hW' (ready_mono hi (Ne.symm hji)) ⟨hF.get, hF.kind, hF.dep, fun k hk => hne k (hF.unl k hk) (fun e => hjD (e ▸ hk)), hne i hF.uni (Ne.symm hji), fun k ok hok hkn hki hkl hkD => ?_⟩ ?_ ?_
          · refine hF.oth k ok hok hkn hki ?_ hkD
            by_cases hkj : j = k
            · subst hkj; exact hjl
            · rw [getD_set_ne true hkj] at hkl; exact hkl
          · rw [valA_put a2]
            rcases hkk with (h0 | h1) | ⟨h1, h3⟩
            · exact valA_heap h0 hv
            · rw [hHH h1]; exact hv
            · rcases hW with h0 | hw
              · exact valA_heap h0 hv
              · rcases hHN h3 with e | ⟨ob, e⟩
                · rw [e]; exact hv
                · rw [e]; exact valA_new (by omega) hw hv ob
          · rw [set_comm]
            exact wpAnyA_mono hM hK n _ _ _ _ (FrSub.swap fr v u a3) hq

theorem sub_lift (hM : SCMono SC) {K : Fr → Heap → Prop} (hK : KMono K) : ∀ (t : DT) (f f' : Fr) (H : Heap), FrSub f f' → wpT SC t f H K → wpT SC t f' H K
  | .done, f, f', H, hs, h => hK _ _ _ hs h
  | .op o t, f, f', H, hs, h => stepA_sub hM hs h fun g g' H' hg hq => sub_lift hM hK t g g' H' hg hq
  | .fork x y, f, f', H, hs, h => ⟨sub_lift hM hK x _ _ _ hs h.1, sub_lift hM hK y _ _ _ hs h.2⟩

theorem forkAll_spec {f : Nat → Option DT} : ∀ {is : List Nat} {t : DT}, forkAll f is = some t → ∀ {fr : Fr} {H : Heap} {K : Fr → Heap → Prop}, wpT SC t fr H K → ∀ i ∈ is, ∃ t', f i = some t' ∧ wpT SC t' fr H K
  | [], t, h, fr, H, K, hw, i, hi => by cases hi
  | [j], t, h, fr, H, K, hw, i, hi => by
    simp at hi; subst hi
    exact ⟨t, h, hw⟩
  | j :: k :: is, t, h, fr, H, K, hw, i, hi => by
    simp only [forkAll] at h
    split at h
    · rename_i a b h1 h2
      cases h
      simp only [wpT] at hw
      rcases List.mem_cons.1 hi with rfl | hi
      · exact ⟨a, h1, hw.1⟩
      · exact forkAll_spec h2 hw.2 i hi
    · cases h

theorem opT_spec {i : Nat} {t : Option DT} {u : DT} (h : opT al i t = some u) : ∃ o t', al[i]? = some o ∧ t = some t' ∧ u = .op o t' := by
  unfold opT at h
  split at h
  · rename_i o t' h1; cases h; exact ⟨o, t', h1, rfl, rfl⟩
  · cases h

theorem plan_sound (hS : SCWf SC) (hM : SCMono SC) {K : Fr → Heap → Prop} (hK : KMono K) : ∀ (n : Nat) (listed : Array Bool) (t : DT), plan ops al n listed = some t → ∀ (fr : Fr) (H : Heap), WF H → wpT SC t fr H K → wpAnyA SC ops al n listed fr H K
  | 0, listed, t, h, fr, H, hwf, hw => by
    simp only [plan] at h
    split at h
    · rename_i e; cases h; exact ⟨e, hw⟩
    · cases h
  | n + 1, listed, t, h, fr, H, hwf, hw => by
    simp only [plan] at h
    split at h
    · rename_i e; cases h; exact ⟨fun _ => hw, fun i hi => absurd (e ▸ hi) (by simp)⟩
    · rename_i hne
      split at h
      · rename_i i hi
        obtain ⟨o, t', ho, ht, rfl⟩ := opT_spec h
        have hir := List.mem_of_find?_eq_some hi
        have hif := List.find?_some hi
        obtain ⟨oi, D, hF⟩ := freeA_spec hif
        simp only [wpT] at hw
        rw [hF.get] at ho; cases ho
        rw [stepA_val hF.kind] at hw
        obtain ⟨v, hv, hw⟩ := hw
        exact wpAnyA_first hM hK n listed i _ D fr H v (.inr hwf) hir hF hv (plan_sound hS hM hK n _ _ ht _ _ hwf hw)
      · rename_i hnf
        refine ⟨fun e => absurd e hne, fun i hi => ?_⟩
        obtain ⟨t', ht', hw'⟩ := forkAll_spec h hw i hi
        obtain ⟨o, t'', ho, ht, rfl⟩ := opT_spec ht'
        rw [ho]
        simp only [wpT] at hw' ⊢
        exact stepA_sub hM (FrSub.refl fr) (stepA_wf hS hM hwf hw') fun f f' H' hf hq => wpAnyA_mono hM hK n _ _ _ _ hf (plan_sound hS hM hK n _ _ ht _ _ hq.2 hq.1)
end

section
variable {P : Program} {N : Nat} {SC : FuncId → List V → Heap → (V → Heap → Prop) → Prop} {ops : Array Oper} {al : List AOper}

theorem compOpers_get : ∀ {os : List Oper} {al : List AOper}, compOpers P N ops os = some al → ∀ {i : Nat} {o : Oper}, os[i]? = some o → ∃ ao, al[i]? = some ao ∧ compOper P N ops o = some ao
  | [], al, h, i, o, ho => by simp at ho
  | x :: os, al, h, i, o, ho => by
    simp only [compOpers] at h
    split at h
    · rename_i a l h1 h2
      cases h
      cases i with
      | zero => simp at ho; subst ho; exact ⟨a, rfl, h1⟩
      | succ i => simpa using compOpers_get h2 (by simpa using ho)
    · cases h

theorem wpAnyA_sound (hSC : ∀ f vs H R, SC f vs H R → SCalls P f vs H R) (hc : compOpers P N ops ops.toList = some al) {K : Fr → Heap → Prop} {Q : Exit → Act → World → Prop} :
    ∀ (n : Nat) (listed : Array Bool) (fr : Fr) (H : Heap) (m : Nat → Pl) (w : World) (a : Act), wpAnyA SC ops al n listed fr H K → Rel m H w → FRel N m H fr a →
      (∀ a' w', Post N (fun _ => K) m H w .normal a' w' → Q .normal a' w') → wpAny P .any ops Q n listed a w
  | 0, listed, fr, H, m, w, a, h, hr, hf, hQ => ⟨h.1, hQ _ _ ⟨fr, H, m, h.2, hr, hf, Ev.refl hr⟩⟩
  | n + 1, listed, fr, H, m, w, a, h, hr, hf, hQ => by
    refine ⟨fun e => hQ _ _ ⟨fr, H, m, h.1 e, hr, hf, Ev.refl hr⟩, fun i hi => ?_⟩
    have hw := h.2 i hi
    obtain ⟨_, o, ho, _⟩ := mem_ready.1 hi
    obtain ⟨ao, hao, hco⟩ := compOpers_get hc (i := i) (o := o) (by simpa using ho)
    rw [hao] at hw
    exact stepA_sound hSC ops ho hco hw hr hf fun fr' H' m' w' a' hK hr' hf' hev => wpAnyA_sound hSC hc n _ fr' H' m' w' a' hK hr' hf' fun a2 w2 hp => hQ a2 w2 (hp.later hev)

theorem draw_sound (hSC : ∀ f vs H R, SC f vs H R → SCalls P f vs H R) (hS : SCWf SC) (hM : SCMono SC) {id : Nat} (hm : P.follows .mixedOrders = true) (hc : compOpers P N ops ops.toList = some al) {t : DT}
    (ht : plan ops al ops.size (Array.replicate ops.size false) = some t) {fr : Fr} {H : Heap} {Q : Exit → Fr → Heap → Prop} {m : Nat → Pl} {w : World} {a : Act}
    (h : wpT SC t fr H (Q .normal)) (hr : Rel m H w) (hf : FRel N m H fr a) : (Code.region id ops true).wp P (Post N Q m H w) a w := by
  refine wp_region_any hm ?_
  obtain ⟨hr', hev⟩ := hr.same (w' := { w with drawn := w.drawn + 1 }) rfl rfl rfl rfl
  let K : Fr → Heap → Prop := fun f H => ∃ f', FrSub f' f ∧ Q .normal f' H
  have hK : KMono K := fun f f' H hs ⟨g, hg, hq⟩ => ⟨g, hg.trans hs, hq⟩
  have wpT_mono : ∀ (t : DT) (fr : Fr) (H : Heap), wpT SC t fr H (Q .normal) → wpT SC t fr H K := by
    intro t
    induction t with
    | done => intro fr H h; exact ⟨fr, FrSub.refl fr, h⟩
    | op o t ih =>
      intro fr H h
      have key : ∀ (fr' : Fr), FrSub fr fr' → wpT SC (.op o t) fr' H K := by
        intro fr' hs
        simp only [wpT] at h ⊢
        refine stepA_sub hM hs h fun f f' H' hf hq => ?_
        have h1 := ih f H' hq
        exact sub_lift hM hK t f f' H' hf h1
      exact key fr (FrSub.refl fr)
    | fork x y ix iy => intro fr H h; exact ⟨ix _ _ h.1, iy _ _ h.2⟩
  have h2 := plan_sound hS hM hK _ _ _ ht fr H hr.bound (wpT_mono t fr H h)
  refine wpAnyA_sound hSC hc _ _ fr H m _ a h2 hr' hf fun a' w' hp => ?_
  obtain ⟨f1, H1, m1, ⟨f2, hs, hq⟩, hr1, hf1, hev1⟩ := hp
  exact ⟨f2, H1, m1, hq, hr1, hf1.sub hs, hev.trans hev1⟩
end
end Go.Proofs.YtkmaikggdbielaaGreatDoor.Fw
