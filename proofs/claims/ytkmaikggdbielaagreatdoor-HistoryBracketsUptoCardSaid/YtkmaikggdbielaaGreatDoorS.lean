/- The framework, part S: closed calls at any heap; slices as lists of elements; steps. No condition. -/
import Derived.Test.YtkmaikggdbielaaGreatDoorR
namespace Go.Proofs.YtkmaikggdbielaaGreatDoor.Fw
open Go
set_option linter.unusedSimpArgs false
set_option linter.unusedVariables false

/-! ### Closed calls -/
def H0 : Heap := ⟨0, 0, fun _ => none⟩
theorem Rel.below {m : Nat → Pl} {H : Heap} {w w' : World} (h : Rel m H w) (hos : w'.os = w.os) (htp : w'.tape = w.tape) (hop : w'.output = w.output) (hsz : w.heap.size ≤ w'.heap.size)
    (hb : ∀ b, b < w.heap.size → w'.heap[b]? = w.heap[b]?) : Rel m H w' ∧ Ev m H w m H w' := by
  have lt : ∀ {b : Nat} {x}, w.heap[b]? = some x → w'.heap[b]? = some x := fun {b x} e => by
    rw [hb b (by obtain ⟨h, _⟩ := Array.getElem?_eq_some_iff.1 e; exact h)]; exact e
  refine ⟨⟨h.glob, h.bound, fun id o ho => ?_, h.apart⟩, ⟨h.bound, Nat.le_refl _, fun _ _ h => h, Keeps.refl.keep, hos, htp, hop, hsz, fun b hbs _ => hb b hbs, fun id o ho hw => .inl ⟨id, o, ho, hw, rfl⟩⟩⟩
  have g := h.obs id o ho
  cases o with
  | row ro esz cells =>
    obtain ⟨c, e, fz, h1, h2⟩ := g
    exact ⟨c, e, fz, lt h1, h2⟩
  | mapo es =>
    obtain ⟨es', cl, h1, h2⟩ := g
    exact ⟨es', cl, lt h1, h2⟩
  | iter s pos => exact ⟨g.1, lt g.2⟩

theorem SCalls.closed {P : Program} {f : FuncId} {vs : List V} (hvs : flatL vs = true) {c : V} (hc : c.flat = true) (h : SCalls P f vs H0 fun r _ => r = c) (H : Heap) : SCalls P f vs H fun r H' => H' = H ∧ r = c :=
  ⟨h.1, fun m w xs hr hv => by
    have hr0 : Rel m H0 w := ⟨fun g hg => absurd hg (Nat.not_lt_zero g), fun id o e => by simp [H0] at e, fun id o e => by simp [H0] at e, fun i j o o' e => by simp [H0] at e⟩
    refine (h.2 m w xs hr0 (VRelL.flat vs xs hvs hv)).mono fun e w' he => ?_
    obtain ⟨r, H1, m1, x, rfl, rfl, hvx, hr1, hev⟩ := he
    obtain ⟨g1, g2⟩ := hr.below hev.os hev.tape hev.output hev.size fun b hb => hev.block b hb fun id o e => by simp [H0] at e
    exact ⟨r, H, m, x, rfl, ⟨rfl, rfl⟩, VRel.flat r x hc hvx, g1, g2⟩⟩

theorem SCalls.worked {P : Program} {tbl : FuncId → Option AFn} (ht : ∀ f af, tbl f = some af → compFn P f = some af) {k n : Nat} {f : FuncId} {vs : List V} (hvs : flatL vs = true) {c : V} (hc : c.flat = true) (h : (runFn tbl k n f vs H0).map (·.1) = some c) (H : Heap) :
    SCalls P f vs H fun r H' => H' = H ∧ r = c := by
  refine SCalls.closed hvs hc ?_ H
  cases hr : runFn tbl k n f vs H0 with
  | none => rw [hr] at h; cases h
  | some p =>
    obtain ⟨r, H'⟩ := p
    rw [hr] at h
    simp at h
    exact runFn_sound ht k n f vs H0 r H' hr _ h

/-! ### Cells at a place -/
/-- At (id, o) the cells e lie. -/
def At (H : Heap) (id o : Nat) (e : List V) : Prop := id < H.next ∧ ∃ ro esz cells, H.get id = some (.row ro esz cells) ∧ o + e.length ≤ cells.length ∧ ∀ j v, e[j]? = some v → cells[o + j]? = some v
theorem At.ext {H H' : Heap} {id o : Nat} {e : List V} (h : At H id o e) (k : Ext H H') : At H' id o e := by
  obtain ⟨h1, ro, esz, cells, h2, h3⟩ := h
  exact ⟨Nat.lt_of_lt_of_le h1 k.next, ro, esz, cells, by rw [k.get id h1]; exact h2, h3⟩
theorem At.ld {H : Heap} {id o : Nat} {e : List V} (h : At H id o e) {j : Nat} {v : V} (hj : e[j]? = some v) (n : Nat) : exec (.ld n) [.ptr id (o + j)] H = some (v, H) := by
  obtain ⟨_, ro, esz, cells, h2, _, h4⟩ := h
  simp only [exec, h2, h4 j v hj, Option.map_some]
theorem At.tail {H : Heap} {id o : Nat} {a b : List V} (h : At H id o (a ++ b)) : At H id (o + a.length) b := by
  obtain ⟨h1, ro, esz, cells, h2, h3, h4⟩ := h
  refine ⟨h1, ro, esz, cells, h2, by rw [List.length_append] at h3; omega, fun j v hj => ?_⟩
  rw [Nat.add_assoc]
  exact h4 (a.length + j) v (by rw [List.getElem?_append_right (by omega)]; simpa using hj)
theorem At.take {H : Heap} {id o : Nat} {e : List V} (h : At H id o e) : ∃ ro esz cells, H.get id = some (.row ro esz cells) ∧ o + e.length ≤ cells.length ∧ (cells.drop o).take e.length = e := by
  obtain ⟨_, ro, esz, cells, h2, h3, h4⟩ := h
  refine ⟨ro, esz, cells, h2, h3, List.ext_getElem? fun j => ?_⟩
  rw [List.getElem?_take]
  split
  · rename_i hj
    rw [List.getElem?_drop, List.getElem?_eq_getElem hj]
    exact h4 j _ (List.getElem?_eq_getElem hj)
  · rename_i hj
    rw [List.getElem?_eq_none (by omega)]
theorem At.lda {H : Heap} {id o : Nat} {e : List V} (h : At H id o e) {n : Nat} (hn : n = e.length) : exec (.lda n) [.ptr id o] H = some (.agg e, H) := by
  obtain ⟨ro, esz, cells, h2, h3, h4⟩ := h.take
  subst hn
  simp only [exec, h2, if_pos h3, h4]

/-- v is a slice of the elements es, each of sz cells. -/
def SL (H : Heap) (v : V) (sz : Nat) (es : List (List V)) : Prop :=
  (∀ e ∈ es, e.length = sz ∧ e.all V.one = true) ∧ ((v = .nils ∧ es = []) ∨ ∃ id off cap, v = .slice id off es.length cap ∧ id < H.next ∧ ∀ i e, es[i]? = some e → At H id (off + i * sz) e)
theorem SL.ext {H H' : Heap} {v : V} {sz : Nat} {es : List (List V)} (h : SL H v sz es) (k : Ext H H') : SL H' v sz es := by
  obtain ⟨h0, h | ⟨id, off, cap, h1, h2, h3⟩⟩ := h
  · exact ⟨h0, .inl h⟩
  · exact ⟨h0, .inr ⟨id, off, cap, h1, Nat.lt_of_lt_of_le h2 k.next, fun i e he => (h3 i e he).ext k⟩⟩
theorem SL.len {H H' : Heap} {v : V} {sz : Nat} {es : List (List V)} (h : SL H v sz es) : exec .len [v] H' = some (.int .i64 es.length, H') := by
  obtain ⟨_, ⟨rfl, rfl⟩ | ⟨id, off, cap, rfl, _, _⟩⟩ := h
  · rfl
  · rfl
theorem SL.ia {H H' : Heap} {v : V} {sz : Nat} {es : List (List V)} (h : SL H v sz es) {i : Nat} {e : List V} (he : es[i]? = some e) (k : IntKind) : ∃ id o, exec (.ia sz) [v, .int k i] H' = some (.ptr id o, H') ∧ At H id o e := by
  have hi : i < es.length := (List.getElem?_eq_some_iff.1 he).1
  obtain ⟨_, ⟨rfl, rfl⟩ | ⟨id, off, cap, rfl, _, h3⟩⟩ := h
  · simp at hi
  · refine ⟨id, off + i * sz, ?_, h3 i e he⟩
    simp only [exec]
    rw [if_pos ⟨by omega, by omega⟩]
    rfl

/-! ### Steps -/
section
variable {SC : FuncId → List V → Heap → (V → Heap → Prop) → Prop} {fr : Fr} {H H' : Heap} {K : Fr → Heap → Prop} {Q : Exit → Fr → Heap → Prop}
theorem stepA_ex {d : Option Nat} {g : Option (Nat × Bool)} {k : AK} {xs : List X} {vs : List V} {r : V} (hg : guardA fr g = some true) (hx : evL fr H xs = some vs) (he : exec k vs H = some (r, H')) (hK : K (fr.put d r) H') :
    stepA SC ⟨d, g, .ex k xs⟩ fr H K := by
  unfold stepA; simp only [hg, hx, he]; exact hK
theorem stepA_call {d : Option Nat} {g : Option (Nat × Bool)} {f : FuncId} {xs : List X} {vs : List V} (hg : guardA fr g = some true) (hx : evL fr H xs = some vs) (hc : SC f vs H fun r H' => K (fr.put d r) H') :
    stepA SC ⟨d, g, .callf f xs⟩ fr H K := by
  unfold stepA; simp only [hg, hx]; exact hc
theorem stepA_off {o : AOper} (hg : guardA fr o.g = some false) (hK : K (fr.put o.dst .undef) H) : stepA SC o fr H K := by
  unfold stepA; simp only [hg]; exact hK
theorem wpC_cond {x : X} {a b : ACode} {t : Bool} (hx : x.ev fr H = some (.bool t)) (ht : t = true → wpC SC a fr H Q) (hf : t = false → wpC SC b fr H Q) : wpC SC (.cond x a b) fr H Q := by
  simp only [wpC, hx]
  cases t with
  | true => exact ht rfl
  | false => exact hf rfl
theorem FrSub.nil : FrSub [] fr := fun t v h => by simp [Fr.get] at h
theorem FrSub.cons {t : Nat} {v : V} {l : Fr} (h : fr.get t = some v) (k : FrSub l fr) : FrSub ((t, v) :: l) fr := fun s u e => by
  simp only [Fr.get] at e
  split at e
  · rename_i hs; subst hs; cases e; exact h
  · exact k s u e
end

theorem wrap_i64 {n : Int} (h : -9223372036854775808 ≤ n) (k : n ≤ 9223372036854775807) : IntKind.i64.wrap n = n := by
  simp only [IntKind.wrap, IntKind.bits, IntKind.signed, Bool.true_and]
  split
  · rename_i e; simp at e; omega
  · rename_i e; simp at e; omega
end Go.Proofs.YtkmaikggdbielaaGreatDoor.Fw
