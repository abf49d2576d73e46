/- The framework, part B: reading, writing, making abstract objects, and what the worlds do. No condition. -/
import Derived.Test.YtkmaikggdbielaaGreatDoorA
import Derived.Laws.Sem
import Derived.Laws.Cells
import Derived.Laws.Rows
namespace Go.Proofs.YtkmaikggdbielaaGreatDoor.Fw
open Go

theorem Ob.owned_of_kind {o o' : Ob} (h : o'.kind = o.kind) : o'.owned = o.owned := by
  cases o <;> cases o' <;> simp_all [Ob.kind, Ob.owned]

section
variable {m m' : Nat → Pl} {H H' : Heap} {w w' : World}

theorem ObRel.mono (h : Keeps m H m' H') {id : Nat} (e : m' id = m id) (hb : w'.heap[(m id).b]? = w.heap[(m id).b]?) {o : Ob}
    (k : ObRel m H w id o) : ObRel m' H' w' id o := by
  cases o with
  | row ro esz cells =>
    obtain ⟨c, t, fz, hc, hs, hv, hf⟩ := k
    refine ⟨c, t, fz, by rw [e, hb]; exact hc, by rw [e]; exact hs, fun j v hj => ?_, hf⟩
    obtain ⟨x, hx, hr⟩ := hv j v hj
    exact ⟨x, by rw [e]; exact hx, hr.mono h _ _⟩
  | mapo es =>
    obtain ⟨es', clock, hc, h1, h2⟩ := k
    exact ⟨es', clock, by rw [e, hb]; exact hc, h1.mono h _ _, h2.mono h _ _⟩
  | iter s pos => exact ⟨by rw [e]; exact k.1, by rw [e, hb]; exact k.2⟩

theorem Keeps.set (id : Nat) (o o' : Ob) (ho : H.get id = some o) (hk : o'.kind = o.kind) : Keeps m H m (H.set id o') := by
  refine ⟨Nat.le_refl _, fun i _ hn => ?_, fun i p p' hp hp' => ⟨rfl, ?_⟩⟩
  · rw [Heap.set_get]; split
    · subst_vars; rw [ho] at hn; cases hn
    · exact hn
  · rw [Heap.set_get] at hp'; split at hp'
    · subst_vars; rw [ho] at hp; cases hp; cases hp'; exact hk
    · rw [hp] at hp'; cases hp'; rfl

/-- One owned object is written. -/
theorem Rel.upd (h : Rel m H w) {id : Nat} {o o' : Ob} (ho : H.get id = some o) (hw : o.owned = true) (hk : o'.kind = o.kind)
    (hos : w'.os = w.os) (htp : w'.tape = w.tape) (hop : w'.output = w.output) (hsz : w'.heap.size = w.heap.size)
    (hbl : ∀ b, b ≠ (m id).b → w'.heap[b]? = w.heap[b]?) (hob : ObRel m (H.set id o') w' id o') :
    Rel m (H.set id o') w' ∧ Ev m H w m (H.set id o') w' := by
  have hkp : Keeps m H m (H.set id o') := Keeps.set id o o' ho hk
  refine ⟨⟨h.glob.mono hkp rfl, fun i p hp => ?_, fun i p hp => ?_, fun i j p q hp hq hpo hij => ?_⟩, ⟨h.bound, hkp.next, hkp.dead, hkp.keep, hos, htp, hop, by omega, fun b hb hn => ?_, fun i p hp hpo => ?_⟩⟩
  · rw [Heap.set_get] at hp; split at hp
    · subst_vars; exact h.bound _ o ho
    · exact h.bound i p hp
  · rw [Heap.set_get] at hp
    by_cases hi : i = id
    · subst hi; rw [if_pos rfl] at hp; cases hp; exact hob
    · have hne := hi
      rw [if_neg hne] at hp
      exact (h.obs i p hp).mono hkp rfl (hbl _ fun e => h.apart id i o p ho hp hw (Ne.symm hne) e.symm)
  · have own : ∀ (i : Nat) (p : Ob), (H.set id o').get i = some p → ∃ p0, H.get i = some p0 ∧ p0.owned = p.owned := fun i p hp => by
      rw [Heap.set_get] at hp
      by_cases hi : i = id
      · subst hi; rw [if_pos rfl] at hp; cases hp; exact ⟨o, ho, (Ob.owned_of_kind hk).symm⟩
      · rw [if_neg hi] at hp; exact ⟨p, hp, rfl⟩
    obtain ⟨p0, h1, e1⟩ := own i p hp
    obtain ⟨q0, h2, _⟩ := own j q hq
    exact h.apart i j p0 q0 h1 h2 (e1.trans hpo) hij
  · exact hbl b fun e => hn id o ho hw e.symm
  · rw [Heap.set_get] at hp; split at hp
    · subst_vars; exact .inl ⟨_, o, ho, hw, rfl⟩
    · exact .inl ⟨i, p, hp, hpo, rfl⟩

/-- The same object and the same world, but for draws. -/
theorem Rel.same (h : Rel m H w) (hos : w'.os = w.os) (htp : w'.tape = w.tape) (hop : w'.output = w.output) (hh : w'.heap = w.heap) :
    Rel m H w' ∧ Ev m H w m H w' := by
  refine ⟨⟨h.glob, h.bound, fun i p hp => (h.obs i p hp).mono Keeps.refl rfl (by rw [hh]), h.apart⟩, ⟨h.bound, Nat.le_refl _, fun _ _ h => h, Keeps.refl.keep, hos, htp, hop, by rw [hh]; exact Nat.le_refl _, fun _ _ _ => by rw [hh], fun i p hp hpo => .inl ⟨i, p, hp, hpo, rfl⟩⟩⟩

def mput (m : Nat → Pl) (i : Nat) (p : Pl) : Nat → Pl := fun j => if j = i then p else m j
theorem mput_same (i : Nat) (p : Pl) : mput m i p i = p := by simp [mput]
theorem mput_ne {i j : Nat} (p : Pl) (h : j ≠ i) : mput m i p j = m j := by simp [mput, h]

theorem Keeps.new (hb : ∀ id o, H.get id = some o → id < H.next) (o : Ob) (p : Pl) : Keeps m H (mput m H.next p) (H.new o) := by
  refine ⟨by simp, fun i hi hn => ?_, fun i q q' hq hq' => ?_⟩
  · rw [Heap.new_get, if_neg (by omega)]; exact hn
  · have := hb i q hq
    rw [Heap.new_get, if_neg (by omega)] at hq'
    rw [hq] at hq'; cases hq'
    exact ⟨mput_ne p (by omega), rfl⟩

theorem size_alloc' (w : World) (o : Obj) : (w.alloc o).heap.size = w.heap.size + 1 := World.size_alloc ..

/-- A new block. -/
theorem Rel.new (h : Rel m H w) (x : Obj) (o : Ob) (base sz : Nat)
    (hob : ObRel (mput m H.next ⟨w.heap.size, base, sz⟩) (H.new o) (w.alloc x) H.next o) :
    Rel (mput m H.next ⟨w.heap.size, base, sz⟩) (H.new o) (w.alloc x) ∧ Ev m H w (mput m H.next ⟨w.heap.size, base, sz⟩) (H.new o) (w.alloc x) := by
  have hkp : Keeps m H (mput m H.next ⟨w.heap.size, base, sz⟩) (H.new o) := Keeps.new h.bound o _
  have hin : ∀ i p, H.get i = some p → (m i).b < w.heap.size := fun i p hp => by
    have hh := h.obs i p hp
    cases p with
    | row ro esz cells => obtain ⟨c, t, fz, hc, _⟩ := hh; exact (Array.getElem?_eq_some_iff.1 hc).1
    | mapo es => obtain ⟨c, t, hc, _⟩ := hh; exact (Array.getElem?_eq_some_iff.1 hc).1
    | iter s pos => exact (Array.getElem?_eq_some_iff.1 hh.2).1
  have old : ∀ i p, (H.new o).get i = some p → i ≠ H.next → H.get i = some p := fun i p hp hi => by
    rwa [Heap.new_get, if_neg hi] at hp
  refine ⟨⟨h.glob.mono hkp rfl, fun i p hp => ?_, fun i p hp => ?_, fun i j p q hp hq hpo hij => ?_⟩, ⟨h.bound, hkp.next, hkp.dead, hkp.keep, rfl, rfl, rfl, by rw [size_alloc']; omega, fun b hb hn => ?_, fun i p hp hpo => ?_⟩⟩
  · by_cases hi : i = H.next
    · simp [hi]
    · have := h.bound i p (old i p hp hi); simp; omega
  · by_cases hi : i = H.next
    · subst hi; rw [Heap.new_get, if_pos rfl] at hp; cases hp; exact hob
    · have hp0 := old i p hp hi
      exact (h.obs i p hp0).mono hkp (mput_ne _ hi) (heap_alloc_old _ _ _ (hin i p hp0))
  · by_cases hi : i = H.next
    · by_cases hj : j = H.next
      · omega
      · subst hi
        rw [mput_same, mput_ne _ hj]
        have := hin j q (old j q hq hj)
        simp only; omega
    · have hp0 := old i p hp hi
      by_cases hj : j = H.next
      · subst hj
        rw [mput_same, mput_ne _ hi]
        have := hin i p hp0
        simp only; omega
      · rw [mput_ne _ hi, mput_ne _ hj]
        exact h.apart i j p q hp0 (old j q hq hj) hpo hij
  · exact heap_alloc_old _ _ _ hb
  · by_cases hi : i = H.next
    · subst hi; rw [mput_same]; exact .inr (Nat.le_refl _)
    · exact .inl ⟨i, p, old i p hp hi, hpo, by rw [mput_ne _ hi]⟩

/-- An owned object is gone. -/
theorem Keeps.kill (id : Nat) : Keeps m H m (H.kill id) := by
  refine ⟨Nat.le_refl _, fun i _ hn => ?_, fun i p p' hp hp' => ⟨rfl, ?_⟩⟩
  · rw [Heap.kill_get]; split <;> simp_all
  · rw [Heap.kill_get] at hp'; split at hp'
    · cases hp'
    · rw [hp] at hp'; cases hp'; rfl

theorem Rel.kill (h : Rel m H w) (id : Nat) : Rel m (H.kill id) w ∧ Ev m H w m (H.kill id) w := by
  have hkp : Keeps m H m (H.kill id) := Keeps.kill id
  have old : ∀ i p, (H.kill id).get i = some p → H.get i = some p := fun i p hp => by
    rw [Heap.kill_get] at hp; split at hp
    · cases hp
    · exact hp
  refine ⟨⟨h.glob.mono hkp rfl, fun i p hp => h.bound i p (old i p hp), fun i p hp => (h.obs i p (old i p hp)).mono hkp rfl rfl, fun i j p q hp hq => h.apart i j p q (old i p hp) (old j q hq)⟩,
    ⟨h.bound, hkp.next, hkp.dead, hkp.keep, rfl, rfl, rfl, Nat.le_refl _, fun _ _ _ => rfl, fun i p hp hpo => .inl ⟨i, p, old i p hp, hpo, rfl⟩⟩⟩

/-- A number for a block that an owned object has, which goes. -/
theorem Rel.rename (h : Rel m H w) {id : Nat} {o o' : Ob} (ho : H.get id = some o) (hw : o.owned = true) (base sz : Nat)
    (hos : w'.os = w.os) (htp : w'.tape = w.tape) (hop : w'.output = w.output) (hsz : w'.heap.size = w.heap.size)
    (hbl : ∀ b, b ≠ (m id).b → w'.heap[b]? = w.heap[b]?)
    (hob : ObRel (mput m H.next ⟨(m id).b, base, sz⟩) ((H.kill id).new o') w' H.next o') :
    Rel (mput m H.next ⟨(m id).b, base, sz⟩) ((H.kill id).new o') w' ∧ Ev m H w (mput m H.next ⟨(m id).b, base, sz⟩) ((H.kill id).new o') w' := by
  have hid := h.bound id o ho
  have hk1 := (h.kill id).1.bound
  have hkp : Keeps m (H.kill id) (mput m H.next ⟨(m id).b, base, sz⟩) ((H.kill id).new o') := Keeps.new (H := H.kill id) hk1 o' _
  have old : ∀ i p, ((H.kill id).new o').get i = some p → i ≠ H.next → H.get i = some p ∧ i ≠ id := fun i p hp hi => by
    rw [Heap.new_get, Heap.kill_next, if_neg hi, Heap.kill_get] at hp; split at hp
    · cases hp
    · exact ⟨hp, by assumption⟩
  have hkp2 : Keeps m H (mput m H.next ⟨(m id).b, base, sz⟩) ((H.kill id).new o') := by
    refine ⟨hkp.next, fun i hi hn => hkp.dead i hi ?_, fun i p p' hp hp' => ?_⟩
    · rw [Heap.kill_get]; split <;> simp_all
    · have hi : i ≠ H.next := by have := h.bound i p hp; omega
      obtain ⟨h1, _⟩ := old i p' hp' hi
      rw [hp] at h1; cases h1
      exact ⟨mput_ne _ hi, rfl⟩
  refine ⟨⟨h.glob.mono hkp2 rfl, fun i p hp => ?_, fun i p hp => ?_, fun i j p q hp hq hpo hij => ?_⟩, ⟨h.bound, hkp2.next, hkp2.dead, hkp2.keep, hos, htp, hop, by omega, fun b hb hn => ?_, fun i p hp hpo => ?_⟩⟩
  · by_cases hi : i = H.next
    · simp [hi]
    · have := h.bound i p (old i p hp hi).1; simp; omega
  · by_cases hi : i = H.next
    · subst hi; rw [Heap.new_get, Heap.kill_next, if_pos rfl] at hp; cases hp; exact hob
    · obtain ⟨hp0, hne⟩ := old i p hp hi
      exact (h.obs i p hp0).mono hkp2 (mput_ne _ hi) (hbl _ fun e => h.apart id i o p ho hp0 hw (Ne.symm hne) e.symm)
  · by_cases hi : i = H.next
    · by_cases hj : j = H.next
      · omega
      · subst hi
        obtain ⟨hq0, hne⟩ := old j q hq hj
        rw [mput_same, mput_ne _ hj]
        exact h.apart id j o q ho hq0 hw (Ne.symm hne)
    · obtain ⟨hp0, hne⟩ := old i p hp hi
      by_cases hj : j = H.next
      · subst hj
        rw [mput_same, mput_ne _ hi]
        exact h.apart i id p o hp0 ho hpo hne
      · rw [mput_ne _ hi, mput_ne _ hj]
        exact h.apart i j p q hp0 (old j q hq hj).1 hpo hij
  · exact hbl b fun e => hn id o ho hw e.symm
  · by_cases hi : i = H.next
    · subst hi; rw [mput_same]; exact .inl ⟨id, o, ho, hw, rfl⟩
    · exact .inl ⟨i, p, (old i p hp hi).1, hpo, by rw [mput_ne _ hi]⟩

/-! ### Reading and writing cells -/
theorem Rel.read (h : Rel m H w) {id : Nat} {ro : Bool} {esz : Nat} {cells : List V} (ho : H.get id = some (.row ro esz cells)) {j : Nat} {v : V} (hj : cells[j]? = some v) :
    ∃ x, w.cell? ⟨(m id).b, (m id).base + j, none⟩ = some x ∧ VRel m H v x := by
  obtain ⟨c, t, fz, hc, hs, hv, hf⟩ := h.obs id _ ho
  obtain ⟨x, hx, hr⟩ := hv j v hj
  exact ⟨x, by rw [cell_of_row w _ _ c t fz hc]; exact hx, hr⟩

theorem add_none (b o n : Nat) : (⟨b, o, none⟩ : Addr).add n = ⟨b, o + n, none⟩ := by unfold Addr.add; split <;> simp_all

/-- Cells one behind the other. -/
theorem Rel.readL (h : Rel m H w) {id : Nat} {ro : Bool} {esz : Nat} {cells : List V} (ho : H.get id = some (.row ro esz cells)) (off n : Nat) (hn : off + n ≤ cells.length) :
    ∃ xs : List Value, xs.length = n ∧ VRelL m H ((cells.drop off).take n) xs ∧ ∀ (P : Program) (w' : World), w'.heap = w.heap → (loadCells ⟨(m id).b, (m id).base + off, none⟩ n).run P w' = .ok xs.toArray w' := by
  obtain ⟨c, t, fz, hc, hs, hv, hf⟩ := h.obs id _ ho
  have hall : ∀ j, j < n → ∃ x, c[(m id).base + off + j]? = some x ∧ VRel m H (cells[off + j]?.getD default) x := fun j hj => by
    have hl : off + j < cells.length := by omega
    obtain ⟨x, hx, hr⟩ := hv (off + j) cells[off + j] (by simp [hl])
    exact ⟨x, by rw [Nat.add_assoc]; exact hx, by simpa [hl] using hr⟩
  let xs := (List.range n).map fun j => c[(m id).base + off + j]?.getD default
  have hxl : xs.length = n := by simp [xs]
  have hget : ∀ j, j < n → xs[j]? = c[(m id).base + off + j]? := fun j hj => by
    obtain ⟨x, hx, _⟩ := hall j hj
    simp [xs, List.getElem?_map, List.getElem?_range hj, hx]
  refine ⟨xs, hxl, .of_get (by simp [hxl]; omega) fun i v hi => ?_, fun P w' hw' => ?_⟩
  · rw [List.getElem?_take] at hi
    split at hi
    · rename_i hin
      rw [List.getElem?_drop] at hi
      obtain ⟨x, hx, hr⟩ := hall i hin
      exact ⟨x, by rw [hget i hin, hx], by simpa [hi] using hr⟩
    · cases hi
  · refine run_loadCells_list (P := P) (w := w') ⟨(m id).b, (m id).base + off, none⟩ xs (fun j v hj => ?_) |> fun e => by rw [hxl] at e; exact e
    have hjn : j < n := by rw [← hxl]; exact (List.getElem?_eq_some_iff.1 hj).1
    rw [add_none, cell_of_row w' _ _ c t fz (by rw [hw']; exact hc), ← hget j hjn, hj]
end
end Go.Proofs.YtkmaikggdbielaaGreatDoor.Fw
