/- The framework, part L: the operations on abstract values do what the model's do, seventh part: append, copy, clear. No condition. -/
import Derived.Test.YtkmaikggdbielaaGreatDoorK
namespace Go.Proofs.YtkmaikggdbielaaGreatDoor.Fw
open Go
set_option linter.unusedSimpArgs false
set_option linter.unusedVariables false
section
variable {P : Program} {m : Nat → Pl} {H H' : Heap} {w : World}

theorem readN_run (hr : Rel m H w) {n : Nat} {v : V} {cells : List V} (h : readN H n v = some cells) {x : Value} (hv : VRel m H v x) (hpos : ∀ id off len cap, v = .slice id off len cap → ∀ a c, x = .slice (some a) len c → n = 0 ∨ 0 < c) :
    ∃ xs : List Value, VRelL m H cells xs ∧ xs.length = n ∧ ((∃ a l c, x = .slice (some a) l c ∧ ∀ (P : Program) (w' : World), w'.heap = w.heap → (loadCells a n).run P w' = .ok xs.toArray w') ∨ (x = .slice none 0 0 ∧ n = 0)) := by
  unfold readN at h
  split at h
  · split at h
    · cases h; rename_i hn; exact ⟨[], .mk_nil, by simp [hn], .inr ⟨hv.nils_inv, hn⟩⟩
    · cases h
  · rename_i id off len cap
    by_cases hn0 : n = 0
    · rw [if_pos hn0] at h
      cases h
      obtain ⟨a, c, rfl, ha⟩ := hv.slice_inv
      exact ⟨[], .mk_nil, by simp [hn0], .inl ⟨a, len, c, rfl, fun P w' hw' => by subst hn0; simp [loadCells, loadCellsFrom]⟩⟩
    rw [if_neg hn0] at h
    split at h
    · rename_i ro esz cs hg
      split at h
      · rename_i hl
        cases h
        obtain ⟨a, c, rfl, ha⟩ := hv.slice_inv
        obtain ⟨xs, h1, h2, h3⟩ := hr.readL hg off n hl
        refine ⟨xs, h2, h1, .inl ⟨a, len, c, rfl, fun P w' hw' => ?_⟩⟩
        rcases hpos _ _ _ _ rfl a c rfl with h0 | hc
        · subst h0
          have : xs = [] := List.eq_nil_of_length_eq_zero h1
          subst this
          simp [loadCells, loadCellsFrom]
        · rw [(ha.2.2.2 hc _ hg).1]; exact h3 P w' hw'
      · cases h
    · cases h
  · cases h

theorem bytesV_rel (s : ByteArray) : VRelL m H (bytesV s) (s.data.toList.map fun b => Value.int .u8 b.toNat) := by
  unfold bytesV
  induction s.data.toList with
  | nil => exact .mk_nil
  | cons b l ih => exact .mk_cons (.mk_int _ _) ih

theorem srcCells_run (hr : Rel m H w) {n k sz : Nat} {v : V} {cells : List V} (hl : lenV v = some n) (hk : k ≤ n) (h : srcCells H k sz v = some cells) {x : Value} (hv : VRel m H v x) :
    ∃ xs : List Value, VRelL m H cells xs ∧ (Builtin.lenOf x).run P w = .ok n w ∧ ∀ (w' : World), w'.heap = w.heap → (Builtin.firstCells sz k x).run P w' = .ok xs.toArray w' := by
  unfold srcCells at h
  split at h
  · rename_i s
    split at h
    · cases h
      simp only [lenV, Option.some.injEq] at hl
      rw [hv.str_inv]
      refine ⟨_, (bytesV_rel s).take k, by simp [Builtin.lenOf, hl], fun w' _ => ?_⟩
      simp only [Builtin.firstCells]
      rw [Sem.run_pure]
      congr 1
      apply Array.ext'
      simp [List.map_take]
    · cases h
  · have hlen : (Builtin.lenOf x).run P w = .ok n w := by
      rcases lenV_inv hl hv with ⟨s, rfl, rfl, rfl⟩ | ⟨a, c, rfl, _⟩
      · simp [Builtin.lenOf]
      · simp [Builtin.lenOf]
    have hpos : ∀ id off len cap, v = .slice id off len cap → ∀ a c, x = .slice (some a) len c → k * sz = 0 ∨ 0 < c := by
      rintro id off len cap rfl a c rfl
      simp only [lenV, Option.some.injEq] at hl
      obtain ⟨a', c', he, ha⟩ := hv.slice_inv
      cases he
      rcases Nat.eq_zero_or_pos c with h0 | h0
      · left
        have : k = 0 := by have := ha.2.1; omega
        simp [this]
      · exact .inr h0
    obtain ⟨xs, h1, h2, h3⟩ := readN_run hr h hv hpos
    refine ⟨xs, h1, hlen, fun w' hw' => ?_⟩
    rcases h3 with ⟨a, l, c, rfl, h3⟩ | ⟨rfl, h0⟩
    · simp only [Builtin.firstCells]; exact h3 P w' hw'
    · have : xs = [] := List.eq_nil_of_length_eq_zero (by omega)
      subst this
      simp [Builtin.firstCells]

theorem run_zeroCells_size (z : Array Value) (n : Nat) : (Builtin.zeroCells z n).size = n * z.size := by simp [Builtin.zeroCells]

/-- append, where a new row is made. -/
theorem append_grow (hr : Rel m H w) {ty t u e : TypeId} {i : TypeInfo} {z : Value} (ht : P.underlying t = some (.slice e)) (hi : P.info? e = some i) (hz : i.zero = some z) (hzs : z.cells.size = i.size)
    (hu : P.underlying u = some .string ∨ ∃ q, P.underlying u = some (.slice q))
    {base : Option Addr} {sLen sCap n : Nat} {x : Value} {olds news : List V} {oldx newx : List Value}
    (hlen : (Builtin.lenOf x).run P w = .ok n w)
    (hold : (Builtin.firstCells i.size sLen (.slice base sLen sCap)).run P w.drew = .ok oldx.toArray w.drew) (hnew : (Builtin.firstCells i.size n x).run P w.drew = .ok newx.toArray w.drew)
    (ho : VRelL m H olds oldx) (hn : VRelL m H news newx) (hol : oldx.length = sLen * i.size) (hnl : newx.length = n * i.size)
    (hg : sCap < sLen + n) (h63 : sLen + n ≤ 9223372036854775807) (hb : (sLen + n) * i.bytes ≤ 140737488355328) :
    ∃ m' w' c, (Builtin.append_ #[t, u] ty #[.slice base sLen sCap, x]).run P w = .ok (.slice (some ⟨w.heap.size, 0, none⟩) (sLen + n) c) w' ∧
      VRel m' (H.new (.row false i.size (olds ++ news))) (.slice H.next 0 (sLen + n) none) (.slice (some ⟨w.heap.size, 0, none⟩) (sLen + n) c) ∧
      Rel m' (H.new (.row false i.size (olds ++ news))) w' ∧ Ev m H w m' (H.new (.row false i.size (olds ++ news))) w' := by
  have hfit := growslice_fits hg hb
  let c := (Question.appendCap (sLen + n) sCap e).cut (w.tape w.drawn (.appendCap (sLen + n) sCap e))
  have hc : sLen + n ≤ c := by simp only [c, Question.cut]; omega
  let rest := Builtin.zeroCells z.cells (c - (sLen + n))
  obtain ⟨hr1, hev1⟩ := hr.same (w' := w.drew) rfl rfl rfl rfl
  obtain ⟨h1, h2⟩ := hr1.newRow i.size (olds ++ news) (oldx ++ newx) rest.toList e (ho.append hn)
  refine ⟨_, _, c, ?_, ?_, h1, hev1.trans h2⟩
  · have h63' : ¬ (((sLen + n : Nat) : Int) > IntKind.i64.max) := by
      have : IntKind.i64.max = 9223372036854775807 := by decide
      rw [this]; omega
    have hf : ¬ (Builtin.nextslicecap (sLen + n) sCap * i.bytes > 2 ^ 48) := by omega
    have hti : ∀ w' : World, (typeInfo e).run P w' = .ok i w' := fun w' => by unfold typeInfo; simp [hi]
    have hsz : (sizeOf e).run P w = .ok i.size w := by unfold sizeOf; simp [hti]
    have hzv : (zeroValue e).run P w.drew = .ok z w.drew := run_zeroValue hi hz
    have hne : ¬ (sLen + n ≤ sCap) := by omega
    have hfin : (Result.ok (Value.slice (some ⟨w.drew.heap.size, 0, none⟩) (sLen + n) c) (w.drew.alloc (.cells (oldx.toArray ++ newx.toArray ++ Builtin.zeroCells z.cells (c - (sLen + n))) e)) : Result Value) =
        .ok (.slice (some ⟨w.heap.size, 0, none⟩) (sLen + n) c) (w.drew.alloc (.cells (oldx ++ newx ++ rest.toList).toArray e)) := by
      congr 3
      apply Array.ext'
      simp [rest]
    rcases hu with hd | ⟨q, hd⟩
    · unfold Builtin.append_
      simp only [List.getElem?_toArray, List.getElem?_cons_zero, List.getElem?_cons_succ, Sem.run_bind, run_under ht, Result.andThen_ok, hsz, run_under hd, Sem.run_pure, Bool.false_eq_true, if_false, hlen, hne]
      simp only [Sem.run_bind, hti, Result.andThen_ok, h63', false_and, hf, if_false, Sem.run_pure, run_choose, Question.forced, Bool.false_eq_true]
      simp only [World.drew_eq, run_askRoom, hold, hnew, Bool.not_false, if_true, hzv, newRow, Sem.run_bind, run_newObj, Result.andThen_ok, Sem.run_pure, World.alloc_eq]
      exact hfin
    · unfold Builtin.append_
      simp only [List.getElem?_toArray, List.getElem?_cons_zero, List.getElem?_cons_succ, Sem.run_bind, run_under ht, Result.andThen_ok, hsz, run_under hd, Sem.run_pure, Bool.false_eq_true, if_false, hlen, hne]
      simp only [Sem.run_bind, hti, Result.andThen_ok, h63', false_and, hf, if_false, Sem.run_pure, run_choose, Question.forced, Bool.false_eq_true]
      simp only [World.drew_eq, run_askRoom, hold, hnew, Bool.not_false, if_true, hzv, newRow, Sem.run_bind, run_newObj, Result.andThen_ok, Sem.run_pure, World.alloc_eq]
      exact hfin
  · simp only [VRel]
    refine ⟨_, _, rfl, by simp, hc, fun k hk => (by cases hk), fun hpos ob hob => ?_⟩
    rw [mput_same]
    refine ⟨rfl, fun esz cells he _ => ?_⟩
    rw [Heap.new_get, if_pos rfl] at hob
    cases hob
    cases he
    have hrl : rest.toList.length = (c - (sLen + n)) * i.size := by simp [rest, run_zeroCells_size, hzs]
    simp only [List.length_append, hol, hnl, hrl, Nat.zero_add]
    rw [← Nat.add_mul, ← Nat.add_mul]
    have : sLen + n + (c - (sLen + n)) = c := by omega
    rw [this]
    exact Nat.le_refl _

theorem lenV_le {v : V} {n : Nat} (h : lenV v = some n) {id off len : Nat} {cap : Option Nat} (e : v = .slice id off len cap) : n = len := by subst e; simpa [lenV] using h.symm

/-- append, where there is room: the cells are written behind. -/
theorem append_room {ty t u e : TypeId} {i : TypeInfo} (ht : P.underlying t = some (.slice e)) (hi : P.info? e = some i)
    (hu : P.underlying u = some .string ∨ ∃ q, P.underlying u = some (.slice q))
    {base : Option Addr} {sLen sCap n : Nat} {x : Value} {newx : List Value} {w' : World}
    (hlen : (Builtin.lenOf x).run P w = .ok n w) (hnew : (Builtin.firstCells i.size n x).run P w = .ok newx.toArray w) (hroom : sLen + n ≤ sCap)
    (hst : (match base with | some a => storeCells (a.add (sLen * i.size)) newx | none => pure ()).run P w = .ok () w') :
    (Builtin.append_ #[t, u] ty #[.slice base sLen sCap, x]).run P w = .ok (.slice base (sLen + n) sCap) w' := by
  have hti : ∀ w' : World, (typeInfo e).run P w' = .ok i w' := fun w' => by unfold typeInfo; simp [hi]
  have hsz : (sizeOf e).run P w = .ok i.size w := by unfold sizeOf; simp [hti]
  rcases hu with hd | ⟨q, hd⟩
  · unfold Builtin.append_
    simp only [List.getElem?_toArray, List.getElem?_cons_zero, List.getElem?_cons_succ, Sem.run_bind, run_under ht, Result.andThen_ok, hsz, run_under hd, Sem.run_pure, Bool.false_eq_true, if_false, hlen, hroom, if_true, Bool.not_false, hnew]
    cases base with
    | none => simp at hst ⊢; exact hst
    | some a => simp only [Sem.run_bind] at hst ⊢; rw [hst]; simp
  · unfold Builtin.append_
    simp only [List.getElem?_toArray, List.getElem?_cons_zero, List.getElem?_cons_succ, Sem.run_bind, run_under ht, Result.andThen_ok, hsz, run_under hd, Sem.run_pure, Bool.false_eq_true, if_false, hlen, hroom, if_true, Bool.not_false, hnew]
    cases base with
    | none => simp at hst ⊢; exact hst
    | some a => simp only [Sem.run_bind] at hst ⊢; rw [hst]; simp

theorem all_one {vs : List V} (h : vs.all V.one = true) {xs : List Value} (hv : VRelL m H vs xs) : ∀ x ∈ xs, (∀ cs, x ≠ .agg cs) ∧ (∀ cs, x ≠ .tuple cs) := by
  intro x hx
  obtain ⟨j, hj⟩ := List.getElem?_of_mem hx
  have hjl : j < vs.length := by have := (List.getElem?_eq_some_iff.1 hj).1; have := hv.length; omega
  obtain ⟨y, hy, hvy⟩ := hv.get (i := j) (v := vs[j]) (by simp)
  rw [hj] at hy; cases hy
  exact hvy.one (List.all_eq_true.1 h _ (by simp))

theorem append_own (hr : Rel m H w) {ty t u e : TypeId} {i : TypeInfo} {z : Value} (ht : P.underlying t = some (.slice e)) (hi : P.info? e = some i) (hz : i.zero = some z) (hzs : z.cells.size = i.size)
    (hu : P.underlying u = some .string ∨ ∃ q, P.underlying u = some (.slice q)) {s x : V} {sv xv : Value} (hs : VRel m H s sv) (hx : VRel m H x xv)
    {r : V} (he : appendA H i.size i.bytes s x = some (r, H')) :
    ∃ m' w' y, (Builtin.append_ #[t, u] ty #[sv, xv]).run P w = .ok y w' ∧ VRel m' H' r y ∧ Rel m' H' w' ∧ Ev m H w m' H' w' := by
  unfold appendA at he
  split at he
  · cases he
  · rename_i n hn
    split at he
    · cases he
    · rename_i news hnews
      obtain ⟨newx, hnv, hlen, hread⟩ := srcCells_run (P := P) hr hn (Nat.le_refl _) hnews hx
      split at he
      · cases he
      · rename_i hcond
        have hcond' : news.length = n * i.size ∧ news.all V.one = true ∧ i.size ≠ 0 := by
          refine ⟨?_, ?_, ?_⟩
          · exact Classical.byContradiction fun h => hcond (.inl h)
          · exact Classical.byContradiction fun h => hcond (.inr (.inl h))
          · exact fun h => hcond (.inr (.inr h))
        obtain ⟨hnl, hone, hsz0⟩ := hcond'
        have hnl' : newx.length = n * i.size := by rw [hnv.length, hnl]
        split at he
        · -- nil
          rw [hs.nils_inv]
          split at he
          · rename_i h0
            cases he
            subst h0
            have hnil : newx = [] := List.eq_nil_of_length_eq_zero (by simpa using hnl')
            refine ⟨m, w, .slice none 0 0, ?_, by simp only [VRel], hr, Ev.refl hr⟩
            exact append_room ht hi hu hlen (hread w rfl) (by omega) (by simp)
          · rename_i h0
            split at he
            · rename_i hb
              cases he
              obtain ⟨m', w', c, h1, h2, h3, h4⟩ := append_grow (H := H) (olds := []) (oldx := []) (news := news) (newx := newx) (ty := ty) (base := none) (sLen := 0) (sCap := 0) (n := n) hr ht hi hz hzs hu hlen (by simp [Builtin.firstCells]) (hread w.drew rfl) .mk_nil hnv (by simp) hnl' (by omega) (by omega) (by simpa using hb.1)
              simp only [List.nil_append, Nat.zero_add] at h1 h2 h3 h4
              exact ⟨m', w', _, h1, h2, h3, h4⟩
            · cases he
        · rename_i id off len cap
          obtain ⟨a, c, rfl, ha⟩ := hs.slice_inv
          obtain ⟨ha1, ha2, ha3, ha4⟩ := ha
          split at he
          · -- nothing is appended
            rename_i h0
            cases he
            subst h0
            have hnil : newx = [] := List.eq_nil_of_length_eq_zero (by simpa using hnl')
            subst hnil
            refine ⟨m, w, .slice (some a) len c, ?_, hs, hr, Ev.refl hr⟩
            have := append_room (P := P) (w := w) (w' := w) (ty := ty) (base := some a) (sLen := len) (sCap := c) ht hi hu hlen (hread w rfl) (by omega) (by simp [storeCells])
            simpa using this
          · rename_i h0
            split at he
            · cases he
            · rename_i hbnd
              have hbnd' : (len + n) * i.bytes ≤ 140737488355328 ∧ len + n ≤ 9223372036854775807 := Classical.byContradiction fun h => hbnd h
              split at he
              · rename_i k
                have hck := ha3 k rfl
                subst hck
                split at he
                · rename_i hroom
                  cases hw : writeAt H id (off + len * i.size) news with
                  | none => rw [hw] at he; cases he
                  | some H1 =>
                    rw [hw] at he; simp at he; obtain ⟨rfl, rfl⟩ := he
                    have hne : ∃ ob, H.get id = some ob := by
                      unfold writeAt at hw
                      cases hh : H.get id with
                      | none => rw [hh] at hw; cases hw
                      | some ob => exact ⟨ob, rfl⟩
                    obtain ⟨ob, hob⟩ := hne
                    have hae := (ha4 (by omega) ob hob).1
                    obtain ⟨w', hrun, hrel, hev⟩ := hr.write hnv hw
                    refine ⟨m, w', .slice (some a) (len + n) c, ?_, ?_, hrel, hev⟩
                    · refine append_room ht hi hu hlen (hread w rfl) hroom ?_
                      simp only [hae, add_none]
                      rw [show (m id).base + off + len * i.size = (m id).base + (off + len * i.size) by omega]
                      exact hrun P
                    · have hs' : VRel m H1 (.slice id off len (some c)) (.slice (some a) len c) := hs.mono hev.keeps _ _
                      obtain ⟨a', c', he', q1, q2, q3, q4⟩ := hs'.slice_inv
                      cases he'
                      simp only [VRel]
                      exact ⟨a, c, rfl, q1, hroom, fun k hk => (by cases hk; rfl), fun hp o ho => ⟨(q4 hp o ho).1, fun _ _ _ hcc => (by cases hcc)⟩⟩
                · rename_i hroom
                  cases holds : readN H (len * i.size) (.slice id off len (some c)) with
                  | none => rw [holds] at he; cases he
                  | some olds =>
                    rw [holds] at he
                    simp only [Option.bind_some] at he
                    split at he
                    · cases he
                      obtain ⟨oldx, g1, g2, g3⟩ := readN_run hr holds hs (fun id' off' len' cap' hee a' c' hxx => by
                        cases hxx
                        rcases Nat.eq_zero_or_pos c with h | h
                        · left; have : len = 0 := by omega
                          simp [this]
                        · exact .inr h)
                      have hold : (Builtin.firstCells i.size len (.slice (some a) len c)).run P w.drew = .ok oldx.toArray w.drew := by
                        rcases g3 with ⟨a', l', c', hee, g3⟩ | ⟨hee, _⟩
                        · cases hee; simp only [Builtin.firstCells]; exact g3 P w.drew rfl
                        · cases hee
                      obtain ⟨m', w', c', h1, h2, h3, h4⟩ := append_grow (H := H) (ty := ty) hr ht hi hz hzs hu hlen hold (hread w.drew rfl) g1 hnv g2 hnl' (by omega) hbnd'.2 hbnd'.1
                      exact ⟨m', w', _, h1, h2, h3, h4⟩
                    · cases he
              · -- the capacity is not known
                split at he
                · rename_i esz cells hg
                  split at he
                  · rename_i hc
                    obtain ⟨hc1, hc2, hc3⟩ := hc
                    cases he
                    subst hc1
                    by_cases hroom : len + n ≤ c
                    · -- in place
                      obtain ⟨hae, hcap⟩ := ha4 (by omega) _ hg
                      have hcap := hcap _ _ rfl rfl
                      obtain ⟨cc, tt, fz, hb, hsize, hcell, hf⟩ := hr.obs id _ hg
                      have hmul : len * i.size + n * i.size ≤ c * i.size := by rw [← Nat.add_mul]; exact Nat.mul_le_mul_right _ hroom
                      have hcl : (m id).base + off + len * i.size + newx.length ≤ cc.size := by rw [← hsize, hnl']; omega
                      have hrun := run_storeCells_row (P := P) newx w (m id).b ((m id).base + off + len * i.size) 0 cc tt fz hb (by omega) (hf rfl) (all_one hone hnv)
                      simp only [Nat.add_zero] at hrun
                      have hlt := (Array.getElem?_eq_some_iff.1 hb).1
                      have hkp : Keeps m H m H := Keeps.refl
                      have hkp2 : Keeps m H (mput m H.next ⟨(m id).b, (m id).base + off, cc.size⟩) ((H.kill id).new (.row false i.size ((cells.drop off).take (len * i.size) ++ news))) := by
                        have k1 := Keeps.kill (m := m) (H := H) id
                        have k2 := Keeps.new (m := m) (H := H.kill id) (hr.kill id).1.bound (.row false i.size ((cells.drop off).take (len * i.size) ++ news)) ⟨(m id).b, (m id).base + off, cc.size⟩
                        refine ⟨Nat.le_trans k1.next k2.next, fun j hj hn => k2.dead j hj (k1.dead j hj hn), fun j o o' ho ho' => ?_⟩
                        cases hkk : (H.kill id).get j with
                        | none =>
                          have := k2.dead j (hr.bound j o ho) hkk
                          rw [this] at ho'; cases ho'
                        | some o1 =>
                          have q1 := k1.keep j o o1 ho hkk
                          have q2 := k2.keep j o1 o' hkk ho'
                          exact ⟨q2.1.trans q1.1, q2.2.trans q1.2⟩
                      obtain ⟨hrel, hev⟩ := hr.rename (o' := .row false i.size ((cells.drop off).take (len * i.size) ++ news)) (w' := World.putCells w (m id).b (putRow cc ((m id).base + off + len * i.size) newx) tt fz)
                        hg rfl ((m id).base + off) cc.size rfl rfl rfl (by simp [World.putCells]) (fun b hne => by simp [World.putCells, Array.getElem?_setIfInBounds, Ne.symm hne]) (by
                          refine ⟨putRow cc ((m id).base + off + len * i.size) newx, tt, fz, ?_, ?_, fun j v hj => ?_, fun _ => by rw [putRow_size]; exact hf rfl⟩
                          · rw [mput_same]; simp [World.putCells, hlt]
                          · rw [mput_same, putRow_size]
                          · rw [mput_same, putRow_get _ _ _ _ (by omega)]
                            have htl : ((cells.drop off).take (len * i.size)).length = len * i.size := by simp; omega
                            by_cases hjl : j < len * i.size
                            · rw [List.getElem?_append_left (by omega), List.getElem?_take, if_pos hjl, List.getElem?_drop] at hj
                              obtain ⟨y, hy, hvy⟩ := hcell _ v hj
                              rw [if_neg (by simp only; omega)]
                              exact ⟨y, by simp only; rw [Nat.add_assoc]; exact hy, hvy.mono hkp2 _ _⟩
                            · rw [List.getElem?_append_right (by omega), htl] at hj
                              obtain ⟨y, hy, hvy⟩ := hnv.get hj
                              have hyl := (List.getElem?_eq_some_iff.1 hy).1
                              rw [if_pos ⟨by simp only; omega, by simp only; omega⟩]
                              refine ⟨y, ?_, hvy.mono hkp2 _ _⟩
                              simp only
                              rw [show (m id).base + off + j - ((m id).base + off + len * i.size) = j - len * i.size by omega]; exact hy)
                      refine ⟨_, _, .slice (some a) (len + n) c, ?_, ?_, hrel, hev⟩
                      · refine append_room ht hi hu hlen (hread w rfl) hroom ?_
                        simp only [hae, add_none]
                        exact hrun
                      · simp only [VRel]
                        refine ⟨a, c, rfl, by simp, hroom, fun k hk => (by cases hk), fun hp o ho => ?_⟩
                        rw [mput_same]
                        simp only
                        refine ⟨by rw [hae]; simp, fun esz' cells' hee _ => ?_⟩
                        rw [Heap.new_get, Heap.kill_next, if_pos rfl] at ho
                        cases ho
                        cases hee
                        rw [← hsize]; omega
                    · -- a new row
                      have holds : readN H (len * i.size) (.slice id off len none) = some ((cells.drop off).take (len * i.size)) := by
                        simp only [readN, hg]
                        by_cases h00 : len * i.size = 0
                        · rw [if_pos h00, h00]; simp
                        · rw [if_neg h00, if_pos hc2]
                      obtain ⟨oldx, g1, g2, g3⟩ := readN_run hr holds hs (fun id' off' len' cap' hee a' c' hxx => by
                        cases hxx
                        rcases Nat.eq_zero_or_pos c with h | h
                        · left; have : len = 0 := by omega
                          simp [this]
                        · exact .inr h)
                      have hold : (Builtin.firstCells i.size len (.slice (some a) len c)).run P w.drew = .ok oldx.toArray w.drew := by
                        rcases g3 with ⟨a', l', c', hee, g3⟩ | ⟨hee, _⟩
                        · cases hee; simp only [Builtin.firstCells]; exact g3 P w.drew rfl
                        · cases hee
                      obtain ⟨hrk, hek⟩ := hr.kill id
                      have hkk := Keeps.kill (m := m) (H := H) id
                      obtain ⟨m', w', c', h1, h2, h3, h4⟩ := append_grow (H := H.kill id) (ty := ty) hrk ht hi hz hzs hu hlen hold (hread w.drew rfl) (g1.mono hkk _ _) (hnv.mono hkk _ _) g2 hnl' (by omega) hbnd'.2 hbnd'.1
                      exact ⟨m', w', _, h1, h2, h3, hek.trans h4⟩
                  · cases he
                · cases he
        · cases he

theorem good_app {s x : Operand} {args : Array Operand} {ats : Array TypeId} {t u e : TypeId} {i : TypeInfo} {z : Value} {o : Oper} (eo : o.op = .call { callee := .builtin .append, args := args, argTypes := ats }) (hx : args.toList = [s, x])
    (h0 : ats[0]? = some t) (h1 : ats[1]? = some u) (hat : ats.size = 2)
    (ht : P.underlying t = some (.slice e)) (hi : P.info? e = some i) (hz : i.zero = some z) (hzs : z.cells.size = i.size) (hu : P.underlying u = some .string ∨ ∃ q, P.underlying u = some (.slice q))
    {ρ : Operand → Value} {vs : List V} {r : V}
    (he : exec (.app i.size i.bytes) vs H = some (r, H')) (hv : VRelL m H vs ([s, x].map ρ)) (hr : Rel m H w) : Good P m H w (execOp ρ o) r H' := by
  obtain rfl : args = #[s, x] := by apply Array.ext'; simpa using hx
  obtain rfl : ats = #[t, u] := by
    apply Array.ext_getElem?
    intro j
    rcases j with _ | _ | j
    · simpa using h0
    · simpa using h1
    · rw [Array.getElem?_eq_none (by omega), Array.getElem?_eq_none (by simp)]
  obtain ⟨cs, hex⟩ := exec_builtin eo ρ
  rw [hex]
  simp only [exec] at he
  split at he
  · rename_i sv xv
    obtain ⟨y1, y2, hz', g1, g2⟩ := hv.two
    simp only [List.map_cons, List.map_nil, List.cons.injEq, and_true] at hz'
    obtain ⟨m', w', y, q1, q2, q3, q4⟩ := append_own (P := P) (ty := o.type) hr ht hi hz hzs hu g1 g2 he
    refine ⟨m', w', y, .inl ?_, q2, q3, q4⟩
    simp only [builtin, List.map_toArray, List.map_cons, List.map_nil, hz'.1, hz'.2, Sem.run_bind, q1, Result.andThen_ok, Sem.run_pure]
  · cases he

theorem zeroCells_succ (z : Array Value) (n : Nat) : (Builtin.zeroCells z (n + 1)).toList = z.toList ++ (Builtin.zeroCells z n).toList := by
  have e : (n + 1) * z.size = z.size + n * z.size := by rw [Nat.add_mul, Nat.one_mul, Nat.add_comm]
  simp only [Builtin.zeroCells, Array.toList_map, Array.toList_range, e, List.range_add, List.map_append, List.map_map]
  congr 1
  · apply List.ext_getElem
    · simp
    · intro i h1 h2
      simp at h1
      simp [Nat.mod_eq_of_lt h1, h1]
  · apply List.map_congr_left
    intro i _
    simp
theorem zeroCells_rel {zs : List V} {z : Array Value} (h : VRelL m H zs z.toList) : ∀ n, VRelL m H (List.replicate n zs).flatten (Builtin.zeroCells z n).toList
  | 0 => by simpa [Builtin.zeroCells] using VRelL.mk_nil
  | n + 1 => by
    rw [zeroCells_succ, List.replicate_succ, List.flatten_cons]
    exact h.append (zeroCells_rel h n)
/-- append of so many zeros to nothing. -/
theorem appendz_nil (hr : Rel m H w) {ty t u e : TypeId} {i : TypeInfo} {z : Value} {zs : List V} (ht : P.underlying t = some (.slice e)) (hi : P.info? e = some i) (hz : i.zero = some z) (hzs : z.cells.size = i.size)
    (hu : P.underlying u = some (.int .i64)) (hza : absL z.cells.toList = some zs) {n : Int} (hn : 0 < n) (hb : n * i.bytes ≤ 140737488355328) (h62 : n ≤ 4611686018427387904) (hsz0 : i.size ≠ 0) :
    ∃ m' w' c, (Builtin.append_ #[t, u] ty #[.slice none 0 0, .int .i64 n]).run P w = .ok (.slice (some ⟨w.heap.size, 0, none⟩) n.toNat c) w' ∧
      VRel m' (H.new (.row false i.size (List.replicate n.toNat zs).flatten)) (.slice H.next 0 n.toNat none) (.slice (some ⟨w.heap.size, 0, none⟩) n.toNat c) ∧
      Rel m' (H.new (.row false i.size (List.replicate n.toNat zs).flatten)) w' ∧ Ev m H w m' (H.new (.row false i.size (List.replicate n.toNat zs).flatten)) w' := by
  obtain ⟨k, rfl⟩ : ∃ k : Nat, n = k := ⟨n.toNat, by omega⟩
  simp only [Int.toNat_natCast]
  have hb' : (0 + k) * i.bytes ≤ 140737488355328 := by rw [Nat.zero_add]; have := hb; omega
  have hg : 0 < 0 + k := by omega
  have hfit := growslice_fits (old := 0) hg hb'
  let c := (Question.appendCap (0 + k) 0 e).cut (w.tape w.drawn (.appendCap (0 + k) 0 e))
  have hc : 0 + k ≤ c := by simp only [c, Question.cut]; omega
  let rest := Builtin.zeroCells z.cells (c - (0 + k))
  obtain ⟨hr1, hev1⟩ := hr.same (w' := w.drew) rfl rfl rfl rfl
  have hzr : VRelL m H zs z.cells.toList := absL_rel _ _ hza
  have hzv' := zeroCells_rel hzr k
  have hsize : (Builtin.zeroCells z.cells k).toList.length = k * i.size := by simp [run_zeroCells_size, hzs]
  obtain ⟨h1, h2⟩ := hr1.newRow i.size (List.replicate k zs).flatten (Builtin.zeroCells z.cells k).toList rest.toList e hzv'
  refine ⟨_, _, c, ?_, ?_, h1, hev1.trans h2⟩
  · have hwr : IntKind.i64.wrap (k : Int) = k := by
      simp only [IntKind.wrap, IntKind.bits, IntKind.signed, Bool.true_and]
      split
      · rename_i e; simp at e; omega
      · rename_i e; simp at e; omega
    have h63' : ¬ (((0 + k : Nat) : Int) > IntKind.i64.max) := by
      have : IntKind.i64.max = 9223372036854775807 := by decide
      rw [this]; omega
    have hf : ¬ (Builtin.nextslicecap (0 + k) 0 * i.bytes > 2 ^ 48) := by omega
    have hti : ∀ w' : World, (typeInfo e).run P w' = .ok i w' := fun w' => by unfold typeInfo; simp [hi]
    have hsz : (sizeOf e).run P w = .ok i.size w := by unfold sizeOf; simp [hti]
    have hzv : ∀ w', (zeroValue e).run P w' = .ok z w' := fun w' => run_zeroValue hi hz
    have hne : ¬ (0 + k ≤ 0) := by omega
    have hai : ∀ w' : World, (asIntOf (.int .i64 (k : Int))).run P w' = .ok (.i64, (k : Int)) w' := fun _ => rfl
    have hl0 : ¬ ((k : Int) < 0) := by omega
    have hl48 : ¬ ((k : Int) * (i.bytes : Int) > 2 ^ 48) := by
      have : (k : Int) * i.bytes ≤ 140737488355328 := hb
      omega
    have hks : ¬ (k * i.size = 0) := by
      intro h
      rcases Nat.mul_eq_zero.1 h with h | h
      · omega
      · exact hsz0 h
    have hfin : (Result.ok (Value.slice (some ⟨w.drew.heap.size, 0, none⟩) (0 + k) c) (w.drew.alloc (.cells (#[] ++ Builtin.zeroCells z.cells k ++ Builtin.zeroCells z.cells (c - (0 + k))) e)) : Result Value) =
        .ok (.slice (some ⟨w.heap.size, 0, none⟩) k c) (w.drew.alloc (.cells ((Builtin.zeroCells z.cells k).toList ++ rest.toList).toArray e)) := by
      rw [Nat.zero_add]
      congr 3
      apply Array.ext'
      simp [rest]
    unfold Builtin.append_
    simp only [List.getElem?_toArray, List.getElem?_cons_zero, List.getElem?_cons_succ, Sem.run_bind, run_under ht, Result.andThen_ok, hsz, run_under hu, Sem.run_pure, if_true, asInt, hai, hwr, hl0, hl48, if_false, hti, Int.toNat_natCast, hne]
    simp only [Sem.run_bind, hti, Result.andThen_ok, hwr, hl0, hl48, Int.toNat_natCast, hne, h63', false_and, hf, if_false, Sem.run_pure, run_choose, Question.forced, Bool.false_eq_true]
    simp only [World.drew_eq, run_askRoom, Builtin.firstCells, Bool.not_true, Bool.false_eq_true, if_false, hks, hzv, newRow, Sem.run_bind, run_newObj, Result.andThen_ok, Sem.run_pure, World.alloc_eq]
    exact hfin
  · simp only [VRel]
    refine ⟨_, _, rfl, by simp, by omega, fun k hk => (by cases hk), fun hpos ob hob => ?_⟩
    rw [mput_same]
    refine ⟨rfl, fun esz cells he _ => ?_⟩
    rw [Heap.new_get, if_pos rfl] at hob
    cases hob
    cases he
    have hrl : rest.toList.length = (c - (0 + k)) * i.size := by simp [rest, run_zeroCells_size, hzs]
    rw [hsize, hrl, ← Nat.add_mul, show k + (c - (0 + k)) = c by omega]
    show 0 + 0 + c * i.size ≤ c * i.size
    omega
theorem good_appz {s x : Operand} {args : Array Operand} {ats : Array TypeId} {t u e : TypeId} {i : TypeInfo} {z : Value} {zs : List V} {o : Oper} (eo : o.op = .call { callee := .builtin .append, args := args, argTypes := ats }) (hx : args.toList = [s, x])
    (h0 : ats[0]? = some t) (h1 : ats[1]? = some u) (hat : ats.size = 2)
    (ht : P.underlying t = some (.slice e)) (hi : P.info? e = some i) (hz : i.zero = some z) (hzs : z.cells.size = i.size) (hu : P.underlying u = some (.int .i64)) (hza : absL z.cells.toList = some zs)
    {ρ : Operand → Value} {vs : List V} {r : V}
    (he : exec (.appz i.size i.bytes zs) vs H = some (r, H')) (hv : VRelL m H vs ([s, x].map ρ)) (hr : Rel m H w) : Good P m H w (execOp ρ o) r H' := by
  obtain rfl : args = #[s, x] := by apply Array.ext'; simpa using hx
  obtain rfl : ats = #[t, u] := by
    apply Array.ext_getElem?
    intro j
    rcases j with _ | _ | j
    · simpa using h0
    · simpa using h1
    · rw [Array.getElem?_eq_none (by omega), Array.getElem?_eq_none (by simp)]
  obtain ⟨cs, hex⟩ := exec_builtin eo ρ
  rw [hex]
  simp only [exec] at he
  split at he
  · rename_i n
    obtain ⟨y1, y2, hz', g1, g2⟩ := hv.two
    simp only [List.map_cons, List.map_nil, List.cons.injEq, and_true] at hz'
    split at he
    · rename_i hc
      cases he
      obtain ⟨c1, c2, c3, c4, c5, c6⟩ := hc
      have e1 := g1.nils_inv
      have e2 := g2.int_inv
      obtain ⟨m', w', c, q1, q2, q3, q4⟩ := appendz_nil (P := P) (ty := o.type) hr ht hi hz hzs hu hza c1 c2 c3 c6
      refine ⟨m', w', _, .inl ?_, q2, q3, q4⟩
      simp only [builtin, List.map_toArray, List.map_cons, List.map_nil, hz'.1, hz'.2, e1, e2, Sem.run_bind, q1, Result.andThen_ok, Sem.run_pure]
    · cases he
  · cases he

theorem good_copy {d x : Operand} {args : Array Operand} {ats : Array TypeId} {t e : TypeId} {sz : Nat} {o : Oper} (eo : o.op = .call { callee := .builtin .copy, args := args, argTypes := ats }) (hx : args.toList = [d, x])
    (h0 : ats[0]? = some t) (ht : P.underlying t = some (.slice e)) (hs : sizeA P e = some sz) {ρ : Operand → Value} {vs : List V} {r : V}
    (he : exec (.copy sz) vs H = some (r, H')) (hv : VRelL m H vs ([d, x].map ρ)) (hr : Rel m H w) : Good P m H w (execOp ρ o) r H' := by
  obtain rfl : args = #[d, x] := by apply Array.ext'; simpa using hx
  obtain ⟨cs, hex⟩ := exec_builtin eo ρ
  rw [hex]
  simp only [exec] at he
  split at he
  · rename_i dv xv
    obtain ⟨y1, y2, hz', g1, g2⟩ := hv.two
    simp only [List.map_cons, List.map_nil, List.cons.injEq, and_true] at hz'
    split at he
    · rename_i sl hsl
      cases he
      have hlen : (Builtin.lenOf y2).run P w = .ok sl w := by
        rcases lenV_inv hsl g2 with ⟨s, rfl, rfl, _⟩ | ⟨a, c, rfl, _⟩ <;> simp [Builtin.lenOf]
      rw [g1.nils_inv] at hz'
      have hf : (Builtin.firstCells sz 0 y2).run P w = .ok #[] w := by
        rcases lenV_inv hsl g2 with ⟨s, rfl, rfl, _⟩ | ⟨a, c, rfl, _⟩
        · simp [Builtin.firstCells]
        · cases a <;> simp [Builtin.firstCells, loadCells, loadCellsFrom]
      refine Good.pure hr (x := .int .i64 0) ?_ (.mk_int _ _)
      simp [builtin, Builtin.copy_, h0, hz'.1, hz'.2, run_under ht, hlen, run_sizeOf hs, hf, goInt]
    · rename_i id off dl0 cap dl sl hsl hdl
      cases hsrc : srcCells H (min sl dl) sz xv with
      | none => rw [hsrc] at he; cases he
      | some news =>
        rw [hsrc] at he
        simp only at he
        split at he
        · rename_i hnl
          cases hw : writeAt H id off news with
          | none => rw [hw] at he; cases he
          | some H1 =>
            rw [hw] at he; simp at he; obtain ⟨rfl, rfl⟩ := he
            obtain ⟨newx, hnv, hlen, hread⟩ := srcCells_run (P := P) hr hsl (Nat.min_le_left _ _) hsrc g2
            obtain ⟨a, c, rfl, ha⟩ := g1.slice_inv
            have hdl' : dl = dl0 := by simpa [lenV] using hdl.symm
            subst hdl'
            obtain ⟨ob, hob⟩ : ∃ ob, H.get id = some ob := by
              unfold writeAt at hw
              cases hh : H.get id with
              | none => rw [hh] at hw; cases hw
              | some ob => exact ⟨ob, rfl⟩
            obtain ⟨w', hrun, hrel, hev⟩ := hr.write hnv hw
            refine ⟨m, w', .int .i64 (min sl dl : Nat), .inl ?_, .mk_int _ _, hrel, hev⟩
            have hst : (storeCells a newx).run P w = .ok () w' := by
              rcases Nat.eq_zero_or_pos c with hc | hc
              · have hd0 : dl = 0 := by have := ha.2.1; omega
                subst hd0
                have hnil : news = [] := List.eq_nil_of_length_eq_zero (by simpa using hnl)
                subst hnil
                have := hnv.nil
                subst this
                have := hrun P
                simp [storeCells] at this ⊢
                exact this
              · rw [(ha.2.2.2 hc ob hob).1]; exact hrun P
            have hmin : Nat.min sl dl = min sl dl := rfl
            simp only [builtin, Builtin.copy_, h0, List.map_toArray, List.map_cons, List.map_nil, List.getElem?_toArray, List.getElem?_cons_zero, List.getElem?_cons_succ, hz'.1, hz'.2, Sem.run_bind, run_under ht, Result.andThen_ok, hlen, run_sizeOf hs, hmin, hread w rfl, hst, Sem.run_pure, goInt]
        · cases he
    · cases he
  · cases he

theorem good_clear {x : Operand} {args : Array Operand} {ats : Array TypeId} {t e : TypeId} {z : List V} {o : Oper} (eo : o.op = .call { callee := .builtin .clear, args := args, argTypes := ats }) (hx : args.toList = [x])
    (h0 : ats[0]? = some t) (ht : P.underlying t = some (.slice e)) (hz : zeroCellsA P e = some z) {ρ : Operand → Value} {vs : List V} {r : V}
    (he : exec (.clear z) vs H = some (r, H')) (hv : VRelL m H vs ([x].map ρ)) (hr : Rel m H w) : Good P m H w (execOp ρ o) r H' := by
  obtain rfl : args = #[x] := by apply Array.ext'; simpa using hx
  obtain ⟨cs, hex⟩ := exec_builtin eo ρ
  rw [hex]
  simp only [exec] at he
  split at he
  · rename_i v
    obtain ⟨y, hy, h⟩ := hv.one
    simp at hy
    split at he
    · cases he
      rw [h.nils_inv] at hy
      refine Good.pure hr (x := undef) ?_ .mk_undef
      simp [builtin, Builtin.clear_, h0, hy, run_under ht, undef]
    · cases he
      obtain ⟨a, c, rfl, _⟩ := h.slice_inv
      refine Good.pure hr (x := undef) ?_ .mk_undef
      simp [builtin, Builtin.clear_, h0, hy, run_under ht, undef]
    · rename_i id off n cap hn0
      cases hw : writeAt H id off (List.replicate n z).flatten with
      | none => rw [hw] at he; cases he
      | some H1 =>
        rw [hw] at he; simp at he; obtain ⟨rfl, rfl⟩ := he
        obtain ⟨i, zv, hi, hzv, hzs, hrel⟩ := zero_cells (m := m) (H := H) hz
        obtain ⟨a, c, rfl, ha⟩ := h.slice_inv
        obtain ⟨ob, hob⟩ : ∃ ob, H.get id = some ob := by
          unfold writeAt at hw
          cases hh : H.get id with
          | none => rw [hh] at hw; cases hw
          | some ob => exact ⟨ob, rfl⟩
        have hn : n ≠ 0 := fun h => (by subst h; simp at hn0)
        have hae := (ha.2.2.2 (by have := ha.2.1; omega) ob hob).1
        have hzl : z.length = zv.cells.size := by have := hrel.length; rw [Array.length_toList] at this; omega
        have hzr := zeros_rel (len := n) hrel hzl
        obtain ⟨w', hrun, hrl, hev⟩ := hr.write hzr hw
        refine ⟨m, w', undef, .inl ?_, .mk_undef, hrl, hev⟩
        have hzc : Builtin.zeroCells zv.cells n = (Array.range (n * zv.cells.size)).map fun x => zv.cells[x % zv.cells.size]! := rfl
        cases n with
        | zero => exact absurd rfl hn
        | succ n =>
          simp only [builtin, Builtin.clear_, h0, List.map_toArray, List.map_cons, List.map_nil, List.getElem?_toArray, List.getElem?_cons_zero, hy, Sem.run_bind, run_under ht, Result.andThen_ok, run_zeroValue hi hzv, hzc, hae, hrun P, Sem.run_pure, undef]
    · cases he
  · cases he
end
end Go.Proofs.YtkmaikggdbielaaGreatDoor.Fw
