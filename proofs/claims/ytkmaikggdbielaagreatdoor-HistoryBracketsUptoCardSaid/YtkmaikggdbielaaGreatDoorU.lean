/- The framework, part U: what a world holds, as an abstract heap of rows that are read alone; and what a reading of the arguments tells. No condition. -/
import Derived.Test.YtkmaikggdbielaaGreatDoorS
import Derived.Test.YtkmaikggdbielaaGreatDoorRows
import Derived.ChangeArms
namespace Go.Proofs.YtkmaikggdbielaaGreatDoor.Fw
open Go
set_option linter.unusedSimpArgs false
set_option linter.unusedVariables false

section
variable (W : World)
def obSize : Obj → Nat
  | .cells c _ _ => c.size
  | _ => 0
def wM : Nat := (W.heap.toList.map obSize).sum + 1
theorem wM_lt {b : Nat} {c : Array Value} {e : TypeId} {fz : Nat × Nat} (h : W.heap[b]? = some (.cells c e fz)) : c.size < wM W := by
  have hm : Obj.cells c e fz ∈ W.heap.toList := by
    obtain ⟨hb, he⟩ := Array.getElem?_eq_some_iff.1 h
    rw [← he]; simp
  have : ∀ (l : List Obj), Obj.cells c e fz ∈ l → c.size ≤ (l.map obSize).sum := by
    intro l
    induction l with
    | nil => intro h; cases h
    | cons o l ih =>
      intro h
      simp only [List.map_cons, List.sum_cons]
      rcases List.mem_cons.1 h with rfl | h
      · simp only [obSize]; omega
      · have := ih h; omega
  have := this _ hm
  unfold wM; omega

def code (b o : Nat) : Nat := W.heap.size + (b * wM W + o)
def abv : Value → Option V
  | .bool b => some (.bool b)
  | .int k n => some (.int k n)
  | .float k n => some (.float k n)
  | .string s => some (.str s)
  | .pointer none => some .nilp
  | .slice none 0 0 => some .nils
  | .slice (some a) len cap =>
    if cap = 0 then (if len = 0 then some (.slice 0 0 0 (some 0)) else none)
    else if a.spot = none ∧ a.block < W.heap.size ∧ a.off < wM W ∧ len ≤ cap then some (.slice (code W a.block a.off) 0 len (some cap)) else none
  | .map none => some .nilm
  | _ => none
def pref : List Value → List V
  | [] => []
  | x :: xs => match abv W x with
    | some v => v :: pref xs
    | none => []
def hPl (id : Nat) : Pl :=
  let b := if id < W.heap.size then id else (id - W.heap.size) / wM W
  ⟨b, if id < W.heap.size then 0 else (id - W.heap.size) % wM W, match W.heap[b]? with | some o => obSize o | none => 0⟩
def hNext : Nat := W.heap.size + W.heap.size * wM W + 1
noncomputable def hOf : Heap :=
  ⟨W.heap.size, hNext W, fun id => if id < hNext W then (match W.heap[(hPl W id).b]? with
    | some (.cells c _ _) => some (.row true 0 (pref W (c.toList.drop (hPl W id).base)))
    | _ => none) else none⟩

theorem pref_get : ∀ {l : List Value} {j : Nat} {v : V}, (pref W l)[j]? = some v → ∃ x, l[j]? = some x ∧ abv W x = some v
  | [], j, v, h => by simp [pref] at h
  | x :: xs, j, v, h => by
    simp only [pref] at h
    split at h
    · rename_i u hu
      cases j with
      | zero => simp at h; subst h; exact ⟨x, rfl, hu⟩
      | succ j => exact pref_get (l := xs) (by simpa using h)
    · simp at h
theorem pref_of : ∀ {l : List Value} {n : Nat}, (∀ j, j < n → ∃ x v, l[j]? = some x ∧ abv W x = some v) → ∀ j, j < n → ∀ x v, l[j]? = some x → abv W x = some v → (pref W l)[j]? = some v
  | [], n, h, j, hj, x, v, hx, hv => by simp at hx
  | y :: ys, 0, h, j, hj, x, v, hx, hv => by omega
  | y :: ys, n + 1, h, j, hj, x, v, hx, hv => by
    obtain ⟨y', u, hy, hu⟩ := h 0 (by omega)
    simp at hy; subst hy
    simp only [pref, hu]
    cases j with
    | zero => simp at hx; subst hx; rw [hu] at hv; cases hv; rfl
    | succ j =>
      simp only [List.getElem?_cons_succ] at hx ⊢
      exact pref_of (l := ys) (n := n) (fun i hi => by simpa using h (i + 1) (by omega)) j (by omega) x v hx hv

theorem abv_rel {x : Value} {v : V} (h : abv W x = some v) : VRel (hPl W) (hOf W) v x := by
  have hM : 0 < wM W := by unfold wM; omega
  unfold abv at h
  split at h <;> (first | (cases h; done) | (cases h; simp only [VRel]; done) | skip)
  · rename_i a len cap
    split at h
    · rename_i hc
      subst hc
      split at h
      · rename_i hl
        subst hl
        cases h
        simp only [VRel]
        refine ⟨a, 0, rfl, ?_, Nat.le_refl _, fun k e => by cases e; rfl, fun hc => absurd hc (Nat.lt_irrefl 0)⟩
        show 0 < hNext W
        unfold hNext; omega
      · cases h
    · rename_i hc
      split at h
      · rename_i hk
        cases h
        obtain ⟨k1, k2, k3, k4⟩ := hk
        simp only [VRel]
        have hlt : code W a.block a.off < hNext W := by
          unfold code hNext
          have : (a.block + 1) * wM W ≤ W.heap.size * wM W := Nat.mul_le_mul_right _ (by omega)
          rw [Nat.add_mul] at this
          omega
        have hnl : ¬ code W a.block a.off < W.heap.size := by unfold code; omega
        have hsub : code W a.block a.off - W.heap.size = a.block * wM W + a.off := by unfold code; omega
        refine ⟨a, cap, rfl, hlt, k4, fun k e => by cases e; rfl, fun _ o ho => ⟨?_, fun esz cells _ e => by cases e⟩⟩
        have e1 : (hPl W (code W a.block a.off)).b = a.block := by
          simp only [hPl, if_neg hnl, hsub]
          rw [Nat.mul_comm, Nat.mul_add_div hM, Nat.div_eq_of_lt k3]
          rfl
        have e2 : (hPl W (code W a.block a.off)).base = a.off := by
          simp only [hPl, if_neg hnl, hsub]
          rw [Nat.mul_comm, Nat.mul_add_mod, Nat.mod_eq_of_lt k3]
        rw [e1, e2]
        cases a
        simp at k1
        simp [k1]
      · cases h

theorem hOf_rel : Rel (hPl W) (hOf W) W := by
  refine ⟨fun g hg => ⟨?_, fun _ => ?_⟩, fun id o h => ?_, fun id o h => ?_, fun i j o o' h h' hw => ?_⟩
  · have hg' : g < W.heap.size := hg
    show g < hNext W
    unfold hNext; omega
  · have hg' : g < W.heap.size := hg
    simp [hPl, hg']
  · simp only [hOf] at h
    split at h
    · assumption
    · cases h
  · simp only [hOf] at h
    split at h
    · split at h
      · rename_i c e fz hb
        cases h
        refine ⟨c, e, fz, hb, ?_, fun j v hj => ?_, fun e => by cases e⟩
        · unfold hPl at hb ⊢
          simp only at hb ⊢
          rw [hb]; rfl
        · obtain ⟨x, hx, hv⟩ := pref_get W hj
          rw [List.getElem?_drop] at hx
          exact ⟨x, by simpa using hx, abv_rel W hv⟩
      · cases h
    · cases h
  · simp only [hOf] at h
    split at h
    · split at h
      · cases h; simp [Ob.owned] at hw
      · cases h
    · cases h

noncomputable def av (x : Value) : V := (abv W x).getD .nilp
theorem abv_one {x : Value} {v : V} (h : abv W x = some v) : v.one = true := by
  unfold abv at h
  split at h <;> (first | (cases h; done) | (cases h; rfl) | skip)
  split at h
  · split at h
    · cases h; rfl
    · cases h
  · split at h
    · cases h; rfl
    · cases h
theorem av_one (x : Value) : (av W x).one = true := by
  unfold av
  cases h : abv W x with
  | none => rfl
  | some v => exact abv_one W h
theorem av_all (l : List Value) : (l.map (av W)).all V.one = true := by
  rw [List.all_eq_true]
  intro v hv
  obtain ⟨x, _, rfl⟩ := List.mem_map.1 hv
  exact av_one W x
theorem av_rel {x : Value} (h : (abv W x).isSome = true) : VRel (hPl W) (hOf W) (av W x) x := by
  obtain ⟨v, hv⟩ := Option.isSome_iff_exists.1 h
  unfold av
  rw [hv]
  exact abv_rel W hv

/-- Cells of the world lie at the place of a slice. -/
theorem hOf_at {a : Addr} (hs : a.spot = none) {c : Array Value} {e : TypeId} {fz : Nat × Nat} (hb : W.heap[a.block]? = some (.cells c e fz)) (ho : a.off < wM W) {n k : Nat} {xs : List Value} (hk : k + xs.length ≤ n)
    (hall : ∀ j, j < n → ∃ x v, c[a.off + j]? = some x ∧ abv W x = some v) (hx : ∀ j x, xs[j]? = some x → c[a.off + k + j]? = some x) : At (hOf W) (code W a.block a.off) k (xs.map (av W)) := by
  have hM : 0 < wM W := by unfold wM; omega
  have hbl : a.block < W.heap.size := (Array.getElem?_eq_some_iff.1 hb).1
  have hlt : code W a.block a.off < hNext W := by
    unfold code hNext
    have : (a.block + 1) * wM W ≤ W.heap.size * wM W := Nat.mul_le_mul_right _ (by omega)
    rw [Nat.add_mul] at this
    omega
  have hnl : ¬ code W a.block a.off < W.heap.size := by unfold code; omega
  have hsub : code W a.block a.off - W.heap.size = a.block * wM W + a.off := by unfold code; omega
  have e1 : (hPl W (code W a.block a.off)).b = a.block := by
    simp only [hPl, if_neg hnl, hsub]
    rw [Nat.mul_comm, Nat.mul_add_div hM, Nat.div_eq_of_lt ho]
    rfl
  have e2 : (hPl W (code W a.block a.off)).base = a.off := by
    simp only [hPl, if_neg hnl, hsub]
    rw [Nat.mul_comm, Nat.mul_add_mod, Nat.mod_eq_of_lt ho]
  have hl : ∀ j, j < n → ∃ x v, (c.toList.drop a.off)[j]? = some x ∧ abv W x = some v := fun j hj => by
    obtain ⟨x, v, h1, h2⟩ := hall j hj
    exact ⟨x, v, by rw [List.getElem?_drop]; simpa using h1, h2⟩
  have hget : ∀ j v, (xs.map (av W))[j]? = some v → (pref W (c.toList.drop a.off))[k + j]? = some v := fun j v hj => by
    rw [List.getElem?_map] at hj
    cases hxj : xs[j]? with
    | none => rw [hxj] at hj; cases hj
    | some x =>
      rw [hxj] at hj
      simp at hj
      have hjl : j < xs.length := (List.getElem?_eq_some_iff.1 hxj).1
      have hcx := hx j x hxj
      obtain ⟨x', u, h1, h2⟩ := hl (k + j) (by omega)
      have : (c.toList.drop a.off)[k + j]? = some x := by rw [List.getElem?_drop, ← Nat.add_assoc]; simpa using hcx
      rw [this] at h1; cases h1
      have hu : av W x = u := by unfold av; rw [h2]; rfl
      rw [← hj, hu]
      exact pref_of W hl (k + j) (by omega) x u this h2
  refine ⟨hlt, true, 0, pref W (c.toList.drop a.off), ?_, ?_, hget⟩
  · simp only [hOf, if_pos hlt, e1, e2, hb]
  · rw [List.length_map]
    rcases Nat.eq_zero_or_pos xs.length with h0 | h0
    · rw [h0]
      have : k ≤ n := by omega
      have : ∀ {l : List Value} {n : Nat}, (∀ j, j < n → ∃ x v, l[j]? = some x ∧ abv W x = some v) → n ≤ (pref W l).length := by
        intro l n h
        rcases Nat.eq_zero_or_pos n with rfl | hn
        · omega
        · obtain ⟨x, v, h1, h2⟩ := h (n - 1) (by omega)
          have := pref_of W h (n - 1) (by omega) x v h1 h2
          have := (List.getElem?_eq_some_iff.1 this).1
          omega
      have := this hl
      omega
    · have hlast : (xs.map (av W))[xs.length - 1]? = some ((xs.map (av W))[xs.length - 1]'(by simp; omega)) := List.getElem?_eq_getElem _
      have := (List.getElem?_eq_some_iff.1 (hget _ _ hlast)).1
      omega
end

/-! ### Bulk -/
section
variable {H : Type}
theorem bulk_pos (d : DataW H) : 0 < Rows.uptoBulk d := by
  cases d with
  | lit l => cases l <;> simp [Rows.uptoBulk]
  | _ => simp [Rows.uptoBulk]
theorem bulkAll_len : ∀ (l : List (DataW H)), l.length ≤ Rows.uptoBulkAll l
  | [] => by simp [Rows.uptoBulkAll]
  | d :: l => by
    have h1 := bulkAll_len l
    have h2 := bulk_pos d
    simp only [Rows.uptoBulkAll, List.length_cons]
    omega
theorem bulkAll_mem : ∀ {l : List (DataW H)} {d : DataW H}, d ∈ l → Rows.uptoBulk d ≤ Rows.uptoBulkAll l
  | [], d, h => by cases h
  | e :: l, d, h => by
    simp only [Rows.uptoBulkAll]
    rcases List.mem_cons.1 h with rfl | h
    · omega
    · have := bulkAll_mem h; omega
end

/-! ### What a reading tells -/
section
variable (P : Program) (B : Nat) (G : Heap)
def GoodT : Nat → TypeId → List V → Prop
  | 0, _, _ => False
  | n + 1, t, vs => match P.underlying t with
    | some .bool => ∃ b, vs = [.bool b]
    | some (.int k) => ∃ i, vs = [.int k i] ∧ (Lit.int k i).wf = true
    | some .string => ∃ s, vs = [.str s] ∧ s.size ≤ B
    | some (.slice e) => ∃ v ls, vs = [v] ∧ SL G v (P.cellsOf e) ls ∧ ls.length ≤ B ∧ ∀ l ∈ ls, GoodT n e l
    | some (.struct fs) => vs.length = P.cellsOf t ∧ ∀ f ∈ fs.toList, GoodT n f.type ((vs.drop f.offset).take (P.cellsOf f.type))
    | _ => False
def plainT : Nat → TypeId → Bool
  | 0, _ => false
  | n + 1, t => match P.underlying t with
    | some .bool => true
    | some (.int _) => true
    | some .string => true
    | some (.slice e) => decide (0 < P.cellsOf e) && plainT n e
    | some (.struct fs) => ((List.range (P.cellsOf t)).all fun j => fs.toList.any fun f => decide (f.offset ≤ j) && decide (j < f.offset + P.cellsOf f.type)) && fs.toList.all fun f => plainT n f.type
    | _ => false
end

theorem cells?_get {W : World} {base : Nat} {a : Addr} {n : Nat} {cs : List Value} (h : W.cells? base a n = some cs) : cs.length = n ∧ ∀ j, j < n → W.cell? (a.add j) = cs[j]? := by
  unfold World.cells? at h
  split at h
  · have hl : ∀ {l : List Nat} {r : List Value}, l.mapM (fun i => W.cell? (a.add i)) = some r → r.length = l.length ∧ ∀ (j i : Nat), l[j]? = some i → W.cell? (a.add i) = r[j]? := by
      intro l
      induction l with
      | nil => intro r h; simp at h; subst h; exact ⟨rfl, fun j i e => by simp at e⟩
      | cons x l ih =>
        intro r h
        rw [List.mapM_cons] at h
        obtain ⟨v, hv, h⟩ := Option.bind_eq_some_iff.1 h
        obtain ⟨r', hr', h⟩ := Option.bind_eq_some_iff.1 h
        cases h
        obtain ⟨h1, h2⟩ := ih hr'
        refine ⟨by simp [h1], fun j i e => ?_⟩
        cases j with
        | zero => simp at e; subst e; simpa using hv
        | succ j => simpa using h2 j i (by simpa using e)
    obtain ⟨h1, h2⟩ := hl h
    refine ⟨by simpa using h1, fun j hj => h2 j j (by simp [hj])⟩
  · cases h

theorem add_block (a : Addr) (k : Nat) : (a.add k).block = a.block := by unfold Addr.add; split <;> rfl
theorem add_off (a : Addr) (k : Nat) : (a.add k).off = a.off + k := by
  unfold Addr.add
  split
  · rename_i h; simp_all
  · rfl
theorem add_zero (a : Addr) : a.add 0 = a := by simp [Addr.add]
theorem add_add {a : Addr} (h : a.spot = none) (i j : Nat) : (a.add i).add j = a.add (i + j) := by
  obtain ⟨b, o, s⟩ := a
  simp only at h
  subst h
  by_cases hi : i = 0
  · subst hi; simp [add_zero]
  · by_cases hj : j = 0
    · subst hj; simp [add_zero]
    · have : ¬ i + j = 0 := by omega
      simp only [Addr.add, hi, hj, this, if_false]
      simp [Nat.add_assoc]
theorem cell_block {W : World} {a : Addr} {x : Value} (h : W.cell? a = some x) : a.spot = none ∧ ∃ c e fz, W.heap[a.block]? = some (.cells c e fz) ∧ c[a.off]? = some x := by
  unfold World.cell? at h
  split at h
  · rename_i c e fz hb
    split at h
    · cases h
    · rename_i hs
      exact ⟨by simpa using hs, c, e, fz, hb, h⟩
  · cases h

theorem read_good {H : Type} {enc : TypeId × Value → H} {P : Program} {W : World} {B : Nat} : ∀ (d fuel : Nat) (t : TypeId) (cs : List Value) (x : DataW H × List MemPlace), plainT P d t = true → DataW.trod enc P W 0 (fun _ => true) true fuel t cs = some x →
    Rows.uptoBulk x.1 ≤ B → (∀ y ∈ cs, (abv W y).isSome = true) ∧ GoodT P B (hOf W) d t (cs.map (av W))
  | 0, fuel, t, cs, x, hp, h, hB => by simp [plainT] at hp
  | d + 1, fuel, t, cs, x, hp, h, hB => by
    simp only [plainT] at hp
    simp only [GoodT]
    split at hp
    · rename_i hu
      obtain ⟨b, rfl, rfl⟩ := DataW.trod_bool hu h
      exact ⟨by simp [abv], b, by simp [av, abv]⟩
    · rename_i k hu
      obtain ⟨b, rfl, rfl, hw⟩ := DataW.trod_int hu h
      exact ⟨by simp [abv], b, by simp [av, abv], hw⟩
    · rename_i hu
      obtain ⟨s, rfl, rfl, hw⟩ := DataW.trod_string hu h
      refine ⟨by simp [abv], s, by simp [av, abv], ?_⟩
      simp only [Rows.uptoBulk] at hB
      have : s.data.toList.length = s.size := by simp
      omega
    · rename_i e hu
      simp only [Bool.and_eq_true, decide_eq_true_eq] at hp
      obtain ⟨hpos, hp⟩ := hp
      rcases DataW.trod_slice hu h with ⟨rfl, rfl⟩ | ⟨a, len, cap, elems, rest, n, rfl, rfl, rfl, hb, hl, hm, hlen, hel, hsp, hns⟩
      · exact ⟨by simp [abv], .nils, [], by simp [av, abv], ⟨by simp, .inl ⟨rfl, rfl⟩⟩, Nat.zero_le _, by simp⟩
      · obtain ⟨hrl, hr⟩ := hsp rfl
        simp only [Rows.uptoBulk] at hB
        have each : ∀ i, i < cap → ∃ y xs, (elems ++ rest)[i]? = some y ∧ W.cells? 0 (a.add (i * P.cellsOf e)) (P.cellsOf e) = some xs ∧ DataW.trod enc P W 0 (fun _ => true) true n e xs = some y ∧ Rows.uptoBulk y.1 ≤ B := by
          intro i hi
          have key : ∀ y, (elems ++ rest)[i]? = some y → Rows.uptoBulk y.1 ≤ B := by
            intro y hy
            have hmem := List.mem_of_getElem? hy
            rcases List.mem_append.1 hmem with hmem | hmem
            · have := bulkAll_mem (List.mem_map_of_mem (f := (·.1)) hmem); omega
            · have := bulkAll_mem (List.mem_map_of_mem (f := (·.1)) hmem); omega
          by_cases hil : i < len
          · have h1 := hel i hil
            have h2 : elems[i]? = some elems[i] := List.getElem?_eq_getElem (by omega)
            rw [h2] at h1
            obtain ⟨xs, hx1, hx2⟩ := Option.bind_eq_some_iff.1 h1
            have h3 : (elems ++ rest)[i]? = some elems[i] := by rw [List.getElem?_append_left (by omega)]; exact h2
            exact ⟨_, xs, h3, hx1, hx2, key _ h3⟩
          · have h1 := hr (i - len) (by omega)
            rw [show len + (i - len) = i by omega] at h1
            have h2 : rest[i - len]? = some rest[i - len] := List.getElem?_eq_getElem (by omega)
            rw [h2] at h1
            obtain ⟨xs, hx1, hx2⟩ := Option.bind_eq_some_iff.1 h1
            have h3 : (elems ++ rest)[i]? = some rest[i - len] := by rw [List.getElem?_append_right (by omega), hlen]; exact h2
            exact ⟨_, xs, h3, hx1, hx2, key _ h3⟩
        have hlenB : len ≤ B := by
          have := bulkAll_len (elems.map (·.1))
          simp at this
          omega
        rcases Nat.eq_zero_or_pos cap with hc0 | hc0
        · subst hc0
          obtain rfl : len = 0 := by omega
          have : elems = [] := List.length_eq_zero_iff.1 hlen
          subst this
          refine ⟨by simp [abv], .slice 0 0 0 (some 0), [], by simp [av, abv], ⟨by simp, .inr ⟨0, 0, some 0, rfl, ?_, fun i e he => by simp at he⟩⟩, Nat.zero_le _, by simp⟩
          show 0 < hNext W
          unfold hNext; omega
        · -- the block
          obtain ⟨y0, xs0, _, hc, _, _⟩ := each 0 hc0
          obtain ⟨hxl, hxc⟩ := cells?_get hc
          have h0 := hxc 0 hpos
          rw [List.getElem?_eq_getElem (by omega)] at h0
          obtain ⟨hs, c, et, fz, hblk, hoff⟩ := cell_block h0
          rw [Nat.zero_mul, add_zero, add_zero] at hs hblk hoff
          have hsz := wM_lt W hblk
          have hof : a.off < wM W := by
            have := (Array.getElem?_eq_some_iff.1 hoff).1
            omega
          have hbl : a.block < W.heap.size := (Array.getElem?_eq_some_iff.1 hblk).1
          have cellc : ∀ (k : Nat) (x : Value), W.cell? (a.add k) = some x → c[a.off + k]? = some x := by
            intro k x hx
            obtain ⟨_, c', e', fz', hb', hx'⟩ := cell_block hx
            rw [add_block, hblk] at hb'
            rw [add_off] at hx'
            cases hb'
            exact hx'
          have rec' : ∀ i, i < cap → ∃ xs : List Value, xs.length = P.cellsOf e ∧ (∀ j x, xs[j]? = some x → c[a.off + (i * P.cellsOf e + j)]? = some x) ∧ (∀ y ∈ xs, (abv W y).isSome = true) ∧ GoodT P B (hOf W) d e (xs.map (av W)) := by
            intro i hi
            obtain ⟨y, xs, _, hcs, htr, hby⟩ := each i hi
            obtain ⟨g1, g2⟩ := read_good d n e xs y hp htr hby
            obtain ⟨l1, l2⟩ := cells?_get hcs
            refine ⟨xs, l1, fun j x hj => ?_, g1, g2⟩
            have hjl : j < P.cellsOf e := by rw [← l1]; exact (List.getElem?_eq_some_iff.1 hj).1
            have := l2 j hjl
            rw [hj] at this
            rw [add_add hs] at this
            exact cellc _ x this
          have hall : ∀ j, j < cap * P.cellsOf e → ∃ x v, c[a.off + j]? = some x ∧ abv W x = some v := by
            intro j hj
            have hi : j / P.cellsOf e < cap := Nat.div_lt_of_lt_mul (by rw [Nat.mul_comm]; exact hj)
            obtain ⟨xs, l1, l2, l3, _⟩ := rec' _ hi
            have hjm : j % P.cellsOf e < xs.length := by rw [l1]; exact Nat.mod_lt _ hpos
            have := l2 (j % P.cellsOf e) _ (List.getElem?_eq_getElem hjm)
            rw [show j / P.cellsOf e * P.cellsOf e + j % P.cellsOf e = j by rw [Nat.mul_comm]; exact Nat.div_add_mod j _] at this
            obtain ⟨v, hv⟩ := Option.isSome_iff_exists.1 (l3 _ (List.getElem_mem hjm))
            exact ⟨_, v, this, hv⟩
          have habv : abv W (.slice (some a) len cap) = some (.slice (code W a.block a.off) 0 len (some cap)) := by
            simp only [abv]
            rw [if_neg (by omega), if_pos ⟨hs, hbl, hof, hl⟩]
          -- the elements
          have hex : ∃ ls : List (List V), ls.length = len ∧ ∀ i, i < len → ∃ xs : List Value, ls[i]? = some (xs.map (av W)) ∧ xs.length = P.cellsOf e ∧ (∀ j x, xs[j]? = some x → c[a.off + (i * P.cellsOf e + j)]? = some x) ∧ GoodT P B (hOf W) d e (xs.map (av W)) := by
            have : ∀ k, k ≤ len → ∃ ls : List (List V), ls.length = k ∧ ∀ i, i < k → ∃ xs : List Value, ls[i]? = some (xs.map (av W)) ∧ xs.length = P.cellsOf e ∧ (∀ j x, xs[j]? = some x → c[a.off + (i * P.cellsOf e + j)]? = some x) ∧ GoodT P B (hOf W) d e (xs.map (av W)) := by
              intro k
              induction k with
              | zero => intro _; exact ⟨[], rfl, fun i hi => by omega⟩
              | succ k ih =>
                intro hk
                obtain ⟨ls, h1, h2⟩ := ih (by omega)
                obtain ⟨xs, l1, l2, _, l4⟩ := rec' k (by omega)
                refine ⟨ls ++ [xs.map (av W)], by simp [h1], fun i hi => ?_⟩
                by_cases hik : i = k
                · subst hik
                  exact ⟨xs, by rw [List.getElem?_append_right (by omega)]; simp [h1], l1, l2, l4⟩
                · obtain ⟨ys, m1, m2⟩ := h2 i (by omega)
                  exact ⟨ys, by rw [List.getElem?_append_left (by omega)]; exact m1, m2⟩
            exact this len (Nat.le_refl _)
          obtain ⟨ls, hll, hls⟩ := hex
          refine ⟨by simp [habv], .slice (code W a.block a.off) 0 len (some cap), ls, by simp [av, habv], ⟨fun l hl' => ?_, .inr ⟨code W a.block a.off, 0, some cap, by rw [hll], (hOf_at W hs hblk hof (n := 0) (k := 0) (xs := []) (by simp) (fun j hj => by omega) (fun j x e => by simp at e)).1, fun i l hi => ?_⟩⟩, by omega, fun l hl' => ?_⟩
          · obtain ⟨i, hi⟩ := List.getElem?_of_mem hl'
            have hi' : i < len := by rw [← hll]; exact (List.getElem?_eq_some_iff.1 hi).1
            obtain ⟨xs, m1, m2, _⟩ := hls i hi'
            rw [hi] at m1; cases m1; exact ⟨by simp [m2], av_all W xs⟩
          · have hi' : i < len := by rw [← hll]; exact (List.getElem?_eq_some_iff.1 hi).1
            obtain ⟨xs, m1, m2, m3, _⟩ := hls i hi'
            rw [hi] at m1; cases m1
            refine hOf_at W hs hblk hof (n := cap * P.cellsOf e) ?_ hall fun j x hj => ?_
            · rw [m2, Nat.zero_add]
              have : (i + 1) * P.cellsOf e ≤ cap * P.cellsOf e := Nat.mul_le_mul_right _ (by omega)
              rw [Nat.add_mul] at this
              omega
            · have := m3 j x hj
              rw [Nat.zero_add, Nat.add_assoc]; exact this
          · obtain ⟨i, hi⟩ := List.getElem?_of_mem hl'
            have hi' : i < len := by rw [← hll]; exact (List.getElem?_eq_some_iff.1 hi).1
            obtain ⟨xs, m1, _, _, m4⟩ := hls i hi'
            rw [hi] at m1; cases m1; exact m4
    · rename_i fs hu
      simp only [Bool.and_eq_true] at hp
      obtain ⟨hcov, hpf⟩ := hp
      obtain ⟨xs, n, rfl, rfl, hlen, hxl, hf⟩ := DataW.trod_struct hu h
      simp only [Rows.uptoBulk] at hB
      have each : ∀ f ∈ fs.toList, (∀ y ∈ ((cs.drop f.offset).take (P.cellsOf f.type)), (abv W y).isSome = true) ∧ GoodT P B (hOf W) d f.type (((cs.drop f.offset).take (P.cellsOf f.type)).map (av W)) := by
        intro f hfm
        obtain ⟨i, hi⟩ := List.getElem?_of_mem hfm
        have hi' : fs[i]? = some f := by simpa using hi
        have hil : i < fs.size := (Array.getElem?_eq_some_iff.1 hi').1
        have h1 := hf i f hi'
        have h2 : xs[i]? = some xs[i] := List.getElem?_eq_getElem (by omega)
        rw [h2] at h1
        refine read_good d n f.type _ _ (List.all_eq_true.1 hpf f hfm) h1 ?_
        have := bulkAll_mem (List.mem_map_of_mem (f := (·.1)) (List.mem_of_getElem? h2))
        omega
      refine ⟨fun y hy => ?_, by simpa using hlen, fun f hfm => ?_⟩
      · obtain ⟨j, hj⟩ := List.getElem?_of_mem hy
        have hjl : j < P.cellsOf t := by rw [← hlen]; exact (List.getElem?_eq_some_iff.1 hj).1
        have := List.all_eq_true.1 hcov j (by simpa using hjl)
        obtain ⟨f, hfm, hc⟩ := List.any_eq_true.1 this
        simp only [Bool.and_eq_true, decide_eq_true_eq] at hc
        refine (each f hfm).1 y ?_
        refine List.mem_of_getElem? (i := j - f.offset) ?_
        rw [List.getElem?_take, if_pos (by omega), List.getElem?_drop, show f.offset + (j - f.offset) = j by omega]
        exact hj
      · have := (each f hfm).2
        rw [List.map_take, List.map_drop] at this
        exact this
    · cases hp
end Go.Proofs.YtkmaikggdbielaaGreatDoor.Fw
