/- The framework, part K: the operations on abstract values do what the model's do, sixth part: literals, nil, append, copy, clear. No condition. -/
import Derived.Test.YtkmaikggdbielaaGreatDoorH
namespace Go.Proofs.YtkmaikggdbielaaGreatDoor.Fw
open Go
set_option linter.unusedSimpArgs false
set_option linter.unusedVariables false
section
variable {P : Program} {m : Nat → Pl} {H H' : Heap} {w : World}

def nilT (c : Nat) (d : TypeDesc) : Prop :=
  (c = 0 ∧ ∃ u, d = .pointer u) ∨ (c = 1 ∧ ∃ u, d = .slice u) ∨ (c = 2 ∧ ∃ u v, d = .map u v) ∨ (c = 3 ∧ ∃ a b e, d = .func a b e)

theorem run_nilEq (d : Nat) {c : Nat} {t : TypeId} {td : TypeDesc} (ht : P.underlying t = some td) (hc : nilT c td) {a b : V} {q : Bool} (h : nilEq c a b = some q) {u v : Value} (h1 : VRel m H a u) (h2 : VRel m H b v) :
    (Op.equalIn (d + 1) t u v).run P w = .ok q w ∧ (∀ k n, u ≠ .int k n) ∧ (∀ k n, u ≠ .float k n) ∧ (∀ s, u ≠ .string s) ∧ (∀ k a b, u ≠ .complex k a b) ∧ (∀ cs, u ≠ .agg cs) ∧ u ≠ .nilIface := by
  rcases hc with ⟨rfl, e, rfl⟩ | ⟨rfl, e, rfl⟩ | ⟨rfl, e1, e2, rfl⟩ | ⟨rfl, e1, e2, e3, rfl⟩
  · unfold nilEq at h
    split at h <;> (try cases h) <;> simp only [VRel] at h1 h2 <;> simp_all
    · simp [Op.equalIn, run_under ht]
    · obtain ⟨x, rfl, _⟩ := h2; simp [Op.equalIn, run_under ht]
    · obtain ⟨x, rfl, _⟩ := h1; simp [Op.equalIn, run_under ht]
  · unfold nilEq at h
    split at h <;> (try cases h) <;> simp only [VRel] at h1 h2 <;> simp_all
    · simp [Op.equalIn, run_under ht]
    · obtain ⟨x, y, rfl, _⟩ := h2; simp [Op.equalIn, run_under ht]
    · obtain ⟨x, y, rfl, _⟩ := h1; simp [Op.equalIn, run_under ht]
  · unfold nilEq at h
    split at h <;> (try cases h) <;> simp only [VRel] at h1 h2 <;> simp_all
    · simp [Op.equalIn, run_under ht]
    · obtain ⟨x, rfl, _⟩ := h2; simp [Op.equalIn, run_under ht]
    · obtain ⟨x, rfl, _⟩ := h1; simp [Op.equalIn, run_under ht]
  · unfold nilEq at h
    split at h <;> (try cases h) <;> simp only [VRel] at h1 h2 <;> simp_all
    · simp [Op.equalIn, run_under ht]
    · obtain ⟨x, y, rfl, _⟩ := h2; simp [Op.equalIn, run_under ht]
    · obtain ⟨x, y, rfl, _⟩ := h1; simp [Op.equalIn, run_under ht]

theorem good_eqnil {n : Bool} {c : Nat} {t yt : TypeId} {td : TypeDesc} {x y : Operand} {o : Oper} (e : o.op = .binOp (if n then .neq else .eql) t x y yt)
    (ht : P.underlying t = some td) (hc : nilT c td) {ρ : Operand → Value} {vs : List V} {r : V}
    (he : exec (.eqnil c n) vs H = some (r, H')) (hv : VRelL m H vs ([x, y].map ρ)) (hr : Rel m H w) : Good P m H w (execOp ρ o) r H' := by
  simp only [exec] at he
  split at he
  · rename_i a b
    cases hq : nilEq c a b with
    | none => rw [hq] at he; cases he
    | some q =>
      rw [hq] at he; simp at he; obtain ⟨rfl, rfl⟩ := he
      obtain ⟨u, v, hz, h1, h2⟩ := hv.two
      simp only [List.map_cons, List.map_nil, List.cons.injEq, and_true] at hz
      obtain ⟨hrun, hi, hf, hs, hcx, ha, hni⟩ := run_nilEq (P := P) (w := w) 9999 ht hc hq h1 h2
      refine Good.pure hr (x := .bool (q != n)) ?_ (.mk_bool _)
      have hrun' : (Op.equal t u v).run P w = .ok q w := hrun
      have hb : (binOp (if n then .neq else .eql) t u v).run P w = .ok (.bool (q != n)) w := by
        cases n
        · have : binOp .eql t u v = (do pure (.bool (← Op.equal t u v))) := by
            cases u <;> cases v <;> first | rfl | (exact absurd rfl (hi _ _)) | (exact absurd rfl (hf _ _)) | (exact absurd rfl (hs _)) | (exact absurd rfl (hcx _ _ _))
          simp [this, hrun']
        · have : binOp .neq t u v = (do pure (.bool (!(← Op.equal t u v)))) := by
            cases u <;> cases v <;> first | rfl | (exact absurd rfl (hi _ _)) | (exact absurd rfl (hf _ _)) | (exact absurd rfl (hs _)) | (exact absurd rfl (hcx _ _ _))
          simp [this, hrun']
      simp only [execOp, e, hz.1, hz.2, Sem.run_bind, run_eqGuard_int _ t x y u v ⟨ha, hni⟩, Result.andThen_ok, hb, Sem.run_pure]
  · cases he

/-! ### Literals -/
theorem foldl_put (xs : List Value) : ∀ (c : Array Value) (off k : Nat),
    (xs.zipIdx k).foldl (fun cs (p : Value × Nat) => cs.setIfInBounds (off + p.2) p.1) c = putRow c (off + k) xs := by
  induction xs with
  | nil => intro c off k; rfl
  | cons x xs ih =>
    intro c off k
    simp only [List.zipIdx_cons, List.foldl_cons, putRow]
    rw [ih _ off (k + 1), Nat.add_assoc]

theorem VRelL.splice {cells vs : List V} {c : Array Value} {xs : List Value} {off : Nat} (h : VRelL m H cells c.toList) (hv : VRelL m H vs xs) (hl : off + vs.length ≤ cells.length) :
    VRelL m H (splice cells off vs) (putRow c off xs).toList := by
  have h1 := h.length
  have h2 := hv.length
  refine .of_get (by rw [splice_length _ _ _ hl, Array.length_toList, putRow_size]; simpa using h1) fun i v hi => ?_
  rw [splice_get _ _ _ hl] at hi
  have hsz : c.size = cells.length := by simpa using h1
  rw [Array.getElem?_toList, putRow_get _ _ _ _ (by omega), h2]
  split at hi
  · rename_i hc
    rw [if_pos hc]
    exact hv.get hi
  · rename_i hc
    rw [if_neg hc]
    simpa using h.get hi

theorem fill_ok (place : Nat → Option (Nat × Nat)) : ∀ (ps : List (Nat × Operand)) (parts : List (Nat × Nat)) (vs : List V) (cells : List V) (cs : List V) (c : Array Value) (ρ : Operand → Value),
    ps.map (fun p => place p.1) = parts.map some → fillA cells (parts.zip vs) = some cs → vs.length = parts.length → VRelL m H cells c.toList → VRelL m H vs ((ps.map (·.2)).map ρ) →
    ∃ c', Instr.fill place c (ps.map fun p => (p.1, ρ p.2)) = some c' ∧ VRelL m H cs c'.toList
  | [], parts, vs, cells, cs, c, ρ, hp, hf, hl, hc, hv => by
    have : parts = [] := by cases parts <;> simp at hp ⊢
    subst this
    simp [fillA] at hf
    subst hf
    exact ⟨c, rfl, hc⟩
  | p :: ps, parts, vs, cells, cs, c, ρ, hp, hf, hl, hc, hv => by
    cases parts with
    | nil => simp at hp
    | cons q parts =>
      cases vs with
      | nil => simp at hl
      | cons v vs =>
        obtain ⟨off, size⟩ := q
        simp only [List.map_cons, List.cons.injEq] at hp
        simp only [List.zip_cons_cons, fillA] at hf
        split at hf
        · rename_i hcond
          obtain ⟨y, ys, hy, h1, h2⟩ := hv.cons
          simp only [List.map_cons, List.cons.injEq] at hy
          obtain ⟨rfl, rfl⟩ := hy
          have hcl := h1.cells
          have hsz : (ρ p.2).cells.size = size := by have := hcl.length; rw [hcond.1] at this; simpa using this
          have hcs : c.size = cells.length := by simpa using hc.length
          obtain ⟨c', hc1, hc2⟩ := fill_ok place ps parts vs _ cs (putRow c off (ρ p.2).cells.toList) ρ hp.2 hf (by simpa using hl) (hc.splice hcl (by rw [hcond.1]; exact hcond.2)) h2
          refine ⟨c', ?_, hc2⟩
          simp only [List.map_cons, Instr.fill, hp.1]
          rw [if_neg (by simp [hsz]; omega)]
          have hfold : (ρ p.2).cells.zipIdx.foldl (fun cs (x : Value × Nat) => cs.setIfInBounds (off + x.2) x.1) c = putRow c off (ρ p.2).cells.toList := by
            rw [← Array.foldl_toList, Array.toList_zipIdx, foldl_put]; simp
          have hfold' : (ρ p.2).cells.zipIdx.foldl (fun cs x => match x with | (c, j) => cs.setIfInBounds (off + j) c) c = putRow c off (ρ p.2).cells.toList := hfold
          rw [hfold']
          exact hc1
        · cases hf

theorem partsA_struct {t : TypeId} {fs : Array Field} (ht : P.underlying t = some (.struct fs)) : ∀ (ps : List (Nat × Operand)) (parts : List (Nat × Nat)), partsA P t ps = some parts →
    ps.map (fun p => ((fs[p.1]?).bind fun f => (sizeA P f.type).map fun n => (f.offset, n))) = parts.map some
  | [], parts, h => by simp [partsA] at h; subst h; rfl
  | (i, x) :: ps, parts, h => by
    simp only [partsA, ht] at h
    split at h
    · rename_i fd hfd
      split at h
      · rename_i n l hn hl
        cases h
        simp only [List.map_cons, List.cons.injEq]
        exact ⟨by simp [hfd, hn], partsA_struct ht ps l hl⟩
      · cases h
    · cases h

theorem partsA_array {t el : TypeId} {len n : Nat} (ht : P.underlying t = some (.array len el)) (hs : sizeA P el = some n) : ∀ (ps : List (Nat × Operand)) (parts : List (Nat × Nat)), partsA P t ps = some parts →
    ps.map (fun p => some (p.1 * n, n)) = parts.map some
  | [], parts, h => by simp [partsA] at h; subst h; rfl
  | (i, x) :: ps, parts, h => by
    simp only [partsA, ht, hs] at h
    split at h
    · rename_i k l hn hl
      cases h
      cases hn
      simp only [List.map_cons, List.cons.injEq]
      exact ⟨trivial, partsA_array ht hs ps l hl⟩
    · cases h

theorem sizeA_zero {t : TypeId} {z : List V} (h : zeroCellsA P t = some z) : ∃ n, sizeA P t = some n := by
  unfold zeroCellsA at h
  unfold sizeA
  split at h
  · rename_i i hi; exact ⟨i.size, by simp [hi]⟩
  · cases h

theorem mapM_places (fs : Array Field) (h : fieldsSized P fs = true) :
    (fs.mapM (m := Sem) fun f => do pure (f.offset, ← sizeOf f.type)).run P w = .ok (fs.map fun f => (f.offset, (sizeA P f.type).getD 0)) w := by
  have hall : ∀ f ∈ fs.toList, (P.info? f.type).isSome = true := by
    unfold fieldsSized at h
    intro f hf
    exact Array.all_eq_true'.1 h f (by simpa using hf)
  rw [Array.mapM_eq_mapM_toList]
  obtain ⟨l⟩ := fs
  rw [Sem.run_map]
  have key : ∀ (l : List Field), (∀ f ∈ l, (P.info? f.type).isSome = true) →
      (l.mapM (m := Sem) fun f => do pure (f.offset, ← sizeOf f.type)).run P w = .ok (l.map fun f => (f.offset, (sizeA P f.type).getD 0)) w := by
    intro l
    induction l with
    | nil => intro _; rfl
    | cons f l ih =>
      intro hl
      obtain ⟨i, hi⟩ := Option.isSome_iff_exists.1 (hl f (by simp))
      have hs : sizeA P f.type = some i.size := by unfold sizeA; simp [hi]
      rw [List.mapM_cons]
      simp only [Sem.run_bind, run_sizeOf hs, Result.andThen_ok, Sem.run_pure]
      rw [ih (fun g hg => hl g (by simp [hg]))]
      simp [hs]
  rw [key l hall]
  simp

theorem good_build_struct {t : TypeId} {fs : Array Field} {ps : Array (Nat × Operand)} {z : List V} {parts : List (Nat × Nat)} {o : Oper} (e : o.op = .build t ps) (ht : P.underlying t = some (.struct fs))
    (hz : zeroCellsA P t = some z) (hp : partsA P t ps.toList = some parts) (hsz : fieldsSized P fs = true) {ρ : Operand → Value} {vs : List V} {r : V}
    (he : exec (.build z parts) vs H = some (r, H')) (hv : VRelL m H vs ((ps.toList.map (·.2)).map ρ)) (hr : Rel m H w) : Good P m H w (execOp ρ o) r H' := by
  simp only [exec] at he
  split at he
  · rename_i hl
    cases hf : fillA z (parts.zip vs) with
    | none => rw [hf] at he; cases he
    | some cs =>
      rw [hf] at he; simp at he; obtain ⟨rfl, rfl⟩ := he
      obtain ⟨i, v, hi, hv', hs, hrel⟩ := zero_cells (m := m) (H := H) hz
      have hpl := partsA_struct ht _ _ hp
      have hplace : ps.toList.map (fun p => ((fs.map fun f => (f.offset, (sizeA P f.type).getD 0))[p.1]?)) = parts.map some := by
        rw [← hpl]
        apply List.map_congr_left
        intro p hpm
        have hsome : ((fs[p.1]?).bind fun f => (sizeA P f.type).map fun n => (f.offset, n)) ≠ none := by
          have : ((fs[p.1]?).bind fun f => (sizeA P f.type).map fun n => (f.offset, n)) ∈ parts.map some := by rw [← hpl]; exact List.mem_map_of_mem hpm
          intro hn; rw [hn] at this; simp at this
        rw [Array.getElem?_map]
        cases hfd : fs[p.1]? with
        | none => simp
        | some fd =>
          rw [hfd] at hsome
          simp at hsome ⊢
          cases hsf : sizeA P fd.type with
          | none => exact absurd hsf hsome
          | some n => rfl
      obtain ⟨c', hc1, hc2⟩ := fill_ok (fun i => (fs.map fun f => (f.offset, (sizeA P f.type).getD 0))[i]?) ps.toList parts vs z cs v.cells ρ hplace hf hl hrel hv
      refine Good.pure hr (x := .agg c') ?_ (.mk_agg hc2)
      have harr : (ps.map fun (x : Nat × Operand) => (x.1, ρ x.2)).toList = ps.toList.map fun p => (p.1, ρ p.2) := by simp
      simp only [execOp, e, Instr.build, Sem.run_bind, run_zeroValue hi hv', Result.andThen_ok, run_under ht, mapM_places fs hsz]
      have hc1' : Instr.fill (fun x => (fs.map fun f => (f.offset, (sizeA P f.type).getD 0))[x]?) v.cells (ps.map fun x => match x with | (i, x) => (i, ρ x)).toList = some c' := by
        rw [show (ps.map fun x => match x with | (i, x) => (i, ρ x)) = ps.map fun (x : Nat × Operand) => (x.1, ρ x.2) from rfl, harr]; exact hc1
      rw [hc1']
      simp
  · cases he

theorem good_build_array {t el : TypeId} {len : Nat} {ps : Array (Nat × Operand)} {z : List V} {parts : List (Nat × Nat)} {o : Oper} (e : o.op = .build t ps) (ht : P.underlying t = some (.array len el))
    (hz : zeroCellsA P t = some z) (hp : partsA P t ps.toList = some parts) {n : Nat} (hsz : sizeA P el = some n) {ρ : Operand → Value} {vs : List V} {r : V}
    (he : exec (.build z parts) vs H = some (r, H')) (hv : VRelL m H vs ((ps.toList.map (·.2)).map ρ)) (hr : Rel m H w) : Good P m H w (execOp ρ o) r H' := by
  simp only [exec] at he
  split at he
  · rename_i hl
    cases hf : fillA z (parts.zip vs) with
    | none => rw [hf] at he; cases he
    | some cs =>
      rw [hf] at he; simp at he; obtain ⟨rfl, rfl⟩ := he
      obtain ⟨i, v, hi, hv', hs, hrel⟩ := zero_cells (m := m) (H := H) hz
      obtain ⟨c', hc1, hc2⟩ := fill_ok (fun i => some (i * n, n)) ps.toList parts vs z cs v.cells ρ (partsA_array ht hsz _ _ hp) hf hl hrel hv
      refine Good.pure hr (x := .agg c') ?_ (.mk_agg hc2)
      have harr : (ps.map fun x => match x with | (i, x) => (i, ρ x)).toList = ps.toList.map fun p => (p.1, ρ p.2) := by
        rw [show (ps.map fun x => match x with | (i, x) => (i, ρ x)) = ps.map fun (x : Nat × Operand) => (x.1, ρ x.2) from rfl]; simp
      simp only [execOp, e, Instr.build, Sem.run_bind, run_zeroValue hi hv', Result.andThen_ok, run_under ht, run_sizeOf hsz, harr, hc1]
      simp
  · cases he

theorem flat_get {α : Type} (z : List α) (n : Nat) (hn : z.length = n) : ∀ (len j : Nat), j < len * n → (List.replicate len z).flatten[j]? = z[j % n]?
  | 0, j, h => by omega
  | len + 1, j, h => by
    rw [List.replicate_succ, List.flatten_cons]
    by_cases hj : j < n
    · rw [List.getElem?_append_left (by omega), Nat.mod_eq_of_lt hj]
    · rw [List.getElem?_append_right (by omega), hn, flat_get z n hn len (j - n) (by rw [Nat.succ_mul] at h; omega)]
      rw [Nat.mod_eq_sub_mod (by omega : j ≥ n)]

theorem zeros_rel {len n : Nat} {z : List V} {A : Array Value} (hrel : VRelL m H z A.toList) (hzn : z.length = n) :
    VRelL m H (List.replicate len z).flatten ((Array.range (len * n)).map fun x => A[x % A.size]!).toList := by
  have hvn : A.size = n := by have := hrel.length; simpa [hzn] using this
  refine .of_get (by simp [List.length_flatten, hzn]) fun j u hj => ?_
  have hjl : j < len * n := by
    have := (List.getElem?_eq_some_iff.1 hj).1
    simpa [List.length_flatten, hzn] using this
  rw [flat_get z n hzn len j hjl] at hj
  obtain ⟨y, hy, hvy⟩ := hrel.get hj
  refine ⟨y, ?_, hvy⟩
  have hA : A[j % n]? = some y := by simpa using hy
  simp only [Array.toList_map, Array.toList_range, List.getElem?_map, List.getElem?_range hjl, Option.map_some, hvn]
  rw [getElem!_def, hA]

theorem good_bsl {t el : TypeId} {len n : Nat} {ps : Array (Nat × Operand)} {z : List V} {o : Oper} (e : o.op = .buildSlice t len ps) (ht : P.underlying t = some (.slice el))
    (hz : zeroCellsA P el = some z) (hsz : sizeA P el = some n) (hb : len * n ≤ 16777216) {ρ : Operand → Value} {vs : List V} {r : V}
    (he : exec (.bsl n len (List.replicate len z).flatten (elemPartsA n ps.toList)) vs H = some (r, H')) (hv : VRelL m H vs ((ps.toList.map (·.2)).map ρ)) (hr : Rel m H w) : Good P m H w (execOp ρ o) r H' := by
  simp only [exec] at he
  split at he
  · rename_i hl
    cases hf : fillA (List.replicate len z).flatten ((elemPartsA n ps.toList).zip vs) with
    | none => rw [hf] at he; cases he
    | some cs =>
      rw [hf] at he
      simp only [Option.bind_some] at he
      split at he
      · cases he
        obtain ⟨i, v, hi, hv', hs, hrel⟩ := zero_cells (m := m) (H := H) hz
        have hin : i.size = n := by unfold sizeA at hsz; rw [hi] at hsz; simpa using hsz
        have hzn : z.length = n := by have := hrel.length; rw [Array.length_toList] at this; omega
        have hz0 : ∃ A : Array Value, (len * n = 0 → A = #[]) ∧ (len * n ≠ 0 → A = v.cells) ∧
            VRelL m H (List.replicate len z).flatten ((Array.range (len * n)).map fun x => A[x % A.size]!).toList := by
          by_cases h0 : len * n = 0
          · refine ⟨#[], fun _ => rfl, fun h => absurd h0 h, ?_⟩
            refine .of_get (by simp [List.length_flatten, hzn]) fun j u hj => ?_
            have := (List.getElem?_eq_some_iff.1 hj).1
            simp [List.length_flatten, hzn, h0] at this
          · exact ⟨v.cells, fun h => absurd h h0, fun _ => rfl, zeros_rel hrel hzn⟩
        obtain ⟨A, hA0, hA1, hA2⟩ := hz0
        have hpl : ps.toList.map (fun p => (fun i => some (i * n, n)) p.1) = (elemPartsA n ps.toList).map some := by simp [elemPartsA]
        obtain ⟨c', hc1, hc2⟩ := fill_ok (fun i => some (i * n, n)) ps.toList (elemPartsA n ps.toList) vs _ cs ((Array.range (len * n)).map fun x => A[x % A.size]!) ρ hpl hf hl hA2 hv
        have harr : (ps.map fun x => match x with | (i, x) => (i, ρ x)).toList = ps.toList.map fun p => (p.1, ρ p.2) := by
          rw [show (ps.map fun x => match x with | (i, x) => (i, ρ x)) = ps.map fun (x : Nat × Operand) => (x.1, ρ x.2) from rfl]; simp
        obtain ⟨h1, h2⟩ := hr.newRow n cs c'.toList [] el hc2
        refine ⟨_, _, .slice (some ⟨w.heap.size, 0, none⟩) len len, .inl ?_, ?_, h1, h2⟩
        · have hgt : ¬ (len * n > 2 ^ 24) := by omega
          simp only [execOp, e, Instr.buildSlice, Sem.run_bind, run_under ht, Result.andThen_ok, run_sizeOf hsz, hgt, if_false, harr]
          by_cases h0 : len * n = 0
          · have hAe := hA0 h0
            subst hAe
            simp only [h0, if_true, Sem.run_bind, Sem.run_pure, Result.andThen_ok]
            rw [h0] at hc1
            rw [hc1]
            simp [newRow]
          · have hAe := hA1 h0
            subst hAe
            simp only [h0, if_false, Sem.run_bind, run_zeroValue hi hv', Sem.run_pure, Result.andThen_ok]
            rw [hc1]
            simp [newRow]
        · simp only [VRel]
          refine ⟨_, _, rfl, by simp, Nat.le_refl _, fun k hk => by cases hk; rfl, fun hpos ob hob => ?_⟩
          rw [mput_same]
          exact ⟨rfl, fun _ _ _ hcc => by cases hcc⟩
      · cases he
  · cases he
end
end Go.Proofs.YtkmaikggdbielaaGreatDoor.Fw
