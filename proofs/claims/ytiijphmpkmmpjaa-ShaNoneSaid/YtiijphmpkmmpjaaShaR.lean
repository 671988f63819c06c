import Derived.Test.YtiijphmpkmmpjaaShaQ
namespace Go.Proofs.Ytiijphmpkmmpjaa
open Go Go.Am
set_option maxRecDepth 100000
set_option linter.unusedVariables false
set_option linter.unusedSimpArgs false
theorem loop_rel {P : Program} {S : Specs} {F : Nat → List Nat} {b : PC} {id c N : Nat} {R : Nat → St → Prop} {E : St → Prop} (hs : ∀ t, t < N → ∀ st, R t st → ∀ k, ∃ st', evP P S F (k + c) (.inl b) st = some (.normal, st') ∧ R (t + 1) st')
    (he : ∀ st, R N st → ∀ k, ∃ st', evP P S F (k + c) (.inl b) st = some (.exit id, st') ∧ E st') : ∀ j t k st, t + j = N → R t st → ∃ st', evP P S F (k + c + j + 1) (.inl (.loop b)) st = some (.exit id, st') ∧ E st'
  | 0, t, k, st, hN, hR => by
    have : t = N := by omega
    subst this
    obtain ⟨st', h1, h2⟩ := he st hR k
    exact ⟨st', by show evP P S F (k + c + 1) (.inl (.loop b)) st = _; rw [evP_loop, h1], h2⟩
  | j + 1, t, k, st, hN, hR => by
    obtain ⟨st1, h1, h2⟩ := hs t (by omega) st hR (k + (j + 1))
    rw [show k + (j + 1) + c = k + c + (j + 1) by omega] at h1
    obtain ⟨st', h3, h4⟩ := loop_rel hs he j (t + 1) k st1 (by omega) h2
    exact ⟨st', by show evP P S F (k + c + (j + 1) + 1) (.inl (.loop b)) st = _; rw [evP_loop, h1]; exact h3, h4⟩
/-- A block of its own, behind all that was there. -/
def Own (h0 h : AHeap) (k : Nat) : Prop := h0.length ≤ k ∧ h0.length ≤ h.length ∧ ∀ i, i < h0.length → h[i]? = h0[i]?
theorem own_push {h0 h : AHeap} {k : Nat} (ho : Own h0 h k) (x y : AObj) : Own h0 (h.set k .dead ++ [x, y]) (h.length + 1) := by
  obtain ⟨h1, h2, h3⟩ := ho
  refine ⟨by omega, by simp; omega, fun i hi => ?_⟩
  rw [List.getElem?_append_left (by simp; omega), List.getElem?_set_ne (by omega)]
  exact h3 i hi
theorem push_at (h : AHeap) (k : Nat) (x y : AObj) : (h.set k .dead ++ [x, y])[h.length + 1]? = some y := by
  rw [List.getElem?_append_right (by simp)]
  simp
def zer (t : Nat) : List AV := .int .u8 128 :: List.replicate t (.int .u8 0)
def bytesI (bits : Int) : Nat → List AV
  | 0 => []
  | t + 1 => bytesI bits t ++ [.int .u8 (byteI bits (56 - 8 * t))]

/-! ### p15 as a whole -/
def R1_15 (n : Int) (h0 : AHeap) (t : Nat) (st : St) : Prop := ∃ k, forget (F15 4) (st.1, st.2) = (canon15 n (.sl (some (k, 0)) (1 + t) (.rel 0)), st.2) ∧ Own h0 st.2 k ∧ st.2[k]? = some (.row 5 1 (zer t))
theorem loop1_15 (P : Program) (S : Specs) (n : Int) (h0 : AHeap) (j : Nat) (hj : j ≤ 64) (h1 : ∀ i, i < j → padC n ((1 + i : Nat) : Int) = true) (h2 : padC n ((1 + j : Nat) : Int) = false) (st : St) (hR : R1_15 n h0 0 st) :
    ∃ k h, evP P S F15 100 (.inl (.block 0 (.loop p15_l1))) st = some (.normal, (E4_15 n (.sl (some (k, 0)) (1 + j) (.rel 0)) ((1 + j : Nat) : Int) false, h)) ∧ Own h0 h k ∧ h[k]? = some (.row 5 1 (zer j)) := by
  obtain ⟨st', h3, k, h, rfl, h4, h5⟩ := loop_rel (P := P) (S := S) (F := F15) (b := p15_l1) (id := 0) (c := 6) (N := j) (R := R1_15 n h0) (E := fun st => ∃ k h, st = (E4_15 n (.sl (some (k, 0)) (1 + j) (.rel 0)) ((1 + j : Nat) : Int) false, h) ∧ Own h0 h k ∧ h[k]? = some (.row 5 1 (zer j)))
    (fun t ht st hR c => by
      obtain ⟨env, h⟩ := st
      obtain ⟨k, hf, ho, hk⟩ := hR
      refine ⟨_, go_15 (P := P) (S := S) (c := c) hf (h1 t ht) hk (by simp [zer]; omega) (by omega), h.length + 1, ?_, own_push ho _ _, ?_⟩
      · rw [show 1 + (t + 1) = 1 + t + 1 by omega]; exact again_15 n k (1 + t) h.length _
      · rw [push_at]; simp [zer, List.replicate_succ', List.append_assoc])
    (fun st hR c => by
      obtain ⟨env, h⟩ := st
      obtain ⟨k, hf, ho, hk⟩ := hR
      exact ⟨_, stop_15 (P := P) (S := S) (c := c) hf h2, k, h, rfl, ho, hk⟩) j 0 0 st (by omega) hR
  exact ⟨k, h, evP_le (block_exit h3) (by omega), h4, h5⟩
def R2_15 (bits : Int) (h0 : AHeap) (L0 : Nat) (cs0 : List AV) (t : Nat) (st : St) : Prop := ∃ k, forget (F15 8) (st.1, st.2) = (canon8_15 bits k (L0 + t) t, st.2) ∧ Own h0 st.2 k ∧ st.2[k]? = some (.row 5 1 (cs0 ++ bytesI bits t))
theorem s2_15_0 (P : Program) (S : Specs) (bits : Int) (h0 : AHeap) (L0 : Nat) (cs0 : List AV) (hL : cs0.length = L0) (hb : L0 < 900) (st : St) (hR : R2_15 bits h0 L0 cs0 0 st) (c : Nat) : ∃ st', evP P S F15 (c + 12) (.inl p15_l0) st = some (.normal, st') ∧ R2_15 bits h0 L0 cs0 1 st' := by
  obtain ⟨env, h⟩ := st
  obtain ⟨k, hf, ho, hk⟩ := hR
  refine ⟨_, by15_0 (P := P) (S := S) (c := c) hf hk (by simp [bytesI]; omega) (by omega), h.length + 1, on15_0 bits k (L0 + 0) h _, own_push ho _ _, ?_⟩
  rw [push_at, List.append_assoc]; rfl
theorem s2_15_1 (P : Program) (S : Specs) (bits : Int) (h0 : AHeap) (L0 : Nat) (cs0 : List AV) (hL : cs0.length = L0) (hb : L0 < 900) (st : St) (hR : R2_15 bits h0 L0 cs0 1 st) (c : Nat) : ∃ st', evP P S F15 (c + 12) (.inl p15_l0) st = some (.normal, st') ∧ R2_15 bits h0 L0 cs0 2 st' := by
  obtain ⟨env, h⟩ := st
  obtain ⟨k, hf, ho, hk⟩ := hR
  refine ⟨_, by15_1 (P := P) (S := S) (c := c) hf hk (by simp [bytesI]; omega) (by omega), h.length + 1, on15_1 bits k (L0 + 1) h _, own_push ho _ _, ?_⟩
  rw [push_at, List.append_assoc]; rfl
theorem s2_15_2 (P : Program) (S : Specs) (bits : Int) (h0 : AHeap) (L0 : Nat) (cs0 : List AV) (hL : cs0.length = L0) (hb : L0 < 900) (st : St) (hR : R2_15 bits h0 L0 cs0 2 st) (c : Nat) : ∃ st', evP P S F15 (c + 12) (.inl p15_l0) st = some (.normal, st') ∧ R2_15 bits h0 L0 cs0 3 st' := by
  obtain ⟨env, h⟩ := st
  obtain ⟨k, hf, ho, hk⟩ := hR
  refine ⟨_, by15_2 (P := P) (S := S) (c := c) hf hk (by simp [bytesI]; omega) (by omega), h.length + 1, on15_2 bits k (L0 + 2) h _, own_push ho _ _, ?_⟩
  rw [push_at, List.append_assoc]; rfl
theorem s2_15_3 (P : Program) (S : Specs) (bits : Int) (h0 : AHeap) (L0 : Nat) (cs0 : List AV) (hL : cs0.length = L0) (hb : L0 < 900) (st : St) (hR : R2_15 bits h0 L0 cs0 3 st) (c : Nat) : ∃ st', evP P S F15 (c + 12) (.inl p15_l0) st = some (.normal, st') ∧ R2_15 bits h0 L0 cs0 4 st' := by
  obtain ⟨env, h⟩ := st
  obtain ⟨k, hf, ho, hk⟩ := hR
  refine ⟨_, by15_3 (P := P) (S := S) (c := c) hf hk (by simp [bytesI]; omega) (by omega), h.length + 1, on15_3 bits k (L0 + 3) h _, own_push ho _ _, ?_⟩
  rw [push_at, List.append_assoc]; rfl
theorem s2_15_4 (P : Program) (S : Specs) (bits : Int) (h0 : AHeap) (L0 : Nat) (cs0 : List AV) (hL : cs0.length = L0) (hb : L0 < 900) (st : St) (hR : R2_15 bits h0 L0 cs0 4 st) (c : Nat) : ∃ st', evP P S F15 (c + 12) (.inl p15_l0) st = some (.normal, st') ∧ R2_15 bits h0 L0 cs0 5 st' := by
  obtain ⟨env, h⟩ := st
  obtain ⟨k, hf, ho, hk⟩ := hR
  refine ⟨_, by15_4 (P := P) (S := S) (c := c) hf hk (by simp [bytesI]; omega) (by omega), h.length + 1, on15_4 bits k (L0 + 4) h _, own_push ho _ _, ?_⟩
  rw [push_at, List.append_assoc]; rfl
theorem s2_15_5 (P : Program) (S : Specs) (bits : Int) (h0 : AHeap) (L0 : Nat) (cs0 : List AV) (hL : cs0.length = L0) (hb : L0 < 900) (st : St) (hR : R2_15 bits h0 L0 cs0 5 st) (c : Nat) : ∃ st', evP P S F15 (c + 12) (.inl p15_l0) st = some (.normal, st') ∧ R2_15 bits h0 L0 cs0 6 st' := by
  obtain ⟨env, h⟩ := st
  obtain ⟨k, hf, ho, hk⟩ := hR
  refine ⟨_, by15_5 (P := P) (S := S) (c := c) hf hk (by simp [bytesI]; omega) (by omega), h.length + 1, on15_5 bits k (L0 + 5) h _, own_push ho _ _, ?_⟩
  rw [push_at, List.append_assoc]; rfl
theorem s2_15_6 (P : Program) (S : Specs) (bits : Int) (h0 : AHeap) (L0 : Nat) (cs0 : List AV) (hL : cs0.length = L0) (hb : L0 < 900) (st : St) (hR : R2_15 bits h0 L0 cs0 6 st) (c : Nat) : ∃ st', evP P S F15 (c + 12) (.inl p15_l0) st = some (.normal, st') ∧ R2_15 bits h0 L0 cs0 7 st' := by
  obtain ⟨env, h⟩ := st
  obtain ⟨k, hf, ho, hk⟩ := hR
  refine ⟨_, by15_6 (P := P) (S := S) (c := c) hf hk (by simp [bytesI]; omega) (by omega), h.length + 1, on15_6 bits k (L0 + 6) h _, own_push ho _ _, ?_⟩
  rw [push_at, List.append_assoc]; rfl
theorem s2_15_7 (P : Program) (S : Specs) (bits : Int) (h0 : AHeap) (L0 : Nat) (cs0 : List AV) (hL : cs0.length = L0) (hb : L0 < 900) (st : St) (hR : R2_15 bits h0 L0 cs0 7 st) (c : Nat) : ∃ st', evP P S F15 (c + 12) (.inl p15_l0) st = some (.normal, st') ∧ R2_15 bits h0 L0 cs0 8 st' := by
  obtain ⟨env, h⟩ := st
  obtain ⟨k, hf, ho, hk⟩ := hR
  refine ⟨_, by15_7 (P := P) (S := S) (c := c) hf hk (by simp [bytesI]; omega) (by omega), h.length + 1, on15_7 bits k (L0 + 7) h _, own_push ho _ _, ?_⟩
  rw [push_at, List.append_assoc]; rfl
theorem end2_15 (P : Program) (S : Specs) (bits : Int) (h0 : AHeap) (L0 : Nat) (cs0 : List AV) (st : St) (hR : R2_15 bits h0 L0 cs0 8 st) (c : Nat) : ∃ st', evP P S F15 (c + 12) (.inl p15_l0) st = some (.exit 2, st') ∧ ∃ k h, st' = ([.any, .any, .sl none 0 (.fix 0), .sl (some (k, 0)) (L0 + 8) (.rel 0), .int .u64 bits, .any, .any, .any, .any, .any, .any, .any, .any, .any, .any, .any, .any, .any, .any, .any, .any, .any, .any, .int .i64 8, .bool false, .any, .any, .any, .any, .any, .any, .any, .any, .any, .any, .any, .any], h) ∧ Own h0 h k ∧ h[k]? = some (.row 5 1 (cs0 ++ bytesI bits 8)) := by
  obtain ⟨env, h⟩ := st
  obtain ⟨k, hf, ho, hk⟩ := hR
  refine ⟨_, ?_, k, h, rfl, ho, hk⟩
  have h8 : evP P S F15 (c + 11) (.inl (.ops 8 0 (opsAt (partAt p15_l0 0)))) (env, h) = some (.normal, ([.any, .any, .sl none 0 (.fix 0), .sl (some (k, 0)) (L0 + 8) (.rel 0), .int .u64 bits, .any, .any, .any, .any, .any, .any, .any, .any, .any, .any, .any, .any, .any, .any, .any, .any, .any, .any, .int .i64 8, .bool false, .any, .any, .any, .any, .any, .any, .any, .any, .any, .any, .any, .any], h)) := by
    refine region_run (n := c + 10) ?_
    rw [hf]
    have : evalOpsR P S h.length (opsAt (partAt p15_l0 0)) (withHoles 0 (canon8_15 bits k (L0 + 8) 8, h)) = some ([.any, .any, .sl none 0 (.fix 0), .sl (some (k, 0)) (L0 + 8) (.rel 0), .int .u64 bits, .any, .any, .any, .any, .any, .any, .any, .any, .any, .any, .any, .any, .any, .any, .any, .any, .any, .any, .int .i64 8, .bool false, .any, .any, .any, .any, .any, .any, .any, .any, .any, .any, .any, .any], h ++ []) := by kernel_rfl
    rw [List.append_nil] at this
    exact this
  exact seq_run (n := c + 11) h8 rfl
theorem loop2_15 (P : Program) (S : Specs) (bits : Int) (h0 : AHeap) (L0 : Nat) (cs0 : List AV) (hL : cs0.length = L0) (hb : L0 < 900) (st : St) (hR : R2_15 bits h0 L0 cs0 0 st) :
    ∃ k h, evP P S F15 100 (.inl (.block 2 (.loop p15_l0))) st = some (.normal, ([.any, .any, .sl none 0 (.fix 0), .sl (some (k, 0)) (L0 + 8) (.rel 0), .int .u64 bits, .any, .any, .any, .any, .any, .any, .any, .any, .any, .any, .any, .any, .any, .any, .any, .any, .any, .any, .int .i64 8, .bool false, .any, .any, .any, .any, .any, .any, .any, .any, .any, .any, .any, .any], h)) ∧ Own h0 h k ∧ h[k]? = some (.row 5 1 (cs0 ++ bytesI bits 8)) := by
  obtain ⟨st', h3, k, h, rfl, h4, h5⟩ := loop_rel (P := P) (S := S) (F := F15) (b := p15_l0) (id := 2) (c := 12) (N := 8) (R := R2_15 bits h0 L0 cs0) (E := fun st' => ∃ k h, st' = ([.any, .any, .sl none 0 (.fix 0), .sl (some (k, 0)) (L0 + 8) (.rel 0), .int .u64 bits, .any, .any, .any, .any, .any, .any, .any, .any, .any, .any, .any, .any, .any, .any, .any, .any, .any, .any, .int .i64 8, .bool false, .any, .any, .any, .any, .any, .any, .any, .any, .any, .any, .any, .any], h) ∧ Own h0 h k ∧ h[k]? = some (.row 5 1 (cs0 ++ bytesI bits 8)))
    (fun t ht st hR c => by
      match t, ht with
      | 0, _ => exact s2_15_0 P S bits h0 L0 cs0 hL hb st hR c
      | 1, _ => exact s2_15_1 P S bits h0 L0 cs0 hL hb st hR c
      | 2, _ => exact s2_15_2 P S bits h0 L0 cs0 hL hb st hR c
      | 3, _ => exact s2_15_3 P S bits h0 L0 cs0 hL hb st hR c
      | 4, _ => exact s2_15_4 P S bits h0 L0 cs0 hL hb st hR c
      | 5, _ => exact s2_15_5 P S bits h0 L0 cs0 hL hb st hR c
      | 6, _ => exact s2_15_6 P S bits h0 L0 cs0 hL hb st hR c
      | 7, _ => exact s2_15_7 P S bits h0 L0 cs0 hL hb st hR c
      | t + 8, ht => omega)
    (fun st hR c => end2_15 P S bits h0 L0 cs0 st hR c) 8 0 0 st (by omega) hR
  exact ⟨k, h, evP_le (block_exit h3) (by omega), h4, h5⟩

/-! ### p16 as a whole -/
def R1_16 (n : Int) (h0 : AHeap) (t : Nat) (st : St) : Prop := ∃ k, forget (F16 4) (st.1, st.2) = (canon16 n (.sl (some (k, 0)) (1 + t) (.rel 0)), st.2) ∧ Own h0 st.2 k ∧ st.2[k]? = some (.row 5 1 (zer t))
theorem loop1_16 (P : Program) (S : Specs) (n : Int) (h0 : AHeap) (j : Nat) (hj : j ≤ 64) (h1 : ∀ i, i < j → padC n ((1 + i : Nat) : Int) = true) (h2 : padC n ((1 + j : Nat) : Int) = false) (st : St) (hR : R1_16 n h0 0 st) :
    ∃ k h, evP P S F16 100 (.inl (.block 0 (.loop p16_l1))) st = some (.normal, (E4_16 n (.sl (some (k, 0)) (1 + j) (.rel 0)) ((1 + j : Nat) : Int) false, h)) ∧ Own h0 h k ∧ h[k]? = some (.row 5 1 (zer j)) := by
  obtain ⟨st', h3, k, h, rfl, h4, h5⟩ := loop_rel (P := P) (S := S) (F := F16) (b := p16_l1) (id := 0) (c := 6) (N := j) (R := R1_16 n h0) (E := fun st => ∃ k h, st = (E4_16 n (.sl (some (k, 0)) (1 + j) (.rel 0)) ((1 + j : Nat) : Int) false, h) ∧ Own h0 h k ∧ h[k]? = some (.row 5 1 (zer j)))
    (fun t ht st hR c => by
      obtain ⟨env, h⟩ := st
      obtain ⟨k, hf, ho, hk⟩ := hR
      refine ⟨_, go_16 (P := P) (S := S) (c := c) hf (h1 t ht) hk (by simp [zer]; omega) (by omega), h.length + 1, ?_, own_push ho _ _, ?_⟩
      · rw [show 1 + (t + 1) = 1 + t + 1 by omega]; exact again_16 n k (1 + t) h.length _
      · rw [push_at]; simp [zer, List.replicate_succ', List.append_assoc])
    (fun st hR c => by
      obtain ⟨env, h⟩ := st
      obtain ⟨k, hf, ho, hk⟩ := hR
      exact ⟨_, stop_16 (P := P) (S := S) (c := c) hf h2, k, h, rfl, ho, hk⟩) j 0 0 st (by omega) hR
  exact ⟨k, h, evP_le (block_exit h3) (by omega), h4, h5⟩
def R2_16 (bits : Int) (h0 : AHeap) (L0 : Nat) (cs0 : List AV) (t : Nat) (st : St) : Prop := ∃ k, forget (F16 8) (st.1, st.2) = (canon8_16 bits k (L0 + t) t, st.2) ∧ Own h0 st.2 k ∧ st.2[k]? = some (.row 5 1 (cs0 ++ bytesI bits t))
theorem s2_16_0 (P : Program) (S : Specs) (bits : Int) (h0 : AHeap) (L0 : Nat) (cs0 : List AV) (hL : cs0.length = L0) (hb : L0 < 900) (st : St) (hR : R2_16 bits h0 L0 cs0 0 st) (c : Nat) : ∃ st', evP P S F16 (c + 12) (.inl p16_l0) st = some (.normal, st') ∧ R2_16 bits h0 L0 cs0 1 st' := by
  obtain ⟨env, h⟩ := st
  obtain ⟨k, hf, ho, hk⟩ := hR
  refine ⟨_, by16_0 (P := P) (S := S) (c := c) hf hk (by simp [bytesI]; omega) (by omega), h.length + 1, on16_0 bits k (L0 + 0) h _, own_push ho _ _, ?_⟩
  rw [push_at, List.append_assoc]; rfl
theorem s2_16_1 (P : Program) (S : Specs) (bits : Int) (h0 : AHeap) (L0 : Nat) (cs0 : List AV) (hL : cs0.length = L0) (hb : L0 < 900) (st : St) (hR : R2_16 bits h0 L0 cs0 1 st) (c : Nat) : ∃ st', evP P S F16 (c + 12) (.inl p16_l0) st = some (.normal, st') ∧ R2_16 bits h0 L0 cs0 2 st' := by
  obtain ⟨env, h⟩ := st
  obtain ⟨k, hf, ho, hk⟩ := hR
  refine ⟨_, by16_1 (P := P) (S := S) (c := c) hf hk (by simp [bytesI]; omega) (by omega), h.length + 1, on16_1 bits k (L0 + 1) h _, own_push ho _ _, ?_⟩
  rw [push_at, List.append_assoc]; rfl
theorem s2_16_2 (P : Program) (S : Specs) (bits : Int) (h0 : AHeap) (L0 : Nat) (cs0 : List AV) (hL : cs0.length = L0) (hb : L0 < 900) (st : St) (hR : R2_16 bits h0 L0 cs0 2 st) (c : Nat) : ∃ st', evP P S F16 (c + 12) (.inl p16_l0) st = some (.normal, st') ∧ R2_16 bits h0 L0 cs0 3 st' := by
  obtain ⟨env, h⟩ := st
  obtain ⟨k, hf, ho, hk⟩ := hR
  refine ⟨_, by16_2 (P := P) (S := S) (c := c) hf hk (by simp [bytesI]; omega) (by omega), h.length + 1, on16_2 bits k (L0 + 2) h _, own_push ho _ _, ?_⟩
  rw [push_at, List.append_assoc]; rfl
theorem s2_16_3 (P : Program) (S : Specs) (bits : Int) (h0 : AHeap) (L0 : Nat) (cs0 : List AV) (hL : cs0.length = L0) (hb : L0 < 900) (st : St) (hR : R2_16 bits h0 L0 cs0 3 st) (c : Nat) : ∃ st', evP P S F16 (c + 12) (.inl p16_l0) st = some (.normal, st') ∧ R2_16 bits h0 L0 cs0 4 st' := by
  obtain ⟨env, h⟩ := st
  obtain ⟨k, hf, ho, hk⟩ := hR
  refine ⟨_, by16_3 (P := P) (S := S) (c := c) hf hk (by simp [bytesI]; omega) (by omega), h.length + 1, on16_3 bits k (L0 + 3) h _, own_push ho _ _, ?_⟩
  rw [push_at, List.append_assoc]; rfl
theorem s2_16_4 (P : Program) (S : Specs) (bits : Int) (h0 : AHeap) (L0 : Nat) (cs0 : List AV) (hL : cs0.length = L0) (hb : L0 < 900) (st : St) (hR : R2_16 bits h0 L0 cs0 4 st) (c : Nat) : ∃ st', evP P S F16 (c + 12) (.inl p16_l0) st = some (.normal, st') ∧ R2_16 bits h0 L0 cs0 5 st' := by
  obtain ⟨env, h⟩ := st
  obtain ⟨k, hf, ho, hk⟩ := hR
  refine ⟨_, by16_4 (P := P) (S := S) (c := c) hf hk (by simp [bytesI]; omega) (by omega), h.length + 1, on16_4 bits k (L0 + 4) h _, own_push ho _ _, ?_⟩
  rw [push_at, List.append_assoc]; rfl
theorem s2_16_5 (P : Program) (S : Specs) (bits : Int) (h0 : AHeap) (L0 : Nat) (cs0 : List AV) (hL : cs0.length = L0) (hb : L0 < 900) (st : St) (hR : R2_16 bits h0 L0 cs0 5 st) (c : Nat) : ∃ st', evP P S F16 (c + 12) (.inl p16_l0) st = some (.normal, st') ∧ R2_16 bits h0 L0 cs0 6 st' := by
  obtain ⟨env, h⟩ := st
  obtain ⟨k, hf, ho, hk⟩ := hR
  refine ⟨_, by16_5 (P := P) (S := S) (c := c) hf hk (by simp [bytesI]; omega) (by omega), h.length + 1, on16_5 bits k (L0 + 5) h _, own_push ho _ _, ?_⟩
  rw [push_at, List.append_assoc]; rfl
theorem s2_16_6 (P : Program) (S : Specs) (bits : Int) (h0 : AHeap) (L0 : Nat) (cs0 : List AV) (hL : cs0.length = L0) (hb : L0 < 900) (st : St) (hR : R2_16 bits h0 L0 cs0 6 st) (c : Nat) : ∃ st', evP P S F16 (c + 12) (.inl p16_l0) st = some (.normal, st') ∧ R2_16 bits h0 L0 cs0 7 st' := by
  obtain ⟨env, h⟩ := st
  obtain ⟨k, hf, ho, hk⟩ := hR
  refine ⟨_, by16_6 (P := P) (S := S) (c := c) hf hk (by simp [bytesI]; omega) (by omega), h.length + 1, on16_6 bits k (L0 + 6) h _, own_push ho _ _, ?_⟩
  rw [push_at, List.append_assoc]; rfl
theorem s2_16_7 (P : Program) (S : Specs) (bits : Int) (h0 : AHeap) (L0 : Nat) (cs0 : List AV) (hL : cs0.length = L0) (hb : L0 < 900) (st : St) (hR : R2_16 bits h0 L0 cs0 7 st) (c : Nat) : ∃ st', evP P S F16 (c + 12) (.inl p16_l0) st = some (.normal, st') ∧ R2_16 bits h0 L0 cs0 8 st' := by
  obtain ⟨env, h⟩ := st
  obtain ⟨k, hf, ho, hk⟩ := hR
  refine ⟨_, by16_7 (P := P) (S := S) (c := c) hf hk (by simp [bytesI]; omega) (by omega), h.length + 1, on16_7 bits k (L0 + 7) h _, own_push ho _ _, ?_⟩
  rw [push_at, List.append_assoc]; rfl
theorem end2_16 (P : Program) (S : Specs) (bits : Int) (h0 : AHeap) (L0 : Nat) (cs0 : List AV) (st : St) (hR : R2_16 bits h0 L0 cs0 8 st) (c : Nat) : ∃ st', evP P S F16 (c + 12) (.inl p16_l0) st = some (.exit 2, st') ∧ ∃ k h, st' = ([.any, .any, .sl none 0 (.fix 0), .sl (some (k, 0)) (L0 + 8) (.rel 0), .int .u64 bits, .int .i64 (-8), .any, .any, .any, .any, .any, .any, .any, .any, .any, .any, .any, .any, .any, .any, .any, .any, .any, .int .i64 (-8), .bool false, .any, .any, .any, .any, .any, .any, .any, .any, .any, .any], h) ∧ Own h0 h k ∧ h[k]? = some (.row 5 1 (cs0 ++ bytesI bits 8)) := by
  obtain ⟨env, h⟩ := st
  obtain ⟨k, hf, ho, hk⟩ := hR
  refine ⟨_, ?_, k, h, rfl, ho, hk⟩
  have h8 : evP P S F16 (c + 10) (.inl (.ops 8 0 (opsAt (partAt (partAt p16_l0 0) 0)))) (env, h) = some (.normal, ([.any, .any, .sl none 0 (.fix 0), .sl (some (k, 0)) (L0 + 8) (.rel 0), .int .u64 bits, .int .i64 (-8), .any, .any, .any, .any, .any, .any, .any, .any, .any, .any, .any, .any, .any, .any, .any, .any, .any, .int .i64 (-8), .bool false, .any, .any, .any, .any, .any, .any, .any, .any, .any, .any], h)) := by
    refine region_run (n := c + 9) ?_
    rw [hf]
    have : evalOpsR P S h.length (opsAt (partAt (partAt p16_l0 0) 0)) (withHoles 0 (canon8_16 bits k (L0 + 8) 8, h)) = some ([.any, .any, .sl none 0 (.fix 0), .sl (some (k, 0)) (L0 + 8) (.rel 0), .int .u64 bits, .int .i64 (-8), .any, .any, .any, .any, .any, .any, .any, .any, .any, .any, .any, .any, .any, .any, .any, .any, .any, .int .i64 (-8), .bool false, .any, .any, .any, .any, .any, .any, .any, .any, .any, .any], h ++ []) := by kernel_rfl
    rw [List.append_nil] at this
    exact this
  show evP P S F16 (c + 11 + 1) (.inl (.seq (.seq (.ops 8 0 (opsAt (partAt (partAt p16_l0 0) 0))) (partAt (partAt p16_l0 0) 1)) (partAt p16_l0 1))) (env, h) = _
  rw [evP_seq, evP_seq, h8]
  rfl
theorem loop2_16 (P : Program) (S : Specs) (bits : Int) (h0 : AHeap) (L0 : Nat) (cs0 : List AV) (hL : cs0.length = L0) (hb : L0 < 900) (st : St) (hR : R2_16 bits h0 L0 cs0 0 st) :
    ∃ k h, evP P S F16 100 (.inl (.block 2 (.loop p16_l0))) st = some (.normal, ([.any, .any, .sl none 0 (.fix 0), .sl (some (k, 0)) (L0 + 8) (.rel 0), .int .u64 bits, .int .i64 (-8), .any, .any, .any, .any, .any, .any, .any, .any, .any, .any, .any, .any, .any, .any, .any, .any, .any, .int .i64 (-8), .bool false, .any, .any, .any, .any, .any, .any, .any, .any, .any, .any], h)) ∧ Own h0 h k ∧ h[k]? = some (.row 5 1 (cs0 ++ bytesI bits 8)) := by
  obtain ⟨st', h3, k, h, rfl, h4, h5⟩ := loop_rel (P := P) (S := S) (F := F16) (b := p16_l0) (id := 2) (c := 12) (N := 8) (R := R2_16 bits h0 L0 cs0) (E := fun st' => ∃ k h, st' = ([.any, .any, .sl none 0 (.fix 0), .sl (some (k, 0)) (L0 + 8) (.rel 0), .int .u64 bits, .int .i64 (-8), .any, .any, .any, .any, .any, .any, .any, .any, .any, .any, .any, .any, .any, .any, .any, .any, .any, .int .i64 (-8), .bool false, .any, .any, .any, .any, .any, .any, .any, .any, .any, .any], h) ∧ Own h0 h k ∧ h[k]? = some (.row 5 1 (cs0 ++ bytesI bits 8)))
    (fun t ht st hR c => by
      match t, ht with
      | 0, _ => exact s2_16_0 P S bits h0 L0 cs0 hL hb st hR c
      | 1, _ => exact s2_16_1 P S bits h0 L0 cs0 hL hb st hR c
      | 2, _ => exact s2_16_2 P S bits h0 L0 cs0 hL hb st hR c
      | 3, _ => exact s2_16_3 P S bits h0 L0 cs0 hL hb st hR c
      | 4, _ => exact s2_16_4 P S bits h0 L0 cs0 hL hb st hR c
      | 5, _ => exact s2_16_5 P S bits h0 L0 cs0 hL hb st hR c
      | 6, _ => exact s2_16_6 P S bits h0 L0 cs0 hL hb st hR c
      | 7, _ => exact s2_16_7 P S bits h0 L0 cs0 hL hb st hR c
      | t + 8, ht => omega)
    (fun st hR c => end2_16 P S bits h0 L0 cs0 st hR c) 8 0 0 st (by omega) hR
  exact ⟨k, h, evP_le (block_exit h3) (by omega), h4, h5⟩
end Go.Proofs.Ytiijphmpkmmpjaa
