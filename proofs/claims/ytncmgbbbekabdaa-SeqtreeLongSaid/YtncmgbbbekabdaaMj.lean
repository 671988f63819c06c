/- Written by merging: La Lb Lc Ld. -/
import Derived.Test.YtncmgbbbekabdaaMg
namespace Go.Proofs.Ytncmgbbbekabdaa
open Go Go.Am Go.RowKit
set_option maxRecDepth 100000
set_option linter.unusedVariables false
set_option linter.unusedSimpArgs false

/-- No side is more than three times as heavy as the other. -/
def Bal : TT → Prop
  | .nil => True
  | .node _ _ l r => l.n + 1 ≤ 3 * (r.n + 1) ∧ r.n + 1 ≤ 3 * (l.n + 1) ∧ Bal l ∧ Bal r
/-- One side one too heavy at most: balance puts it right. -/
theorem bal_ok {k : Nat} {id : Int} {l r : TT} (hl : Bal l) (hr : Bal r) (h1 : l.n + 1 ≤ 3 * (r.n + 1) + 1) (h2 : r.n + 1 ≤ 3 * (l.n + 1) + 1) : Bal (bal (.node k id l r)) := by
  by_cases c1 : r.n + 1 > 3 * (l.n + 1)
  · cases r with
    | nil => simp only [TT.n] at c1; omega
    | node rk rid rl rr =>
      obtain ⟨a1, a2, a3, a4⟩ := hr
      by_cases c2 : rl.n + 1 ≥ 2 * (rr.n + 1)
      · cases rl with
        | nil => simp only [TT.n] at c2; omega
        | node xk xid xl xr =>
          obtain ⟨b1, b2, b3, b4⟩ := a3
          simp only [bal, if_pos c1, if_pos c2, rotR, rotL]
          simp only [TT.n] at c1 c2 h1 h2 a1 a2
          simp only [Bal, TT.n]
          refine ⟨by omega, by omega, ⟨by omega, by omega, hl, b3⟩, by omega, by omega, b4, a4⟩
      · simp only [bal, if_pos c1, if_neg c2, rotL]
        simp only [TT.n] at c1 c2 h1 h2
        simp only [Bal, TT.n]
        refine ⟨by omega, by omega, ⟨by omega, by omega, hl, a3⟩, a4⟩
  · by_cases c2 : l.n + 1 > 3 * (r.n + 1)
    · cases l with
      | nil => simp only [TT.n] at c2; omega
      | node ak aid al ar =>
        obtain ⟨a1, a2, a3, a4⟩ := hl
        by_cases c3 : ar.n + 1 ≥ 2 * (al.n + 1)
        · cases ar with
          | nil => simp only [TT.n] at c3; omega
          | node xk xid xl xr =>
            obtain ⟨b1, b2, b3, b4⟩ := a4
            simp only [bal, if_neg c1, if_pos c2, if_pos c3, rotR, rotL]
            simp only [TT.n] at c1 c2 c3 h1 h2 a1 a2
            simp only [Bal, TT.n]
            refine ⟨by omega, by omega, ⟨by omega, by omega, a3, b3⟩, by omega, by omega, b4, hr⟩
        · simp only [bal, if_neg c1, if_pos c2, if_neg c3, rotR]
          simp only [TT.n] at c1 c2 c3 h1 h2
          simp only [Bal, TT.n]
          refine ⟨by omega, by omega, a3, by omega, by omega, a4, hr⟩
    · simp only [bal, if_neg c1, if_neg c2]
      exact ⟨by omega, by omega, hl, hr⟩
/-- What is around a place of this size is in balance. -/
def BalC : List Fr → Nat → Prop
  | [], _ => True
  | f :: fs, n => Bal f.sib ∧ n + 1 ≤ 3 * (f.sib.n + 1) ∧ f.sib.n + 1 ≤ 3 * (n + 1) ∧ BalC fs (n + f.sib.n + 1)
theorem insC_bal : ∀ (T : TT) (i : Nat) (ctx : List Fr), Bal T → BalC ctx T.n → BalC (insC i T ctx) 0
  | .nil, i, ctx, _, hc => hc
  | .node k id l r, i, ctx, ⟨h1, h2, h3, h4⟩, hc => by
    unfold insC
    simp only [TT.n] at hc
    split
    · exact insC_bal r _ _ h4 ⟨h3, h2, h1, by rw [show r.n + l.n + 1 = l.n + r.n + 1 by omega]; exact hc⟩
    · exact insC_bal l _ _ h3 ⟨h4, h1, h2, hc⟩
theorem upF_bal : ∀ (ctx : List Fr) (T : TT) (n : Nat), Bal T → T.n = n + 1 → BalC ctx n → Bal (upF ctx T)
  | [], T, n, h, _, _ => h
  | f :: fs, T, n, h, hn, ⟨h1, h2, h3, h4⟩ => by
    refine upF_bal fs _ (n + f.sib.n + 1) ?_ ?_ h4
    · unfold Fr.fill
      split
      · exact bal_ok h h1 (by omega) (by omega)
      · exact bal_ok h1 h (by omega) (by omega)
    · rw [bal_n, fill_n]; omega
theorem insF_bal {T : TT} (h : Bal T) (i x : Nat) (xid : Int) : Bal (insF i T x xid) := by
  unfold insF
  refine upF_bal _ _ 0 ?_ rfl (insC_bal T i [] h trivial)
  exact ⟨by simp [TT.n], by simp [TT.n], trivial, trivial⟩
/-- So deep at most. -/
theorem bal_depth : ∀ (b : Nat) (T : TT), Bal T → T.n + 1 ≤ 2 ^ b → T.depth ≤ 3 * b
  | 0, T, h, hn => by
    cases T with
    | nil => simp [TT.depth]
    | node k id l r => simp only [TT.n] at hn; omega
  | b + 1, T, h, hn => by
    have hp : 2 ^ (b + 1) = 2 * 2 ^ b := by rw [Nat.pow_succ]; omega
    rw [hp] at hn
    have step : ∀ T : TT, Bal T → ∀ w d : Nat, T.n + 1 ≤ w → (∀ S : TT, Bal S → 4 * (S.n + 1) ≤ 3 * w → S.depth ≤ d) → T.depth ≤ d + 1 := fun T hT w d hw hS => by
      cases T with
      | nil => simp [TT.depth]
      | node k id l r =>
        obtain ⟨h1, h2, h3, h4⟩ := hT
        simp only [TT.n] at hw
        have e1 := hS l h3 (by omega)
        have e2 := hS r h4 (by omega)
        simp only [TT.depth]
        omega
    have := step T h (2 * 2 ^ b) (3 * b + 2) hn fun S hS hw => ?_
    · omega
    · refine step S hS (S.n + 1) (3 * b + 1) (Nat.le_refl _) fun S2 hS2 hw2 => ?_
      refine step S2 hS2 (S2.n + 1) (3 * b) (Nat.le_refl _) fun S3 hS3 hw3 => ?_
      exact bal_depth b S3 hS3 (by omega)
/-- How many bits. -/
def bitsN (n : Nat) : Nat := if h : n = 0 then 0 else bitsN (n / 2) + 1
termination_by n
decreasing_by omega
theorem bitsN_lt : ∀ n : Nat, n + 1 ≤ 2 ^ bitsN n := by
  intro n
  induction n using Nat.strongRecOn with
  | _ n ih =>
    unfold bitsN
    split
    · rename_i h; subst h; decide
    · rename_i h
      have := ih (n / 2) (by omega)
      rw [Nat.pow_succ]
      omega
def e12 (n k : Int) : List AV := envOf 11 [(0, .int .i64 n), (3, .int .i64 k)]
def n12 : Tidy := ⟨dropT 11 [0, 3], .all⟩
def x12 : Tidy := ⟨dropT 11 [3], .all⟩
noncomputable def B12 (b : Nat) : Cfg := { CT tbQ [] [] with b0 := b }
def T12 (a r : Int) (st : St) (K : AExit → St → Prop) : Prop := ∃ H, st = (e12 a 0, H) ∧ K (.exit 0) (envOf 11 [(3, .int .i64 r)], H)
noncomputable def C12 (a r : Int) : Cfg := { CT tbQ [] [] with
  lw := fun id => if id = 2 then some (T12 a r) else none
  F := fun id => if id = 2 then n12 else ⟨[], .all⟩ }
theorem bits_vc (h : AHeap) (a r : Int) (R : AV → AHeap → Prop) : (∃ (H : AHeap), (envOf 11 [(0, AV.int .i64 a), (3, AV.int .i64 0)], h) = (envOf 11 [(0, AV.int .i64 a), (3, AV.int .i64 0)], H) ∧ R (AV.int .i64 r) H) = (wpF Try.prog (C12 a r) 40 p12 [.int .i64 a] h R) := by kernel_rfl
theorem bits_body (h : AHeap) (n k : Int) (b : Nat) (K : AExit → St → Prop) : (askB (decide (n > 0)) (K AExit.normal (envOf 11 [(0, AV.int .i64 (IntKind.wrap .i64 (Int.tdiv n 2))), (3, AV.int .i64 (IntKind.wrap .i64 (k + 1)))], h)) (K (AExit.exit 0) (envOf 11 [(3, AV.int .i64 k)], h))) = (wpP Try.prog (B12 b) 40 (.inl p12_l0) (e12 n k, h) (postW (B12 b) n12 x12 K)) := by kernel_rfl
theorem bitsN_le (n : Nat) : bitsN n ≤ n := by
  induction n using Nat.strongRecOn with
  | _ n ih =>
    unfold bitsN
    split
    · omega
    · have := ih (n / 2) (by omega)
      omega
theorem bits_loop {h : AHeap} {r : Nat} {b : Nat} (hr : r ≤ 1000000) (s : Nat × Nat) (hs : s.2 + bitsN s.1 = r ∧ s.1 ≤ 1000000) : W Try.prog (B12 b).S b (.inl (.loop p12_l0)) (e12 s.1 s.2, h) fun e st => e = .exit 0 ∧ st = (envOf 11 [(3, .int .i64 r)], h) := by
  refine W_rounds (C := B12 b) (CU_cw (ks := []) tabsQ) (a := p12_l0) (no_parts rfl) (fun s : Nat × Nat => (e12 s.1 s.2, h)) (fun s => s.2 + bitsN s.1 = r ∧ s.1 ≤ 1000000) (fun s => s.1) (fun _ e st => e = .exit 0 ∧ st = (envOf 11 [(3, .int .i64 r)], h)) n12 x12 ?_ s hs
  rintro ⟨n, k⟩ ⟨h1, h2⟩
  refine ⟨40, ?_⟩
  dsimp only at h1 h2 ⊢
  rw [← bits_body]
  refine askI (fun hc => ?_) (fun hc => ?_)
  · simp only [gt_iff_lt, decide_eq_true_eq] at hc
    have h3 : bitsN n = bitsN (n / 2) + 1 := by rw [bitsN, dif_neg (by omega)]
    have e1 : IntKind.wrap .i64 (Int.tdiv (n : Int) 2) = ((n / 2 : Nat) : Int) := by
      have : Int.tdiv (n : Int) 2 = ((n / 2 : Nat) : Int) := by
        rw [Int.tdiv_eq_ediv_of_nonneg (by omega)]; omega
      rw [this, wrap_small (by omega) (by omega)]
    have e2 : IntKind.wrap .i64 ((k : Int) + 1) = ((k + 1 : Nat) : Int) := by rw [wrap_small (by omega) (by omega)]; omega
    rw [e1, e2]
    refine ⟨(n / 2, k + 1), rfl, ⟨?_, ?_⟩, ?_, fun _ _ h => h⟩
    · dsimp only; omega
    · dsimp only; omega
    · dsimp only; omega
  · simp only [gt_iff_lt, decide_eq_false_iff_not] at hc
    have h0 : n = 0 := by omega
    subst h0
    have h3 : bitsN 0 = 0 := by rw [bitsN, dif_pos rfl]
    rw [h3, Nat.add_zero] at h1
    subst h1
    exact ⟨rfl, rfl⟩
def sBits : List AV → AHeap → Option AV
  | [.int .i64 a], _ => if 0 ≤ a ∧ a ≤ 1000000 then some (.int .i64 (bitsN a.toNat)) else none
  | _, _ => none
theorem bits_ok : QuietOK Try.prog 12 sBits := by
  refine quiet_here ht12 (fun args h v hv => ?_) (fun args h k o hk ha => ?_)
  · unfold sBits at hv
    split at hv
    · rename_i a
      split at hv
      · rename_i hc
        cases hv
        obtain ⟨n, rfl⟩ : ∃ n : Nat, a = n := ⟨a.toNat, by omega⟩
        have hb := bitsN_le n
        obtain ⟨v, h', ⟨rfl, rfl⟩, hs⟩ := sem_vc (R := fun v h' => v = .int .i64 (bitsN n) ∧ h' = h) mixed (C := C12 n (bitsN n)) (SU_ok tabsQ) (CU_q (ks := [])) (CU_cw (ks := []) tabsQ) ht12 c12 (one_part rfl (part_loop (id := 2) rfl rfl fun st K hT => by
          obtain ⟨H, rfl, hk⟩ := hT
          refine W_mono (bits_loop (r := bitsN n) (by omega) (n, 0) ⟨by dsimp only; omega, by dsimp only; omega⟩) fun e st hq => ?_
          obtain ⟨rfl, rfl⟩ := hq
          exact hk)) (bits_vc h n (bitsN n) _) ⟨h, rfl, rfl, rfl⟩
        exact ⟨rfl, hs⟩
      · cases hv
    · cases hv
  · unfold sBits
    split <;> rfl

end Go.Proofs.Ytncmgbbbekabdaa
