/- Written by merging: Lk Ll Lm. -/
import Derived.Test.YtncmgbbbekabdaaMj
import Derived.Test.YtncmgbbbekabdaaMk
import Derived.Test.YtncmgbbbekabdaaMl
import Derived.Test.YtncmgbbbekabdaaMd
import Derived.Test.YtncmgbbbekabdaaMh
namespace Go.Proofs.Ytncmgbbbekabdaa
open Go Go.Am Go.RowKit
set_option maxRecDepth 100000
set_option linter.unusedVariables false
set_option linter.unusedSimpArgs false

noncomputable def tq3 : List TbE := [⟨24, sNone, .of (.one .bool)⟩, ⟨10, sLen, .of (.one i64)⟩, ⟨11, sDeep, .of (.one i64)⟩, ⟨12, sBits, .of (.one i64)⟩]
noncomputable def tg3 : List TbG := [t8, t7, TC Try.prog 9 VI P9, TC Try.prog 13 VIB P13, TC Try.prog 14 VIB P14]
/-- The places: way, the tree, how many, and how far. -/
def e3 (w n : Int) (t : Nat) (i : Int) : List AV := envOf 112 [(1, .int .u8 w), (5, .ptr (some (t, 0))), (6, .int .i64 n), (24, .int .i64 n), (25, .int .i64 i)]
def f3 (w n : Int) (t : Nat) (i : Int) : List AV := envOf 112 [(1, .int .u8 w), (5, .ptr (some (t, 0))), (6, .int .i64 n), (54, .int .i64 n), (55, .int .i64 i)]
def x3 (w n : Int) (t : Nat) : List AV := envOf 112 [(1, .int .u8 w), (5, .ptr (some (t, 0))), (6, .int .i64 n)]
def y3 (n : Int) (t : Nat) : List AV := envOf 112 [(5, .ptr (some (t, 0))), (6, .int .i64 n)]
def nt3 : Tidy := ⟨dropT 112 [1, 5, 6, 24, 25], .all⟩
def nu3 : Tidy := ⟨dropT 112 [1, 5, 6, 54, 55], .all⟩
def nx3 : Tidy := ⟨dropT 112 [1, 5, 6], .all⟩
def ny3 : Tidy := ⟨dropT 112 [5, 6], .all⟩
def T3 (w : Int) (X Y : AHeap → Nat → Int → Prop) (st : St) (K : AExit → St → Prop) : Prop := ∃ H t n, st = (e3 w n t 0, H) ∧ X H t n ∧ ∀ H', Y H' t n → K (.exit 0) (x3 w n t, H')
def U3 (w : Int) (X Y : AHeap → Nat → Int → Prop) (st : St) (K : AExit → St → Prop) : Prop := ∃ H t n, st = (f3 w n t 0, H) ∧ X H t n ∧ ∀ H', Y H' t n → K (.exit 2) (y3 n t, H')
noncomputable def C3 (w : Int) (X Y Z : AHeap → Nat → Int → Prop) : Cfg := { CU tq3 tg3 [] [] with
  lw := fun id => if id = 6 then some (T3 w X Y) else if id = 15 then some (U3 w Y Z) else none
  F := fun id => if id = 6 then nt3 else if id = 15 then nu3 else if id = 12 then nx3 else if id = 22 then ny3 else ⟨[], .all⟩ }
noncomputable def B3 (b : Nat) : Cfg := { CU tq3 tg3 [] [] with b0 := b }
theorem law3_vc (h : AHeap) (many w : Int) (X Y Z : AHeap → Nat → Int → Prop) (R : AV → AHeap → Prop) : (preE ([] ++ List.reverse [] ++ []) ∧ preE ([] ++ List.reverse [] ++ []) ∧ ∃ (H : AHeap), ∃ (t : Nat), ∃ (n : Int), (envOf 112 [(1, AV.int .u8 w), (5, AV.ptr (some (List.length h + 1, 0))), (6, AV.int .i64 (Int.tmod (IntKind.wrap .i64 many) 1025)), (24, AV.int .i64 (Int.tmod (IntKind.wrap .i64 many) 1025)), (25, AV.int .i64 0)], h ++ [AObj.map [], AObj.row 58 3 [AV.ptr none, AV.map (some (List.length h)), AV.int .i64 0]]) = (envOf 112 [(1, AV.int .u8 w), (5, AV.ptr (some (t, 0))), (6, AV.int .i64 n), (24, AV.int .i64 n), (25, AV.int .i64 0)], H) ∧ X H t n ∧ ∀ (H' : AHeap), Y H' t n → ∃ (n_1 : Int), TbE.s { f := 10, s := sLen, r := Rs.of (Rs1.one i64) } [AV.ptr (some (t, 0))] H' = some (AV.int .i64 n_1) ∧ askB (n_1 != n) (R (AV.bool false) H') (∃ (n_2 : Int), TbE.s { f := 11, s := sDeep, r := Rs.of (Rs1.one i64) } [AV.ptr (some (t, 0))] H' = some (AV.int .i64 n_2) ∧ ∃ (n_3 : Int), TbE.s { f := 12, s := sBits, r := Rs.of (Rs1.one i64) } [AV.int .i64 n] H' = some (AV.int .i64 n_3) ∧ askB (decide (n_2 > IntKind.wrap .i64 (3 * n_3))) (R (AV.bool false) H') (∃ (H : AHeap), ∃ (t_1 : Nat), ∃ (n_4 : Int), (envOf 112 [(1, AV.int .u8 w), (5, AV.ptr (some (t, 0))), (6, AV.int .i64 n), (54, AV.int .i64 n), (55, AV.int .i64 0)], H') = (envOf 112 [(1, AV.int .u8 w), (5, AV.ptr (some (t_1, 0))), (6, AV.int .i64 n_4), (54, AV.int .i64 n_4), (55, AV.int .i64 0)], H) ∧ Y H t_1 n_4 ∧ ∀ (H' : AHeap), Z H' t_1 n_4 → askB (decide (n_4 < 1024)) (R (AV.bool true) H') (ComesTo Try.prog 9 VI P9 ([] ++ List.reverse [AV.int .i64 9007199254740992, AV.int .i64 0, AV.ptr (some (t_1, 0))] ++ []) H' ∧ ∀ (a : Int) (h' : AHeap), P9 [AV.ptr (some (t_1, 0)), AV.int .i64 0, AV.int .i64 9007199254740992] H' a h' → askB (a == 6) (R (AV.bool true) h') (R (AV.bool false) h'))))) = (wpF Try.prog (C3 w X Y Z) 100 p3 [.int .u16 many, .int .u8 w] h R) := by kernel_rfl
theorem law3_put (h : AHeap) (w n i : Int) (t : Nat) (b : Nat) (K : AExit → St → Prop) : (askB (decide (i < n)) (askB (decide (Int.tmod w 3 = 0)) (ComesTo Try.prog 9 VI P9 ([] ++ List.reverse [AV.int .i64 (IntKind.wrap .i64 (i + 1)), AV.int .i64 i, AV.ptr (some (t, 0))] ++ []) h ∧ ∀ (a : Int) (h' : AHeap), P9 [AV.ptr (some (t, 0)), AV.int .i64 i, AV.int .i64 (IntKind.wrap .i64 (i + 1))] h a h' → askB (a != 0) (K AExit.ret (envOf 112 [(5, AV.ptr (some (t, 0))), (6, AV.int .i64 n)], h')) (K AExit.normal (envOf 112 [(1, AV.int .u8 w), (5, AV.ptr (some (t, 0))), (6, AV.int .i64 n), (24, AV.int .i64 n), (25, AV.int .i64 (IntKind.wrap .i64 (i + 1)))], h'))) (askB (decide (Int.tmod w 3 = 1)) (ComesTo Try.prog 9 VI P9 ([] ++ List.reverse [AV.int .i64 (IntKind.wrap .i64 (i + 1)), AV.int .i64 0, AV.ptr (some (t, 0))] ++ []) h ∧ ∀ (a : Int) (h' : AHeap), P9 [AV.ptr (some (t, 0)), AV.int .i64 0, AV.int .i64 (IntKind.wrap .i64 (i + 1))] h a h' → askB (a != 0) (K AExit.ret (envOf 112 [(5, AV.ptr (some (t, 0))), (6, AV.int .i64 n)], h')) (K AExit.normal (envOf 112 [(1, AV.int .u8 w), (5, AV.ptr (some (t, 0))), (6, AV.int .i64 n), (24, AV.int .i64 n), (25, AV.int .i64 (IntKind.wrap .i64 (i + 1)))], h'))) (chkW (decide (Int.tmod w 3 = 2)) (ComesTo Try.prog 9 VI P9 ([] ++ List.reverse [AV.int .i64 (IntKind.wrap .i64 (i + 1)), AV.int .i64 (IntKind.wrap .i64 (Int.tdiv i 2)), AV.ptr (some (t, 0))] ++ []) h ∧ ∀ (a : Int) (h' : AHeap), P9 [AV.ptr (some (t, 0)), AV.int .i64 (IntKind.wrap .i64 (Int.tdiv i 2)), AV.int .i64 (IntKind.wrap .i64 (i + 1))] h a h' → askB (a != 0) (K AExit.ret (envOf 112 [(5, AV.ptr (some (t, 0))), (6, AV.int .i64 n)], h')) (K AExit.normal (envOf 112 [(1, AV.int .u8 w), (5, AV.ptr (some (t, 0))), (6, AV.int .i64 n), (24, AV.int .i64 n), (25, AV.int .i64 (IntKind.wrap .i64 (i + 1)))], h')))))) (K (AExit.exit 0) (envOf 112 [(1, AV.int .u8 w), (5, AV.ptr (some (t, 0))), (6, AV.int .i64 n)], h))) = (wpP Try.prog (B3 b) 60 (.inl p3_l1) (e3 w n t i, h) (postX (B3 b) nt3 nx3 ny3 K)) := by kernel_rfl
theorem law3_see (h : AHeap) (w n i : Int) (t : Nat) (b : Nat) (K : AExit → St → Prop) : (askB (decide (i < n)) (ComesTo Try.prog 13 VIB P13 ([] ++ List.reverse [AV.int .i64 i, AV.ptr (some (t, 0))] ++ []) h ∧ ∀ (a : Int × Bool) (h' : AHeap), P13 [AV.ptr (some (t, 0)), AV.int .i64 i] h a h' → askB (Prod.snd a) (ComesTo Try.prog 14 VIB P14 ([] ++ List.reverse [AV.int .i64 (Prod.fst a), AV.ptr (some (t, 0))] ++ []) h' ∧ ∀ (a_2 : Int × Bool) (h'_1 : AHeap), P14 [AV.ptr (some (t, 0)), AV.int .i64 (Prod.fst a)] h' a_2 h'_1 → askB (Prod.snd a_2) (askB (Prod.fst a_2 != i) (K AExit.ret (envOf 112 [(5, AV.ptr (some (t, 0))), (6, AV.int .i64 n)], h'_1)) (askB (Int.tmod w 3 == 0) (askB (Prod.fst a != IntKind.wrap .i64 (i + 1)) (K AExit.ret (envOf 112 [(5, AV.ptr (some (t, 0))), (6, AV.int .i64 n)], h'_1)) (askB (Int.tmod w 3 == 1) (askB (Prod.fst a != IntKind.wrap .i64 (n - i)) (K AExit.ret (envOf 112 [(5, AV.ptr (some (t, 0))), (6, AV.int .i64 n)], h'_1)) (K AExit.normal (envOf 112 [(1, AV.int .u8 w), (5, AV.ptr (some (t, 0))), (6, AV.int .i64 n), (54, AV.int .i64 n), (55, AV.int .i64 (IntKind.wrap .i64 (i + 1)))], h'_1))) (K AExit.normal (envOf 112 [(1, AV.int .u8 w), (5, AV.ptr (some (t, 0))), (6, AV.int .i64 n), (54, AV.int .i64 n), (55, AV.int .i64 (IntKind.wrap .i64 (i + 1)))], h'_1)))) (askB (Int.tmod w 3 == 1) (askB (Prod.fst a != IntKind.wrap .i64 (n - i)) (K AExit.ret (envOf 112 [(5, AV.ptr (some (t, 0))), (6, AV.int .i64 n)], h'_1)) (K AExit.normal (envOf 112 [(1, AV.int .u8 w), (5, AV.ptr (some (t, 0))), (6, AV.int .i64 n), (54, AV.int .i64 n), (55, AV.int .i64 (IntKind.wrap .i64 (i + 1)))], h'_1))) (K AExit.normal (envOf 112 [(1, AV.int .u8 w), (5, AV.ptr (some (t, 0))), (6, AV.int .i64 n), (54, AV.int .i64 n), (55, AV.int .i64 (IntKind.wrap .i64 (i + 1)))], h'_1))))) (K AExit.ret (envOf 112 [(5, AV.ptr (some (t, 0))), (6, AV.int .i64 n)], h'_1))) (ComesTo Try.prog 14 VIB P14 ([] ++ List.reverse [AV.int .i64 (Prod.fst a), AV.ptr (some (t, 0))] ++ []) h' ∧ ∀ (a_2 : Int × Bool) (h'_1 : AHeap), P14 [AV.ptr (some (t, 0)), AV.int .i64 (Prod.fst a)] h' a_2 h'_1 → askB (Prod.snd a_2) (K AExit.ret (envOf 112 [(5, AV.ptr (some (t, 0))), (6, AV.int .i64 n)], h'_1)) (K AExit.ret (envOf 112 [(5, AV.ptr (some (t, 0))), (6, AV.int .i64 n)], h'_1)))) (K (AExit.exit 2) (envOf 112 [(5, AV.ptr (some (t, 0))), (6, AV.int .i64 n)], h))) = (wpP Try.prog (B3 b) 60 (.inl p3_l0) (f3 w n t i, h) (postX (B3 b) nu3 ny3 ny3 K)) := by kernel_rfl
theorem tabs3 : TabsOK tq3 tg3 [] := by
  refine ⟨fun x hx => ?_, by kernel_rfl, fun x hx => ?_, fun x hx => ?_, fun _ h => (by cases h), rfl⟩
  · simp only [tq3, List.mem_cons, List.not_mem_nil, or_false] at hx
    rcases hx with rfl | rfl | rfl | rfl
    · exact none_ok
    · exact len_ok
    · exact deep_ok
    · exact bits_ok
  · simp only [tg3, List.mem_cons, List.not_mem_nil, or_false] at hx
    rcases hx with rfl | rfl | rfl | rfl | rfl
    · exact t8_full
    · exact t7_full
    · exact csem_full ht9 VI P9
    · exact csem_full ht13 VIB P13
    · exact csem_full ht14 VIB P14
  · simp only [tg3, List.mem_cons, List.not_mem_nil, or_false] at hx
    rcases hx with rfl | rfl | rfl | rfl | rfl
    · exact t8_ok
    · exact TK_ok
    · exact TC_ok _ _ _ _
    · exact TC_ok _ _ _ _
    · exact TC_ok _ _ _ _
/-- So many ids, each way in its own order. -/
def Way (w : Int) (zs : List Int) (i : Nat) : Prop := zs.length = i ∧ (∀ z ∈ zs, 1 ≤ z ∧ z ≤ (i : Int)) ∧ (Int.tmod w 3 = 0 → ∀ j : Nat, j < i → zs[j]? = some ((j : Int) + 1)) ∧ (Int.tmod w 3 = 1 → ∀ j : Nat, j < i → zs[j]? = some ((i : Int) - j))
theorem way_ins {w : Int} {zs : List Int} {i a : Nat} (ha : a ≤ i) (h : Way w zs i) (h0 : Int.tmod w 3 = 0 → a = i) (h1 : Int.tmod w 3 = 1 → a = 0) : Way w (zs.take a ++ ((i : Int) + 1) :: zs.drop a) (i + 1) := by
  obtain ⟨e, r, w0, w1⟩ := h
  refine ⟨by simp; omega, fun z hz => ?_, fun hw j hj => ?_, fun hw j hj => ?_⟩
  · have hz2 : z = (i : Int) + 1 ∨ z ∈ zs := by
      rcases List.mem_append.1 hz with hz | hz
      · exact .inr (List.mem_of_mem_take hz)
      · rcases List.mem_cons.1 hz with hz | hz
        · exact .inl hz
        · exact .inr (List.mem_of_mem_drop hz)
    rcases hz2 with rfl | hz
    · omega
    · have := r z hz; omega
  · obtain rfl := h0 hw
    rw [List.take_of_length_le (by omega), List.drop_eq_nil_of_le (by omega)]
    by_cases hc : j < a
    · rw [List.getElem?_append_left (by omega)]
      exact w0 hw j hc
    · obtain rfl : j = a := by omega
      rw [List.getElem?_append_right (by omega), e, Nat.sub_self]
      rfl
  · obtain rfl := h1 hw
    rw [List.take_zero, List.drop_zero, List.nil_append]
    cases j with
    | zero => simp
    | succ j =>
      rw [List.getElem?_cons_succ, w1 hw j (by omega)]
      congr 1
      omega
def J3 (w : Int) (t i : Nat) (H : AHeap) : Prop := ∃ m lk T qs, Good T qs ∧ Bal T ∧ Way w T.ids i ∧ Maps H (rA t m lk T qs)
theorem put3 {w : Int} {t i a : Nat} {h : AHeap} {A B : AHeap → Prop} (hJ : J3 w t i h) (hi : i < 1024) (ha : a ≤ i) (h0 : Int.tmod w 3 = 0 → a = i) (h1 : Int.tmod w 3 = 1 → a = 0) (hB : ∀ h', J3 w t (i + 1) h' → B h') :
    ComesTo Try.prog 9 VI P9 [.ptr (some (t, 0)), .int .i64 (a : Int), .int .i64 ((i : Int) + 1)] h ∧ ∀ (c : Int) (h' : AHeap), P9 [.ptr (some (t, 0)), .int .i64 (a : Int), .int .i64 ((i : Int) + 1)] h c h' → askB (c != 0) (A h') (B h') := by
  obtain ⟨m, lk, T, qs, g, b, wy, hM⟩ := hJ
  refine ⟨ins_can g hM, fun c h' hp => ?_⟩
  obtain ⟨hc, T', lk', qs', g', e', hT, Tr⟩ := hp t T m lk qs a ((i : Int) + 1) rfl g hM
  have e := wy.1
  have hn : ((i : Int) + 1) ∉ T.ids := fun hx => by have := wy.2.1 _ hx; omega
  have eR : insR T.ids (a : Int) ((i : Int) + 1) = (0, T.ids.take a ++ ((i : Int) + 1) :: T.ids.drop a) := by
    unfold insR; rw [if_neg (by omega), if_neg hn, if_neg (by omega), if_neg (by omega)]; simp
  rw [eR] at hc e'
  dsimp only at hc e'
  subst hc
  refine askF (by simp) (hB h' ⟨m, lk', T', qs', g', ?_, ?_, Tr.b⟩)
  · rcases hT with ⟨hx, _⟩ | ⟨x, _, rfl⟩
    · exact absurd rfl hx
    · exact insF_bal b _ _ _
  · rw [e']; exact way_ins ha wy h0 h1
theorem loop3 {w : Int} {n t b : Nat} (hw : 0 ≤ w) (hn : n ≤ 1024) (s : AHeap × Nat × Nat) (hs : J3 w t s.2.1 s.1 ∧ s.2.1 ≤ n ∧ s.2.2 = n - s.2.1) :
    W Try.prog (B3 b).S b (.inl (.loop p3_l1)) (e3 w n t (s.2.1 : Nat), s.1) fun e st => e = .exit 0 ∧ ∃ H, st = (x3 w n t, H) ∧ J3 w t n H := by
  refine W_roundsX (C := B3 b) (CU_cw (ks := []) tabs3) (a := p3_l1) (no_parts rfl) (fun s : AHeap × Nat × Nat => (e3 w n t (s.2.1 : Nat), s.1)) (fun s => J3 w t s.2.1 s.1 ∧ s.2.1 ≤ n ∧ s.2.2 = n - s.2.1) (fun s => s.2.2) (fun _ e st => e = .exit 0 ∧ ∃ H, st = (x3 w n t, H) ∧ J3 w t n H) nt3 nx3 ny3 ?_ s hs
  rintro ⟨h, i, mm⟩ ⟨hJ, hi, hmm⟩
  refine ⟨60, ?_⟩
  dsimp only at hJ hi hmm ⊢
  subst hmm
  rw [← law3_put]
  have ew : IntKind.wrap .i64 ((i : Int) + 1) = (i : Int) + 1 := wrap_small (by omega) (by omega)
  refine askI (fun hc => ?_) (fun hc => ?_)
  · simp only [decide_eq_true_eq] at hc
    have hlt : i < n := by omega
    rw [ew]
    have next : ∀ h', J3 w t (i + 1) h' → ∃ s' : AHeap × Nat × Nat, ((envOf 112 [(1, AV.int .u8 w), (5, AV.ptr (some (t, 0))), (6, AV.int .i64 n), (24, AV.int .i64 n), (25, AV.int .i64 ((i : Int) + 1))], h') : St) = (e3 w n t (s'.2.1 : Nat), s'.1) ∧ (J3 w t s'.2.1 s'.1 ∧ s'.2.1 ≤ n ∧ s'.2.2 = n - s'.2.1) ∧ s'.2.2 < n - i ∧ ∀ (e : AExit) (st : St), (e = .exit 0 ∧ ∃ H, st = (x3 w n t, H) ∧ J3 w t n H) → (e = .exit 0 ∧ ∃ H, st = (x3 w n t, H) ∧ J3 w t n H) := fun h' hJ' =>
      ⟨(h', i + 1, n - (i + 1)), rfl, ⟨hJ', hlt, rfl⟩, by dsimp only; omega, fun _ _ h => h⟩
    refine askI (fun h0 => ?_) (fun h0 => askI (fun h1 => ?_) (fun h1 => chkI ?_ ?_))
    · simp only [decide_eq_true_eq] at h0
      exact put3 (a := i) hJ (by omega) (by omega) (fun _ => rfl) (fun h1 => by omega) next
    · simp only [decide_eq_true_eq] at h1
      exact put3 (a := 0) hJ (by omega) (by omega) (fun h0 => by omega) (fun _ => rfl) next
    · simp only [decide_eq_false_iff_not] at h0 h1
      have e1 : Int.tmod w 3 = w % 3 := Int.tmod_eq_emod_of_nonneg hw
      simp only [decide_eq_true_eq]
      omega
    · simp only [decide_eq_false_iff_not] at h0 h1
      have e1 : IntKind.wrap .i64 (Int.tdiv (i : Int) 2) = ((i / 2 : Nat) : Int) := by
        have : Int.tdiv (i : Int) 2 = ((i / 2 : Nat) : Int) := by
          rw [Int.tdiv_eq_ediv_of_nonneg (by omega)]; omega
        rw [this, wrap_small (by omega) (by omega)]
      rw [e1]
      exact put3 (a := i / 2) hJ (by omega) (by omega) (fun h => absurd h h0) (fun h => absurd h h1) next
  · simp only [decide_eq_false_iff_not] at hc
    obtain rfl : i = n := by omega
    exact ⟨rfl, h, rfl, hJ⟩
theorem idx_at {zs : List Int} (hn : zs.Nodup) {i : Nat} {z : Int} (h : zs[i]? = some z) : idxR zs z = ((i : Int), true) := by
  obtain ⟨hl, rfl⟩ := List.getElem?_eq_some_iff.1 h
  unfold idxR
  rw [if_pos (List.getElem_mem hl), hn.idxOf_getElem i hl]
theorem loop3b {w : Int} {n t b : Nat} (hn : n ≤ 1024) (s : AHeap × Nat × Nat) (hs : J3 w t n s.1 ∧ s.2.1 ≤ n ∧ s.2.2 = n - s.2.1) :
    W Try.prog (B3 b).S b (.inl (.loop p3_l0)) (f3 w n t (s.2.1 : Nat), s.1) fun e st => e = .exit 2 ∧ ∃ H, st = (y3 n t, H) ∧ J3 w t n H := by
  refine W_roundsX (C := B3 b) (CU_cw (ks := []) tabs3) (a := p3_l0) (no_parts rfl) (fun s : AHeap × Nat × Nat => (f3 w n t (s.2.1 : Nat), s.1)) (fun s => J3 w t n s.1 ∧ s.2.1 ≤ n ∧ s.2.2 = n - s.2.1) (fun s => s.2.2) (fun _ e st => e = .exit 2 ∧ ∃ H, st = (y3 n t, H) ∧ J3 w t n H) nu3 ny3 ny3 ?_ s hs
  rintro ⟨h, i, mm⟩ ⟨hJ, hi, hmm⟩
  refine ⟨60, ?_⟩
  dsimp only at hJ hi hmm ⊢
  subst hmm
  rw [← law3_see]
  have ew : IntKind.wrap .i64 ((i : Int) + 1) = (i : Int) + 1 := wrap_small (by omega) (by omega)
  refine askI (fun hc => ?_) (fun hc => ?_)
  · simp only [decide_eq_true_eq] at hc
    have hlt : i < n := by omega
    have ed : IntKind.wrap .i64 ((n : Int) - (i : Int)) = (n : Int) - i := wrap_small (by omega) (by omega)
    rw [ew, ed]
    obtain ⟨m, lk, T, qs, g, bT, wy, hM⟩ := hJ
    have el := wy.1
    have hz := List.getElem?_eq_getElem (l := T.ids) (i := i) (by omega)
    generalize hzz : T.ids[i]'(by omega) = z at hz
    refine ⟨at_can g hM, fun a h1 hp => ?_⟩
    obtain ⟨rfl, lk1, T1⟩ := hp t T m lk qs i rfl g hM
    have ea : atR T.ids (i : Int) = (z, true) := by
      unfold atR; rw [if_neg (by omega), Int.toNat_natCast, hz]
    rw [ea]
    refine askT rfl ⟨index_can g T1.b, fun a2 h2 hp2 => ?_⟩
    obtain ⟨rfl, lk2, T2⟩ := hp2 t T m lk1 qs z rfl g T1.b
    rw [idx_at g.nd hz]
    have next : ∃ s' : AHeap × Nat × Nat, ((envOf 112 [(1, AV.int .u8 w), (5, AV.ptr (some (t, 0))), (6, AV.int .i64 n), (54, AV.int .i64 n), (55, AV.int .i64 ((i : Int) + 1))], h2) : St) = (f3 w n t (s'.2.1 : Nat), s'.1) ∧ (J3 w t n s'.1 ∧ s'.2.1 ≤ n ∧ s'.2.2 = n - s'.2.1) ∧ s'.2.2 < n - i ∧ ∀ (e : AExit) (st : St), (e = .exit 2 ∧ ∃ H, st = (y3 n t, H) ∧ J3 w t n H) → (e = .exit 2 ∧ ∃ H, st = (y3 n t, H) ∧ J3 w t n H) :=
      ⟨(h2, i + 1, n - (i + 1)), rfl, ⟨⟨m, lk2, T, qs, g, bT, wy, T2.b⟩, hlt, rfl⟩, by dsimp only; omega, fun _ _ h => h⟩
    refine askT rfl (askF (by simp) (askI (fun h0 => ?_) (fun h0 => askI (fun h1 => ?_) (fun h1 => next))))
    · simp only [beq_iff_eq] at h0
      have e0 := wy.2.2.1 h0 i hlt
      rw [hz] at e0
      cases e0
      refine askF (by simp) (askF ?_ next)
      rw [h0]; rfl
    · simp only [beq_iff_eq] at h1
      have e0 := wy.2.2.2 h1 i hlt
      rw [hz] at e0
      cases e0
      exact askF (by simp) next
  · simp only [decide_eq_false_iff_not] at hc
    exact ⟨rfl, h, rfl, hJ⟩
theorem parts3 : partsIn p3.body = [.loop p3_l1, .loop p3_l0] := rfl
theorem sem3 {many w : Int} (hm : 0 ≤ many) (hm2 : many < 65536) (hw : 0 ≤ w) : ∃ v h', v = AV.bool true ∧ CallSem Try.prog 3 [.int .u16 many, .int .u8 w] [] v h' := by
  refine sem_vc mixed (C := C3 w (fun H t n => ∃ k : Nat, n = k ∧ k ≤ 1024 ∧ J3 w t 0 H) (fun H t n => ∃ k : Nat, n = k ∧ k ≤ 1024 ∧ J3 w t k H) (fun H t n => ∃ k : Nat, n = k ∧ k ≤ 1024 ∧ J3 w t k H)) (SU_ok tabs3) (CU_q (ks := [])) (CU_cw (ks := []) tabs3) ht3 c3 ?_ (law3_vc [] many w _ _ _ _) ?_
  · intro y hy
    rw [parts3] at hy
    simp only [List.mem_cons, List.not_mem_nil, or_false] at hy
    rcases hy with rfl | rfl
    · refine part_loop (id := 6) rfl rfl fun st K hT => ?_
      obtain ⟨H, t, n, rfl, ⟨k, rfl, hk, hX⟩, hK⟩ := hT
      refine W_mono (loop3 hw hk (H, 0, k) ⟨hX, Nat.zero_le _, by simp⟩) fun e st hq => ?_
      obtain ⟨rfl, H', rfl, hY⟩ := hq
      exact hK H' ⟨k, rfl, hk, hY⟩
    · refine part_loop (id := 15) rfl rfl fun st K hT => ?_
      obtain ⟨H, t, n, rfl, ⟨k, rfl, hk, hX⟩, hK⟩ := hT
      refine W_mono (loop3b hk (H, 0, k) ⟨hX, Nat.zero_le _, by simp⟩) fun e st hq => ?_
      obtain ⟨rfl, H', rfl, hY⟩ := hq
      exact hK H' ⟨k, rfl, hk, hY⟩
  · have en : Int.tmod (IntKind.wrap .i64 many) 1025 = ((many.toNat % 1025 : Nat) : Int) := by
      rw [wrap_small hm (by omega), Int.tmod_eq_emod_of_nonneg hm]; omega
    rw [en]
    generalize hk : many.toNat % 1025 = k
    have hk2 : k ≤ 1024 := by omega
    refine ⟨rfl, rfl, _, 1, _, rfl, ⟨k, rfl, hk2, ?_⟩, fun H' hY => ?_⟩
    · have N1 := new_tr (h := []) (L := []) ⟨List.nodup_nil, fun k o ho => by cases ho⟩ (AObj.map [])
      have N2 := new_tr N1.b (trow none 0 0)
      rw [show List.length (([] : AHeap) ++ [AObj.map []]) = 1 from rfl] at N2
      exact ⟨0, 0, .nil, [], ⟨List.Perm.refl _, List.nodup_nil, (fun z hz => by cases hz), by simp [TT.n]⟩, trivial, ⟨rfl, (fun z hz => by cases hz), (fun _ j hj => by omega), fun _ j hj => by omega⟩, N2.b.perm (perm_of fun a => by simp only [rA, rW, rC, rT, pt_nil, List.map_nil, cnt_cons, cnt_append, cnt_nil, List.length_cons, List.length_nil, Nat.zero_add]; omega)⟩
    · obtain ⟨k', hkk, -, m, lk, T, qs, g, bT, wy, hM⟩ := hY
      obtain rfl : k' = k := by omega
      have hlen := TT.n_ids T
      have el := wy.1
      have hTn : T.n = k' := by omega
      have gn := g.n
      have hb := bal_depth (bitsN k') T bT (by rw [hTn]; exact bitsN_lt k')
      have hbl := bitsN_le k'
      have hdep : sDeep [.ptr (some (1, 0))] H' = some (.int .i64 (T.depth : Nat)) := by
        have h1 := rA_t hM
        simp only [trow] at h1
        have hr : Rep H' T := rep_of (u := none) fun x hx => hM.row x.1 x.2 (List.mem_append_left _ (List.mem_append_right _ hx))
        have h2 := dep_rep (n := dMax) hr (by unfold dMax; omega)
        rw [TT.av_pt] at h2
        simp only [sDeep, h1, sDepth, h2, Option.map_some]
      refine ⟨_, rA_len g hM, askF (by rw [hTn]; simp) ⟨_, hdep, (bitsN k' : Nat), ?_, askF ?_ ⟨H', 1, _, rfl, ⟨k', rfl, hk2, m, lk, T, qs, g, bT, wy, hM⟩, fun H2 hZ => ?_⟩⟩⟩
      · show sBits [.int .i64 (k' : Nat)] H' = some (.int .i64 (bitsN k' : Nat))
        show (if 0 ≤ ((k' : Nat) : Int) ∧ ((k' : Nat) : Int) ≤ 1000000 then some (AV.int .i64 (bitsN ((k' : Nat) : Int).toNat : Nat)) else none) = _
        rw [if_pos (by omega), Int.toNat_natCast]
      · rw [wrap_small (by omega) (by omega)]
        simp only [gt_iff_lt, decide_eq_false_iff_not]
        omega
      · obtain ⟨k2, hk3, -, m2, lk2, T2, qs2, g2, bT2, wy2, hM2⟩ := hZ
        obtain rfl : k2 = k' := by omega
        refine askI (fun hc => rfl) (fun hc => ⟨ins_can g2 hM2, fun c h3 hp => ?_⟩)
        simp only [decide_eq_false_iff_not] at hc
        obtain ⟨rfl, -⟩ := hp 1 T2 m2 lk2 qs2 0 9007199254740992 rfl g2 hM2
        have hni : (9007199254740992 : Int) ∉ T2.ids := fun hx => by have := wy2.2.1 _ hx; omega
        have e2 := wy2.1
        have eR : insR T2.ids 0 9007199254740992 = (6, T2.ids) := by
          unfold insR; rw [if_neg (by omega), if_neg hni, if_pos (by omega)]
        rw [eR]
        exact askT rfl rfl

end Go.Proofs.Ytncmgbbbekabdaa
