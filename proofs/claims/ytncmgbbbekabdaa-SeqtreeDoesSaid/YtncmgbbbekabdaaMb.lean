/- Written by merging: Sd Se Sf. -/
import Derived.Test.YtncmgbbbekabdaaMa
namespace Go.Proofs.Ytncmgbbbekabdaa
open Go Go.Am Go.RowKit
set_option maxRecDepth 100000
set_option linter.unusedVariables false
set_option linter.unusedSimpArgs false
noncomputable def tb1 : List TbE := [⟨24, sNone, .of (.one .bool)⟩, ⟨27, sSize, .of (.one i64)⟩]
noncomputable def tb2 (sD : List AV → AHeap → Option AV) : List TbE := [⟨24, sNone, .of (.one .bool)⟩, ⟨26, sD, .of (.one i64)⟩]
noncomputable def tL (s : List AV → AHeap → Option (AV × AHeap)) : TbG := ⟨29, s, fun vs h K => ∃ b : Bool, askB b (∃ k n h', s vs h = some (.sl (some (k, 0)) n (.rel 0), h') ∧ K (.sl (some (k, 0)) n (.rel 0), h')) (∃ h', s vs h = some (.sl none 0 (.fix 0), h') ∧ K (.sl none 0 (.fix 0), h'))⟩
theorem weight_vc (h : AHeap) (v : Option (Nat × Nat)) (R : AV → AHeap → Prop) : (∃ (n : Int), TbE.s { f := 27, s := sSize, r := Rs.of (Rs1.one i64) } [AV.ptr v] h = some (AV.int .i64 n) ∧ R (AV.int .i64 (IntKind.wrap .i64 (n + 1))) h) = (wpF Try.prog (CT tb1 [] []) 30 p40 [.ptr v] h R) := by kernel_rfl
theorem len_vcn (h : AHeap) (R : AV → AHeap → Prop) : (∃ (b : Bool), askB b (some (AV.bool true) = some (AV.bool true) ∧ R (AV.int .i64 0) h) (some (AV.bool true) = some (AV.bool false) ∧ False)) = (wpF Try.prog (CT tb1 [] []) 30 p10 [.ptr none] h R) := by kernel_rfl
theorem len_vc (h : AHeap) (k : Nat) (R : AV → AHeap → Prop) : (∃ (b : Bool), askB b (TbE.s { f := 24, s := sNone, r := Rs.of (Rs1.one K1.bool) } [AV.ptr (some (k, 0))] h = some (AV.bool true) ∧ R (AV.int .i64 0) h) (TbE.s { f := 24, s := sNone, r := Rs.of (Rs1.one K1.bool) } [AV.ptr (some (k, 0))] h = some (AV.bool false) ∧ ∃ (b : Bool), askB b (∃ (m : Nat), (Option.bind (cellsAt h k) fun (x : List AV) => partR none x 1) = some (AV.map (some m)) ∧ ∃ (es : List (AV × AV)), h[m]? = some (AObj.map es) ∧ R (AV.int .i64 (↑(List.length es) : Int)) h) ((Option.bind (cellsAt h k) fun (x : List AV) => partR none x 1) = some (AV.map none) ∧ R (AV.int .i64 0) h))) = (wpF Try.prog (CT tb1 [] [(8, .map)]) 30 p10 [.ptr (some (k, 0))] h R) := by kernel_rfl
theorem looked_vcn (h : AHeap) (R : AV → AHeap → Prop) : (∃ (b : Bool), askB b (some (AV.bool true) = some (AV.bool true) ∧ R (AV.int .i64 0) h) (some (AV.bool true) = some (AV.bool false) ∧ False)) = (wpF Try.prog (CT tb1 [] []) 30 p22 [.ptr none] h R) := by kernel_rfl
theorem looked_vc (h : AHeap) (k : Nat) (R : AV → AHeap → Prop) : (∃ (b : Bool), askB b (TbE.s { f := 24, s := sNone, r := Rs.of (Rs1.one K1.bool) } [AV.ptr (some (k, 0))] h = some (AV.bool true) ∧ R (AV.int .i64 0) h) (TbE.s { f := 24, s := sNone, r := Rs.of (Rs1.one K1.bool) } [AV.ptr (some (k, 0))] h = some (AV.bool false) ∧ ∃ (n : Int), (Option.bind (cellsAt h k) fun (x : List AV) => partR none x 2) = some (AV.int .i64 n) ∧ R (AV.int .i64 n) h)) = (wpF Try.prog (CT tb1 [] [(8, i64)]) 30 p22 [.ptr (some (k, 0))] h R) := by kernel_rfl
theorem depth_vcn (sD : List AV → AHeap → Option AV) (h : AHeap) (R : AV → AHeap → Prop) : (R (AV.int .i64 0) h) = (wpF Try.prog (CT (tb2 sD) [] []) 30 p26 [.ptr none] h R) := by kernel_rfl
theorem depth_vc (sD : List AV → AHeap → Option AV) (h : AHeap) (k : Nat) (R : AV → AHeap → Prop) : (∃ (p : Option (Nat × Nat)), (Option.bind (cellsAt h k) fun (x : List AV) => partR none x 3) = some (AV.ptr p) ∧ ∃ (n : Int), TbE.s { f := 26, s := sD, r := Rs.of (Rs1.one i64) } [AV.ptr p] h = some (AV.int .i64 n) ∧ ∃ (p : Option (Nat × Nat)), (Option.bind (cellsAt h k) fun (x : List AV) => partR none x 4) = some (AV.ptr p) ∧ ∃ (n_1 : Int), TbE.s { f := 26, s := sD, r := Rs.of (Rs1.one i64) } [AV.ptr p] h = some (AV.int .i64 n_1) ∧ R (AV.int .i64 (IntKind.wrap .i64 (1 + if true = true then if n_1 > n then n_1 else n else if n_1 < n then n_1 else n))) h) = (wpF Try.prog (CT (tb2 sD) [] [(8, .ptrV), (13, .ptrV)]) 30 p26 [.ptr (some (k, 0))] h R) := by kernel_rfl
theorem deep_vcn (sD : List AV → AHeap → Option AV) (h : AHeap) (R : AV → AHeap → Prop) : (∃ (b : Bool), askB b (some (AV.bool true) = some (AV.bool true) ∧ R (AV.int .i64 0) h) (some (AV.bool true) = some (AV.bool false) ∧ False)) = (wpF Try.prog (CT (tb2 sD) [] []) 30 p11 [.ptr none] h R) := by kernel_rfl
theorem deep_vc (sD : List AV → AHeap → Option AV) (h : AHeap) (k : Nat) (R : AV → AHeap → Prop) : (∃ (b : Bool), askB b (TbE.s { f := 24, s := sNone, r := Rs.of (Rs1.one K1.bool) } [AV.ptr (some (k, 0))] h = some (AV.bool true) ∧ R (AV.int .i64 0) h) (TbE.s { f := 24, s := sNone, r := Rs.of (Rs1.one K1.bool) } [AV.ptr (some (k, 0))] h = some (AV.bool false) ∧ ∃ (p : Option (Nat × Nat)), (Option.bind (cellsAt h k) fun (x : List AV) => partR none x 0) = some (AV.ptr p) ∧ ∃ (n : Int), TbE.s { f := 26, s := sD, r := Rs.of (Rs1.one i64) } [AV.ptr p] h = some (AV.int .i64 n) ∧ R (AV.int .i64 n) h)) = (wpF Try.prog (CT (tb2 sD) [] [(8, .ptrV)]) 30 p11 [.ptr (some (k, 0))] h R) := by kernel_rfl
theorem list_vcn (s : List AV → AHeap → Option (AV × AHeap)) (h : AHeap) (q : Option (Nat × Nat)) (n : Nat) (c : ACap) (R : AV → AHeap → Prop) : (R (AV.sl q n c) h) = (wpF Try.prog (CU tb1 [tL s] [29] []) 30 p29 [.ptr none, .sl q n c] h R) := by kernel_rfl
theorem list_vc (s : List AV → AHeap → Option (AV × AHeap)) (h : AHeap) (k : Nat) (q : Option (Nat × Nat)) (n : Nat) (c : ACap) (R : AV → AHeap → Prop) : (∃ (p : Option (Nat × Nat)), (Option.bind (cellsAt (h ++ List.replicate (1 + 1) AObj.hole) k) fun (x : List AV) => partR none x 4) = some (AV.ptr p) ∧ ∃ (p_1 : Option (Nat × Nat)), (Option.bind (cellsAt (h ++ List.replicate (1 + 1) AObj.hole) k) fun (x : List AV) => partR none x 3) = some (AV.ptr p_1) ∧ ∃ (n_1 : Int), (Option.bind (cellsAt (h ++ List.replicate (1 + 1) AObj.hole) k) fun (x : List AV) => partR none x 0) = some (AV.int .i64 n_1) ∧ chkW (isHole (h ++ List.replicate (1 + 1) AObj.hole) (List.length h + 0)) (∃ (b : Bool), askB b (∃ (k_1 : Nat), ∃ (n_2 : Nat), ∃ (h' : AHeap), s ([] ++ List.reverse [AV.sl q n c, AV.ptr p_1] ++ []) (List.set (h ++ List.replicate (1 + 1) AObj.hole) (List.length h + 0) (AObj.row 2 1 (List.take (0 * 1) (rangeCells (AV.cells (AV.int .i64 0)) (1 * 1)) ++ AV.cells (AV.int .i64 n_1) ++ List.drop (0 * 1 + 1) (rangeCells (AV.cells (AV.int .i64 0)) (1 * 1))))) = some (AV.sl (some (k_1, 0)) n_2 (ACap.rel 0), h') ∧ loadZ h' none (AV.ptr (some (k, 0))) = loadZ (List.set (h ++ List.replicate (1 + 1) AObj.hole) (List.length h + 0) (AObj.row 2 1 (List.take (0 * 1) (rangeCells (AV.cells (AV.int .i64 0)) (1 * 1)) ++ AV.cells (AV.int .i64 n_1) ++ List.drop (0 * 1 + 1) (rangeCells (AV.cells (AV.int .i64 0)) (1 * 1))))) none (AV.ptr (some (k, 0))) ∧ loadZ h' none (AV.ptr (some (k, 4))) = loadZ (List.set (h ++ List.replicate (1 + 1) AObj.hole) (List.length h + 0) (AObj.row 2 1 (List.take (0 * 1) (rangeCells (AV.cells (AV.int .i64 0)) (1 * 1)) ++ AV.cells (AV.int .i64 n_1) ++ List.drop (0 * 1 + 1) (rangeCells (AV.cells (AV.int .i64 0)) (1 * 1))))) none (AV.ptr (some (k, 4))) ∧ chkW (isHole h' (List.length h + 1)) (∃ (cs : List AV), sourceA h' 1 (AV.sl (some (List.length h + 0, 0)) 1 (ACap.rel 0)) = some (1, cs) ∧ ∃ (t : TypeId), ∃ (s_1 : Nat), ∃ (cs_1 : List AV), h'[k_1]? = some (AObj.row t s_1 cs_1) ∧ chkW (List.all cs AV.one) (chkW (decide (t = 2)) (chkW (decide (s_1 = 1)) (chkW (decide (List.length cs_1 = n_2 * 1)) (chkW (decide ((n_2 + 1) * 8 ≤ 140737488355328)) (chkW (decide (n_2 + 1 ≤ 9223372036854775807)) (loadZ (List.set (List.set h' k_1 AObj.dead) (List.length h + 1) (AObj.row 2 1 (cs_1 ++ cs))) none (AV.ptr (some (k, 0))) = loadZ h' none (AV.ptr (some (k, 0))) ∧ loadZ (List.set (List.set h' k_1 AObj.dead) (List.length h + 1) (AObj.row 2 1 (cs_1 ++ cs))) none (AV.ptr (some (k, 3))) = loadZ h' none (AV.ptr (some (k, 3))) ∧ loadZ (List.set (List.set h' k_1 AObj.dead) (List.length h + 1) (AObj.row 2 1 (cs_1 ++ cs))) none (AV.ptr (some (k, 4))) = loadZ h' none (AV.ptr (some (k, 4))) ∧ ∃ (b : Bool), askB b (∃ (k_2 : Nat), ∃ (n : Nat), ∃ (h'_1 : AHeap), s ([] ++ List.reverse [AV.sl (some (List.length h + 1, 0)) (n_2 + 1) (ACap.rel 0), AV.ptr p] ++ []) (List.set (List.set h' k_1 AObj.dead) (List.length h + 1) (AObj.row 2 1 (cs_1 ++ cs))) = some (AV.sl (some (k_2, 0)) n (ACap.rel 0), h'_1) ∧ loadZ h'_1 none (AV.ptr (some (k, 0))) = loadZ (List.set (List.set h' k_1 AObj.dead) (List.length h + 1) (AObj.row 2 1 (cs_1 ++ cs))) none (AV.ptr (some (k, 0))) ∧ loadZ h'_1 none (AV.ptr (some (k, 3))) = loadZ (List.set (List.set h' k_1 AObj.dead) (List.length h + 1) (AObj.row 2 1 (cs_1 ++ cs))) none (AV.ptr (some (k, 3))) ∧ R (AV.sl (some (k_2, 0)) n (ACap.rel 0)) h'_1) (∃ (h'_1 : AHeap), s ([] ++ List.reverse [AV.sl (some (List.length h + 1, 0)) (n_2 + 1) (ACap.rel 0), AV.ptr p] ++ []) (List.set (List.set h' k_1 AObj.dead) (List.length h + 1) (AObj.row 2 1 (cs_1 ++ cs))) = some (AV.sl none 0 (ACap.fix 0), h'_1) ∧ loadZ h'_1 none (AV.ptr (some (k, 0))) = loadZ (List.set (List.set h' k_1 AObj.dead) (List.length h + 1) (AObj.row 2 1 (cs_1 ++ cs))) none (AV.ptr (some (k, 0))) ∧ loadZ h'_1 none (AV.ptr (some (k, 3))) = loadZ (List.set (List.set h' k_1 AObj.dead) (List.length h + 1) (AObj.row 2 1 (cs_1 ++ cs))) none (AV.ptr (some (k, 3))) ∧ R (AV.sl none 0 (ACap.fix 0)) h'_1))))))))) (∃ (h' : AHeap), s ([] ++ List.reverse [AV.sl q n c, AV.ptr p_1] ++ []) (List.set (h ++ List.replicate (1 + 1) AObj.hole) (List.length h + 0) (AObj.row 2 1 (List.take (0 * 1) (rangeCells (AV.cells (AV.int .i64 0)) (1 * 1)) ++ AV.cells (AV.int .i64 n_1) ++ List.drop (0 * 1 + 1) (rangeCells (AV.cells (AV.int .i64 0)) (1 * 1))))) = some (AV.sl none 0 (ACap.fix 0), h') ∧ loadZ h' none (AV.ptr (some (k, 0))) = loadZ (List.set (h ++ List.replicate (1 + 1) AObj.hole) (List.length h + 0) (AObj.row 2 1 (List.take (0 * 1) (rangeCells (AV.cells (AV.int .i64 0)) (1 * 1)) ++ AV.cells (AV.int .i64 n_1) ++ List.drop (0 * 1 + 1) (rangeCells (AV.cells (AV.int .i64 0)) (1 * 1))))) none (AV.ptr (some (k, 0))) ∧ loadZ h' none (AV.ptr (some (k, 4))) = loadZ (List.set (h ++ List.replicate (1 + 1) AObj.hole) (List.length h + 0) (AObj.row 2 1 (List.take (0 * 1) (rangeCells (AV.cells (AV.int .i64 0)) (1 * 1)) ++ AV.cells (AV.int .i64 n_1) ++ List.drop (0 * 1 + 1) (rangeCells (AV.cells (AV.int .i64 0)) (1 * 1))))) none (AV.ptr (some (k, 4))) ∧ chkW (isHole h' (List.length h + 1)) (∃ (cs : List AV), sourceA h' 1 (AV.sl (some (List.length h + 0, 0)) 1 (ACap.rel 0)) = some (1, cs) ∧ chkW (List.all cs AV.one) (loadZ (List.set h' (List.length h + 1) (AObj.row 2 1 cs)) none (AV.ptr (some (k, 0))) = loadZ h' none (AV.ptr (some (k, 0))) ∧ loadZ (List.set h' (List.length h + 1) (AObj.row 2 1 cs)) none (AV.ptr (some (k, 3))) = loadZ h' none (AV.ptr (some (k, 3))) ∧ loadZ (List.set h' (List.length h + 1) (AObj.row 2 1 cs)) none (AV.ptr (some (k, 4))) = loadZ h' none (AV.ptr (some (k, 4))) ∧ ∃ (b : Bool), askB b (∃ (k_1 : Nat), ∃ (n : Nat), ∃ (h'_1 : AHeap), s ([] ++ List.reverse [AV.sl (some (List.length h + 1, 0)) 1 (ACap.rel 0), AV.ptr p] ++ []) (List.set h' (List.length h + 1) (AObj.row 2 1 cs)) = some (AV.sl (some (k_1, 0)) n (ACap.rel 0), h'_1) ∧ loadZ h'_1 none (AV.ptr (some (k, 0))) = loadZ (List.set h' (List.length h + 1) (AObj.row 2 1 cs)) none (AV.ptr (some (k, 0))) ∧ loadZ h'_1 none (AV.ptr (some (k, 3))) = loadZ (List.set h' (List.length h + 1) (AObj.row 2 1 cs)) none (AV.ptr (some (k, 3))) ∧ R (AV.sl (some (k_1, 0)) n (ACap.rel 0)) h'_1) (∃ (h'_1 : AHeap), s ([] ++ List.reverse [AV.sl (some (List.length h + 1, 0)) 1 (ACap.rel 0), AV.ptr p] ++ []) (List.set h' (List.length h + 1) (AObj.row 2 1 cs)) = some (AV.sl none 0 (ACap.fix 0), h'_1) ∧ loadZ h'_1 none (AV.ptr (some (k, 0))) = loadZ (List.set h' (List.length h + 1) (AObj.row 2 1 cs)) none (AV.ptr (some (k, 0))) ∧ loadZ h'_1 none (AV.ptr (some (k, 3))) = loadZ (List.set h' (List.length h + 1) (AObj.row 2 1 cs)) none (AV.ptr (some (k, 3))) ∧ R (AV.sl none 0 (ACap.fix 0)) h'_1)))))) = (wpF Try.prog (CU tb1 [tL s] [29] [(21, i64), (11, .ptrV), (15, .ptrV)]) 40 p29 [.ptr (some (k, 0)), .sl q n c] h R) := by kernel_rfl
theorem tabs1 : TabsOK tb1 [] [] := by
  refine ⟨fun x hx => ?_, by kernel_rfl, fun _ h => (by cases h), fun _ h => (by cases h), fun _ h => (by cases h), rfl⟩
  simp only [tb1, List.mem_cons, List.not_mem_nil, or_false] at hx
  rcases hx with rfl | rfl
  · exact none_ok
  · exact size_ok
def sWeight (vs : List AV) (h : AHeap) : Option AV := match sSize vs h with
  | some (.int .i64 n) => some (.int .i64 (IntKind.wrap .i64 (n + 1)))
  | _ => none
theorem size_ptr {vs : List AV} {h : AHeap} {v : AV} (hv : sSize vs h = some v) : ∃ p, vs = [.ptr p] := by
  unfold sSize at hv
  split at hv
  · exact ⟨_, rfl⟩
  · exact ⟨_, rfl⟩
  · cases hv
theorem weight_ok : QuietOK Try.prog 40 sWeight := by
  refine quiet_here ht40 (fun args h v hv => ?_) (fun args h k o hk ha => ?_)
  · unfold sWeight at hv
    split at hv
    · rename_i n hn
      cases hv
      obtain ⟨p, rfl⟩ := size_ptr hn
      obtain ⟨v, h', ⟨rfl, rfl⟩, hs⟩ := sem (R := fun v h' => v = .int .i64 (IntKind.wrap .i64 (n + 1)) ∧ h' = h) tabs1 ht40 c40 rfl (weight_vc h p _) ⟨n, hn, rfl, rfl⟩
      exact ⟨rfl, hs⟩
    · cases hv
  · unfold sWeight
    rw [size_ok.2.1 args h k o hk ha]
def sLen : List AV → AHeap → Option AV
  | [.ptr none], _ => some (.int .i64 0)
  | [.ptr (some (k, 0))], h => match h[k]? with
    | some (.row 58 3 [_, .map none, .int .i64 _]) => some (.int .i64 0)
    | some (.row 58 3 [_, .map (some m), .int .i64 _]) => match h[m]? with
      | some (.map es) => some (.int .i64 (es.length : Nat))
      | _ => none
    | _ => none
  | _, _ => none
def sLooked : List AV → AHeap → Option AV
  | [.ptr none], _ => some (.int .i64 0)
  | [.ptr (some (k, 0))], h => match h[k]? with
    | some (.row 58 3 [_, .map none, .int .i64 _]) => some (.int .i64 0)
    | some (.row 58 3 [_, .map (some m), .int .i64 n]) => some (.int .i64 n)
    | _ => none
  | _, _ => none
theorem len_ok : QuietOK Try.prog 10 sLen := by
  refine quiet_here ht10 (fun args h v hv => ?_) (fun args h k o hk ⟨ρ, ha, hw⟩ => ?_)
  · unfold sLen at hv
    split at hv
    · cases hv
      obtain ⟨v, h', ⟨rfl, rfl⟩, hs⟩ := sem (R := fun v h' => v = .int .i64 0 ∧ h' = h) tabs1 ht10 c10 rfl (len_vcn h _) ⟨true, rfl, rfl, rfl⟩
      exact ⟨rfl, hs⟩
    · rename_i k
      split at hv
      · rename_i hk
        cases hv
        obtain ⟨v, h', ⟨rfl, rfl⟩, hs⟩ := sem (R := fun v h' => v = .int .i64 0 ∧ h' = h) tabs1 ht10 c10 rfl (len_vc h k _) ⟨true, (show sNone [.ptr (some (k, 0))] h = some _ by simp only [sNone, hk]), rfl, rfl⟩
        exact ⟨rfl, hs⟩
      · rename_i m _ hk
        split at hv
        · rename_i es hm
          cases hv
          obtain ⟨v, h', ⟨rfl, rfl⟩, hs⟩ := sem (R := fun v h' => v = .int .i64 ((es.length : Nat) : Int) ∧ h' = h) tabs1 ht10 c10 rfl (len_vc h k _) ⟨false, (show sNone [.ptr (some (k, 0))] h = some _ by simp only [sNone, hk]), true, m, fld hk rfl, es, hm, rfl, rfl⟩
          exact ⟨rfl, hs⟩
        · cases hv
      · cases hv
    · cases hv
  · unfold sLen
    split
    · rfl
    · rename_i k'
      have hp := ha _ List.mem_cons_self
      simp only [named_row hk hp]
      split
      · rfl
      · rename_i m _ hk'
        have h1 := hw _ _ hk'
        simp only [AObj.refs, List.all_cons, List.all_nil, Bool.and_true, Bool.and_eq_true] at h1
        rw [named_map hk h1.2.1]
      · rfl
    · rfl
theorem looked_ok : QuietOK Try.prog 22 sLooked := by
  refine quiet_here ht22 (fun args h v hv => ?_) (fun args h k o hk ⟨ρ, ha, hw⟩ => ?_)
  · unfold sLooked at hv
    split at hv
    · cases hv
      obtain ⟨v, h', ⟨rfl, rfl⟩, hs⟩ := sem (R := fun v h' => v = .int .i64 0 ∧ h' = h) tabs1 ht22 c22 rfl (looked_vcn h _) ⟨true, rfl, rfl, rfl⟩
      exact ⟨rfl, hs⟩
    · rename_i k
      split at hv
      · rename_i hk
        cases hv
        obtain ⟨v, h', ⟨rfl, rfl⟩, hs⟩ := sem (R := fun v h' => v = .int .i64 0 ∧ h' = h) tabs1 ht22 c22 rfl (looked_vc h k _) ⟨true, (show sNone [.ptr (some (k, 0))] h = some _ by simp only [sNone, hk]), rfl, rfl⟩
        exact ⟨rfl, hs⟩
      · rename_i m n hk
        cases hv
        obtain ⟨v, h', ⟨rfl, rfl⟩, hs⟩ := sem (R := fun v h' => v = .int .i64 n ∧ h' = h) tabs1 ht22 c22 rfl (looked_vc h k _) ⟨false, (show sNone [.ptr (some (k, 0))] h = some _ by simp only [sNone, hk]), n, fld hk rfl, rfl, rfl⟩
        exact ⟨rfl, hs⟩
      · cases hv
    · cases hv
  · unfold sLooked
    split
    · rfl
    · have hp := ha _ List.mem_cons_self
      simp only [named_row hk hp]
    · rfl
/-- How deep, so far down. -/
def depF : Nat → AHeap → AV → Option Nat
  | _, _, .ptr none => some 0
  | n + 1, h, .ptr (some (k, 0)) => match h[k]? with
    | some (.row 66 5 [_, _, _, .ptr l, .ptr r]) => (depF n h (.ptr l)).bind fun a => (depF n h (.ptr r)).map fun b => 1 + max a b
    | _ => none
  | _, _, _ => none
theorem dep_inv {n : Nat} {h : AHeap} {p : Option (Nat × Nat)} {d : Nat} (hd : depF n h (.ptr p) = some d) : (p = none ∧ d = 0) ∨
    ∃ n' k i1 i2 i3 l r a b, n = n' + 1 ∧ p = some (k, 0) ∧ h[k]? = some (.row 66 5 [i1, i2, i3, .ptr l, .ptr r]) ∧ depF n' h (.ptr l) = some a ∧ depF n' h (.ptr r) = some b ∧ d = 1 + max a b := by
  match p, n, hd with
  | none, n, hd => unfold depF at hd; exact .inl ⟨rfl, by cases hd; rfl⟩
  | some (k, 0), 0, hd => simp [depF] at hd
  | some (k, o + 1), n, hd => unfold depF at hd; cases hd
  | some (k, 0), n + 1, hd =>
    simp only [depF] at hd
    split at hd
    · rename_i i1 i2 i3 l r hk
      simp only [Option.bind_eq_some_iff, Option.map_eq_some_iff] at hd
      obtain ⟨a, h1, b, h2, rfl⟩ := hd
      exact .inr ⟨n, k, i1, i2, i3, l, r, a, b, rfl, rfl, hk, h1, h2, rfl⟩
    · cases hd
theorem dep_le : ∀ {n : Nat} {h : AHeap} {p : Option (Nat × Nat)} {d : Nat}, depF n h (.ptr p) = some d → d ≤ n
  | n, h, p, d, hd => by
    rcases dep_inv hd with ⟨rfl, rfl⟩ | ⟨n', k, i1, i2, i3, l, r, a, b, hn', rfl, hk, h1, h2, rfl⟩
    · omega
    · have g1 := dep_le h1
      have g2 := dep_le h2
      omega
termination_by n => n
theorem dep_hole {h : AHeap} {c : Nat → Nat} {k : Nat} {o : AObj} (hk : h[k]? = some .hole) (hw : ∀ (j : Nat) (u : AObj), h[j]? = some u → u.refs (live h) c = true) : ∀ {n : Nat} {v : AV}, v.refs (live h) c = true → depF n (h.set k o) v = depF n h v
  | 0, v, hv => by unfold depF; split <;> first | rfl | omega
  | n + 1, v, hv => by
    unfold depF
    split
    · rfl
    · rename_i _ _ _ n2 k2 he
      cases he
      rw [named_row hk hv]
      split
      · rename_i a1
        have h1 := hw _ _ a1
        simp only [AObj.refs, List.all_cons, List.all_nil, Bool.and_true, Bool.and_eq_true] at h1
        rw [dep_hole hk hw h1.2.2.2.1, dep_hole hk hw h1.2.2.2.2]
      · rfl
    · rfl
def sDepth (n : Nat) : List AV → AHeap → Option AV
  | [.ptr p], h => (depF n h (.ptr p)).map fun d => .int .i64 (d : Nat)
  | _, _ => none
theorem tabs2 {sD : List AV → AHeap → Option AV} (hD : QuietOK Try.prog 26 sD) : TabsOK (tb2 sD) [] [] := by
  refine ⟨fun x hx => ?_, by kernel_rfl, fun _ h => (by cases h), fun _ h => (by cases h), fun _ h => (by cases h), rfl⟩
  simp only [tb2, List.mem_cons, List.not_mem_nil, or_false] at hx
  rcases hx with rfl | rfl
  · exact none_ok
  · exact hD
theorem none_quiet {g : FuncId} {fn : Func} (hf : HasText Try.prog g fn) : QuietOK Try.prog g fun _ _ => none := ⟨fun _ _ _ h => (by cases h), fun _ _ _ _ _ _ => rfl, fn, hf.1, hf.2.1, hf.2.2⟩
theorem depth_free (n : Nat) (args : List AV) (h : AHeap) (k : Nat) (o : AObj) (hk : h[k]? = some .hole) (ha : ∃ ρ : Rho, (∀ x ∈ args, AV.ok h ρ x) ∧ ∀ (j : Nat) (u : AObj), h[j]? = some u → u.refs (live h) (fun k => (ρ k).cap) = true) : sDepth n args (h.set k o) = sDepth n args h := by
  obtain ⟨ρ, ha, hw⟩ := ha
  unfold sDepth
  split
  · rw [dep_hole hk hw (ha _ List.mem_cons_self)]
  · rfl
theorem depth_ok : ∀ n, n ≤ 4000000000000000000 → QuietOK Try.prog 26 (sDepth n)
  | 0, _ => by
    refine quiet_here ht26 (fun args h v hv => ?_) (depth_free 0)
    unfold sDepth at hv
    split at hv
    · rename_i p
      simp only [Option.map_eq_some_iff] at hv
      obtain ⟨d, hd, rfl⟩ := hv
      rcases dep_inv hd with ⟨rfl, rfl⟩ | ⟨n', _, _, _, _, _, _, _, _, hn', _⟩
      · obtain ⟨v, h', ⟨rfl, rfl⟩, hs⟩ := sem (R := fun v h' => v = .int .i64 0 ∧ h' = h) (tabs2 (none_quiet ht26)) ht26 c26 rfl (depth_vcn (fun _ _ => none) h _) ⟨rfl, rfl⟩
        exact ⟨rfl, hs⟩
      · omega
    · cases hv
  | n + 1, hn => by
    have ih := depth_ok n (by omega)
    refine quiet_here ht26 (fun args h v hv => ?_) (depth_free (n + 1))
    unfold sDepth at hv
    split at hv
    · rename_i p
      simp only [Option.map_eq_some_iff] at hv
      obtain ⟨d, hd, rfl⟩ := hv
      rcases dep_inv hd with ⟨rfl, rfl⟩ | ⟨n', k, i1, i2, i3, l, r, a, b, hn', rfl, hk, h1, h2, rfl⟩
      · obtain ⟨v, h', ⟨rfl, rfl⟩, hs⟩ := sem (R := fun v h' => v = .int .i64 0 ∧ h' = h) (tabs2 (none_quiet ht26)) ht26 c26 rfl (depth_vcn (fun _ _ => none) h _) ⟨rfl, rfl⟩
        exact ⟨rfl, hs⟩
      · obtain rfl : n' = n := by omega
        have g1 := dep_le h1
        have g2 := dep_le h2
        have e : (AV.int .i64 (IntKind.wrap .i64 (1 + if true = true then if (b : Int) > (a : Int) then (b : Int) else (a : Int) else if (b : Int) < (a : Int) then (b : Int) else (a : Int)))) = .int .i64 (((1 + max a b : Nat) : Nat) : Int) := by
          have : (if true = true then if (b : Int) > (a : Int) then (b : Int) else (a : Int) else if (b : Int) < (a : Int) then (b : Int) else (a : Int)) = ((max a b : Nat) : Int) := by
            simp only [if_true]; split <;> omega
          rw [this, IntKind.wrap_i64]
          exact congrArg (AV.int .i64) (by clear hd hk h1 h2 this; omega)
        obtain ⟨v, h', ⟨rfl, rfl⟩, hs⟩ := sem (R := fun v h' => v = .int .i64 (((1 + max a b : Nat) : Nat) : Int) ∧ h' = h) (tabs2 ih) ht26 c26 rfl (depth_vc (sDepth n') h k _)
          ⟨l, fld hk rfl, a, (show sDepth n' [.ptr l] h = some _ by simp only [sDepth, h1, Option.map_some]), r, fld hk rfl, b, (show sDepth n' [.ptr r] h = some _ by simp only [sDepth, h2, Option.map_some]), e, rfl⟩
        exact ⟨rfl, hs⟩
    · cases hv
def dMax : Nat := 4000
def sDeep : List AV → AHeap → Option AV
  | [.ptr none], _ => some (.int .i64 0)
  | [.ptr (some (k, 0))], h => match h[k]? with
    | some (.row 58 3 [_, .map none, .int .i64 _]) => some (.int .i64 0)
    | some (.row 58 3 [.ptr p, .map (some m), .int .i64 _]) => sDepth dMax [.ptr p] h
    | _ => none
  | _, _ => none
theorem deep_ok : QuietOK Try.prog 11 sDeep := by
  have hD := depth_ok dMax (by decide)
  refine quiet_here ht11 (fun args h v hv => ?_) (fun args h k o hk ⟨ρ, ha, hw⟩ => ?_)
  · unfold sDeep at hv
    split at hv
    · cases hv
      obtain ⟨v, h', ⟨rfl, rfl⟩, hs⟩ := sem (R := fun v h' => v = .int .i64 0 ∧ h' = h) (tabs2 hD) ht11 c11 rfl (deep_vcn _ h _) ⟨true, rfl, rfl, rfl⟩
      exact ⟨rfl, hs⟩
    · rename_i k
      split at hv
      · rename_i hk
        cases hv
        obtain ⟨v, h', ⟨rfl, rfl⟩, hs⟩ := sem (R := fun v h' => v = .int .i64 0 ∧ h' = h) (tabs2 hD) ht11 c11 rfl (deep_vc _ h k _) ⟨true, (show sNone [.ptr (some (k, 0))] h = some _ by simp only [sNone, hk]), rfl, rfl⟩
        exact ⟨rfl, hs⟩
      · rename_i p m _ hk
        have hv0 := hv
        simp only [sDepth, Option.map_eq_some_iff] at hv
        obtain ⟨d, hd, rfl⟩ := hv
        obtain ⟨v, h', ⟨rfl, rfl⟩, hs⟩ := sem (R := fun v h' => v = .int .i64 (d : Nat) ∧ h' = h) (tabs2 hD) ht11 c11 rfl (deep_vc _ h k _) ⟨false, (show sNone [.ptr (some (k, 0))] h = some _ by simp only [sNone, hk]), p, fld hk rfl, d, hv0, rfl, rfl⟩
        exact ⟨rfl, hs⟩
      · cases hv
    · cases hv
  · unfold sDeep
    split
    · rfl
    · have hp := ha _ List.mem_cons_self
      simp only [named_row hk hp]
      split
      · rfl
      · rename_i p m _ hk'
        have h1 := hw _ _ hk'
        simp only [AObj.refs, List.all_cons, List.all_nil, Bool.and_true, Bool.and_eq_true] at h1
        exact depth_free dMax [.ptr p] h k o hk ⟨ρ, fun x hx => by rw [List.mem_singleton] at hx; subst hx; exact h1.1, hw⟩
      · rfl
    · rfl
def big : Nat := 1000000000
open Classical in
noncomputable def s29 (m : Nat) : List AV → AHeap → Option (AV × AHeap)
  | [p, l], h => match theT h p with
    | some T => if T.ids.length < m ∧ ∃ zs, SlI h l zs ∧ zs.length + T.ids.length ≤ big then listH T h l else none
    | none => none
  | _, _ => none
theorem s29_eq {m : Nat} {T : TT} {h : AHeap} {l : AV} {zs : List Int} (hT : Rep h T) (hm : T.ids.length < m) (hs : SlI h l zs) (hb : zs.length + T.ids.length ≤ big) : s29 m [T.av, l] h = listH T h l := by
  simp only [s29, theT_eq hT]
  rw [if_pos ⟨hm, zs, hs, hb⟩]
theorem s29_inv {m : Nat} {args : List AV} {h : AHeap} {r : AV × AHeap} (he : s29 m args h = some r) : ∃ T l zs, args = [T.av, l] ∧ Rep h T ∧ T.ids.length < m ∧ SlI h l zs ∧ zs.length + T.ids.length ≤ big ∧ listH T h l = some r := by
  unfold s29 at he
  split at he
  · split at he
    · rename_i T hT
      split at he
      · rename_i hc
        obtain ⟨h1, zs, h2, h3⟩ := hc
        obtain ⟨rfl, hR⟩ := theT_some hT
        exact ⟨T, _, zs, rfl, hR, h1, h2, h3, he⟩
      · cases he
    · cases he
  · cases he
theorem SlI.hole {h : AHeap} {c : Nat → Nat} {k : Nat} {o : AObj} {l : AV} {zs : List Int} (hk : h[k]? = some .hole) (hl : l.refs (live h) c = true) (hs : SlI (h.set k o) l zs) : SlI h l zs := by
  rcases hs with hs | ⟨k', rfl, hk'⟩
  · exact .inl hs
  · refine .inr ⟨k', rfl, ?_⟩
    have h1 : live h k' = true := by
      simp only [AV.refs, Bool.and_eq_true] at hl
      exact hl.1
    have : k ≠ k' := fun e => by subst e; unfold live at h1; rw [hk] at h1; cases h1
    rw [List.getElem?_set_ne this] at hk'
    exact hk'
theorem SlI.set {h : AHeap} {k : Nat} {o : AObj} {l : AV} {zs : List Int} (hk : h[k]? = some .hole) (hs : SlI h l zs) : SlI (h.set k o) l zs := by
  rcases hs with hs | ⟨k', rfl, hk'⟩
  · exact .inl hs
  · refine .inr ⟨k', rfl, ?_⟩
    have : k ≠ k' := fun e => by subst e; rw [hk] at hk'; cases hk'
    rw [List.getElem?_set_ne this]
    exact hk'
theorem s29_uni (m : Nat) : Uni (s29 m) := by
  intro args h k o v h2 hk ⟨ρ, ha, hw⟩ he
  obtain ⟨T, l, zs, rfl, hR, hm, hs, hb, hl⟩ := s29_inv he
  have hR' : Rep h T := hR.hole hk hw (ha _ List.mem_cons_self)
  have hs' : SlI h l zs := hs.hole hk (ha _ (by simp))
  rw [list_hole o hR' hs' hk] at hl
  obtain ⟨v1, h1, b1, b2, ⟨b3, b4⟩, b5⟩ := list_spec hR' hs'
  rw [b1] at hl
  simp only [Option.map_some, Option.some.injEq, Prod.mk.injEq] at hl
  obtain ⟨rfl, rfl⟩ := hl
  refine ⟨h1, by rw [s29_eq hR' hm hs' hb]; exact b1, b4 _ _ hk fun ⟨n, c, e⟩ => ?_, rfl⟩
  rcases hs' with ⟨rfl, _⟩ | ⟨k', rfl, hk'⟩
  · cases e
  · cases e; rw [hk] at hk'; cases hk'
theorem tabsL {s : List AV → AHeap → Option (AV × AHeap)} (hf : FullOK Try.prog 29 s) (hu : Uni s) : TabsOK tb1 [tL s] [29] := by
  refine ⟨tabs1.q, tabs1.qq, fun x hx => ?_, fun x hx => ?_, fun f hm s' hs' => ?_, by kernel_rfl⟩
  · rw [List.mem_singleton] at hx; subst hx; exact hf
  · rw [List.mem_singleton] at hx; subst hx
    intro vs hp K hK
    obtain ⟨b, hK⟩ := hK
    rcases askD hK with ⟨_, k, n, h', h1, h2⟩ | ⟨_, h', h1, h2⟩
    · exact ⟨_, h1, h2⟩
    · exact ⟨_, h1, h2⟩
  · rw [List.mem_singleton] at hm; subst hm
    have e : (tbSG Q tb1 [tL s]).f 29 = some s := rfl
    rw [e] at hs'; cases hs'; exact hu
theorem slot_row (h : AHeap) (x : AObj) : List.set (h ++ List.replicate (1 + 1) AObj.hole) (h.length + 0) x = h ++ [x, .hole] := by
  rw [List.set_append_right _ _ (by omega)]
  simp [List.replicate]
theorem sl_form {h : AHeap} {l : AV} {zs : List Int} (hs : SlI h l zs) : ∃ q c, l = .sl q zs.length c := by
  rcases hs with ⟨rfl, rfl⟩ | ⟨k, rfl, _⟩ <;> exact ⟨_, _, rfl⟩
theorem ld_row {h : AHeap} {k i : Nat} {t : TypeId} {s : Nat} {cs : List AV} (hk : h[k]? = some (.row t s cs)) : loadZ h none (.ptr (some (k, i))) = cs[i]? := by
  simp only [loadZ, cellsAt, hk, Option.bind_some, objCells, partR]
theorem ints_one (zs : List Int) : (ints zs).all AV.one = true := by
  rw [List.all_eq_true]; intro v hv; simp only [ints, List.mem_map] at hv; obtain ⟨z, _, rfl⟩ := hv; rfl
theorem list_full : ∀ m, FullOK Try.prog 29 (s29 m)
  | 0 => ⟨fun args h v h' he => by obtain ⟨T, l, zs, _, _, hm, _⟩ := s29_inv he; omega, _, ht29.1, ht29.2.1, ht29.2.2⟩
  | m + 1 => by
    have ih := list_full m
    have tb := tabsL ih (s29_uni m)
    refine ⟨fun args h v h' he => ?_, _, ht29.1, ht29.2.1, ht29.2.2⟩
    obtain ⟨T, l, zs, rfl, hR, hm, hs, hb, hl⟩ := s29_inv he
    obtain ⟨q, c, hform⟩ := sl_form hs
    suffices hsuf : ∃ v2 h2, (v2 = v ∧ h2 = h') ∧ CallSem Try.prog 29 [T.av, l] h v2 h2 by
      obtain ⟨v2, h2, ⟨rfl, rfl⟩, hsem⟩ := hsuf
      exact hsem
    cases T with
    | nil =>
      simp only [listH, Option.some.injEq, Prod.mk.injEq] at hl
      obtain ⟨rfl, rfl⟩ := hl
      subst hform
      exact sem tb ht29 c29 rfl (list_vcn (s29 m) h q zs.length c _) ⟨rfl, rfl⟩
    | node k id L R =>
      obtain ⟨⟨sz, up, a1⟩, a2, a3⟩ := hR
      simp only [TT.ids, List.length_append, List.length_cons] at hm hb
      have up1 : ∀ j o, h[j]? = some o → (h ++ [AObj.row 2 1 [.int .i64 id], AObj.hole])[j]? = some o := fun j o ho => by
        have hj : j < h.length := by
          rcases Nat.lt_or_ge j h.length with h1 | h1
          · exact h1
          · rw [List.getElem?_eq_none_iff.2 h1] at ho; cases ho
        rw [List.getElem?_append_left hj]; exact ho
      have up2 : ∀ j o, h[j]? = some o → (h ++ List.replicate (1 + 1) AObj.hole)[j]? = some o := fun j o ho => by
        have hj : j < h.length := by
          rcases Nat.lt_or_ge j h.length with h1 | h1
          · exact h1
          · rw [List.getElem?_eq_none_iff.2 h1] at ho; cases ho
        rw [List.getElem?_append_left hj]; exact ho
      have ltl : ∀ j, names1 l j → j < h.length := fun j ⟨n, c, e⟩ => by
        rcases hs with ⟨rfl, _⟩ | ⟨k', rfl, hk'⟩
        · cases e
        · cases e
          rcases Nat.lt_or_ge j h.length with h1 | h1
          · exact h1
          · rw [List.getElem?_eq_none_iff.2 h1] at hk'; cases hk'
      have klt : k < h.length := by
        rcases Nat.lt_or_ge k h.length with h1 | h1
        · exact h1
        · rw [List.getElem?_eq_none_iff.2 h1] at a1; cases a1
      have nol : ∀ j cs, h[j]? = some (.row 66 5 cs) → ¬ names1 l j := fun j cs hj ⟨n, c, e⟩ => by
        rcases hs with ⟨rfl, _⟩ | ⟨k', rfl, hk'⟩
        · cases e
        · cases e; rw [hj] at hk'; cases hk'
      have a2' : Rep (h ++ [.row 2 1 [.int .i64 id], .hole]) L := a2.mono fun j hj => up1 j
      have hs1 : SlI (h ++ [.row 2 1 [.int .i64 id], .hole]) l zs := hs.mono fun j o _ => up1 j o
      obtain ⟨v1, h1, b1, b2, ⟨b3, b4⟩, b5⟩ := list_spec a2' hs1
      have hole1 : h1[h.length + 1]? = some .hole := b4 _ _ (by simp) fun hn => by have := ltl _ hn; omega
      have row1 : h1[h.length]? = some (.row 2 1 [.int .i64 id]) := b4 _ _ (by simp) fun hn => by have := ltl _ hn; omega
      obtain ⟨h2, c1, c2, c3, c4⟩ := app_spec (id := id) b2 hole1
      have keep1 : ∀ j o, j < h.length → h[j]? = some o → ¬ names1 l j → h1[j]? = some o ∧ ¬ names1 v1 j := fun j o hj ho hn => by
        refine ⟨b4 _ _ (up1 _ _ ho) hn, fun hn' => ?_⟩
        rcases b5 j hn' with g | g
        · exact hn g
        · simp at g; omega
      have keep2 : ∀ j o, j < h.length → h[j]? = some o → ¬ names1 l j → h2[j]? = some o := fun j o hj ho hn => c4 j o (by omega) (keep1 j o hj ho hn).1 (keep1 j o hj ho hn).2
      have a3' : Rep h2 R := a3.mono fun j hj o ho => by
        obtain ⟨cs, hc⟩ := a3.rows j hj
        have hjl : j < h.length := by
          rcases Nat.lt_or_ge j h.length with g | g
          · exact g
          · rw [List.getElem?_eq_none_iff.2 g] at ho; cases ho
        exact keep2 j o hjl ho (nol j cs hc)
      have hs2 : SlI h2 (.sl (some (h.length + 1, 0)) ((zs ++ L.ids).length + 1) (.rel 0)) ((zs ++ L.ids) ++ [id]) := .inr ⟨h.length + 1, by simp [Nat.add_assoc], c2⟩
      obtain ⟨v3, h3, d1, d2, ⟨d3, d4⟩, d5⟩ := list_spec a3' hs2
      have hrk := nol k _ a1
      have k1 := (keep1 k _ klt a1 hrk).1
      have k2 := keep2 k _ klt a1 hrk
      have k3 : h3[k]? = _ := d4 k _ k2 fun ⟨n, c, e⟩ => by
        simp only [AV.sl.injEq, Option.some.injEq, Prod.mk.injEq, and_true] at e
        omega
      have k0 := up1 k _ a1
      have kk := up2 k _ a1
      have e1 : s29 m [L.av, l] (h ++ [.row 2 1 [.int .i64 id], .hole]) = some (v1, h1) := by
        rw [s29_eq a2' (by omega) hs1 (by omega)]; exact b1
      have e2 : s29 m [R.av, .sl (some (h.length + 1, 0)) ((zs ++ L.ids).length + 1) (.rel 0)] h2 = some (v3, h3) := by
        rw [s29_eq a3' (by omega) hs2 (by simp; omega)]; exact d1
      simp only [listH, b1, Option.bind_some, c1] at hl
      rw [d1] at hl
      simp only [Option.some.injEq, Prod.mk.injEq] at hl
      obtain ⟨rfl, rfl⟩ := hl
      obtain ⟨k3', rfl, hk3⟩ : ∃ k', v3 = .sl (some (k', 0)) ((zs ++ L.ids ++ [id]) ++ R.ids).length (.rel 0) ∧ h3[k']? = some (.row 2 1 (ints ((zs ++ L.ids ++ [id]) ++ R.ids))) := by
        rcases d2 with ⟨_, hz⟩ | hx
        · simp at hz
        · exact hx
      have hav : ∀ T : TT, ∃ p, T.av = .ptr p := fun T => by cases T <;> exact ⟨_, rfl⟩
      obtain ⟨pl, hpl⟩ := hav L
      obtain ⟨pr, hpr⟩ := hav R
      rw [hpl] at a1 kk k0 k1 k2 k3 e1
      rw [hpr] at a1 kk k0 k1 k2 k3 e2
      have lb : (zs ++ L.ids).length + 1 ≤ 1000000000 := by
        have : zs.length + (L.ids.length + (R.ids.length + 1)) ≤ 1000000000 := hb
        simp only [List.length_append]; omega
      subst hform
      refine sem tb ht29 c29 rfl (list_vc (s29 m) h k q zs.length c _) ?_
      refine ⟨pr, fld kk rfl, pl, fld kk rfl, id, fld kk rfl, ?_⟩
      refine chkI (by simp [isHole]) ?_
      simp only [slot_row]
      have src : sourceA h1 1 (AV.sl (some (h.length + 0, 0)) 1 (ACap.rel 0)) = some (1, [AV.int .i64 id]) := by
        simp [sourceA, cellsAt, row1, objCells]
      have hh : isHole h1 (h.length + 1) = true := by simp [isHole, hole1]
      rcases b2 with ⟨rfl, hz⟩ | ⟨k', rfl, hk'⟩
      · refine ⟨false, h1, e1, (ld_row k1).trans (ld_row k0).symm, (ld_row k1).trans (ld_row k0).symm, chkI hh ⟨[.int .i64 id], src, chkI rfl ?_⟩⟩
        have eh : h1.set (h.length + 1) (.row 2 1 [.int .i64 id]) = h2 := by
          simp only [appH, Option.some.injEq, Prod.mk.injEq] at c1; exact c1.2
        rw [eh]
        refine ⟨(ld_row k2).trans (ld_row k1).symm, (ld_row k2).trans (ld_row k1).symm, (ld_row k2).trans (ld_row k1).symm, true, k3', _, h3, ?_, (ld_row k3).trans (ld_row k2).symm, (ld_row k3).trans (ld_row k2).symm, rfl, rfl⟩
        have hz0 : (zs ++ L.ids).length + 1 = 1 := by rw [hz]; rfl
        rw [hz0] at e2
        exact e2
      · have n1 : (zs ++ L.ids).length + 1 ≤ 9223372036854775807 := by omega
        have n2 : ((zs ++ L.ids).length + 1) * 8 ≤ 140737488355328 := by omega
        refine ⟨true, k', _, h1, e1, (ld_row k1).trans (ld_row k0).symm, (ld_row k1).trans (ld_row k0).symm, chkI hh ⟨[.int .i64 id], src, 2, 1, _, hk', chkI rfl (chkI rfl (chkI rfl (chkI (by simp [ints]) (chkI (by simpa using n2) (chkI (by simpa using n1) ?_)))))⟩⟩
        have eh : (h1.set k' .dead).set (h.length + 1) (.row 2 1 (ints (zs ++ L.ids) ++ [.int .i64 id])) = h2 := by
          simp only [appH, hk', Option.some.injEq, Prod.mk.injEq] at c1; exact c1.2
        rw [eh]
        exact ⟨(ld_row k2).trans (ld_row k1).symm, (ld_row k2).trans (ld_row k1).symm, (ld_row k2).trans (ld_row k1).symm, true, k3', _, h3, e2, (ld_row k3).trans (ld_row k2).symm, (ld_row k3).trans (ld_row k2).symm, rfl, rfl⟩

end Go.Proofs.Ytncmgbbbekabdaa
