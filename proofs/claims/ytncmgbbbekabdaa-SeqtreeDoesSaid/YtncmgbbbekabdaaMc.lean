/- Written by merging: Sg Sh Si. -/
import Derived.Test.YtncmgbbbekabdaaMb
namespace Go.Proofs.Ytncmgbbbekabdaa
open Go Go.Am Go.RowKit
set_option maxRecDepth 100000
set_option linter.unusedVariables false
set_option linter.unusedSimpArgs false
/-- The rounds of told. -/
def as17 : PC := (.seq (.ops 3 0 [⟨(some 6), .mov (.tmp 9), none⟩])
    (.ops 4 0 [⟨(some 7), .mov (.tmp 10), none⟩]))
def body17 : PC := (.block 1
     (.seq (.seq (.ops 5 0 [⟨(some 11), .load none (.tmp 5), none⟩,
       ⟨(some 12), .load none (.tmp 3), none⟩,
       ⟨(some 13), .lenL (.tmp 12), none⟩,
       ⟨(some 14), .bin .geq (.tmp 11) (.tmp 13), none⟩,
       ⟨(some 15), .mov (.tmp 14), none⟩,
       ⟨(some 16), .mov (.tmp 6), (some ((some 15), false))⟩,
       ⟨(some 17), .load none (.tmp 5), (some ((some 15), false))⟩,
       ⟨(some 18), .bin .neq (.tmp 16) (.tmp 17), (some ((some 15), false))⟩,
       ⟨(some 19), .pick (.tmp 15) (.const (.bool true)) (.tmp 18), none⟩,
       ⟨(some 20), .mov (.tmp 19), none⟩,
       ⟨(some 21), .mov (.tmp 7), (some ((some 20), false))⟩,
       ⟨(some 22), .load none (.tmp 3), (some ((some 20), false))⟩,
       ⟨(some 23), .load none (.tmp 5), (some ((some 20), false))⟩,
       ⟨(some 24), .atL 1 (.tmp 22) (.tmp 23), (some ((some 20), false))⟩,
       ⟨(some 25), .load none (.tmp 24), (some ((some 20), false))⟩,
       ⟨(some 26), .bin .neq (.tmp 21) (.tmp 25), (some ((some 20), false))⟩,
       ⟨(some 27), .pick (.tmp 20) (.const (.bool true)) (.tmp 26), none⟩])
     (.cond (.tmp 27)
      (.seq (.ops 6 0 [⟨none, .store 1 (.tmp 4) (.const (.bool false)), none⟩])
      .ret)
      .skip))
     (.ops 7 0 [⟨(some 28), .load none (.tmp 5), none⟩,
       ⟨(some 29), .bin .add (.tmp 28) (.const (.int .i64 1)), none⟩,
       ⟨none, .store 1 (.tmp 5) (.tmp 29), none⟩])))
theorem parts17 : partsIn p17.body = [.rf (.tmp 8) [9, 10] as17 body17] := rfl
/-- A function value over the ids. -/
def V15 (c : Nat) : AV := .fn 30 [] [.ptr (some (c, 0))]
def e17 (c : Nat) (q : Option (Nat × Nat)) (n : Nat) (cc : ACap) (L : Nat) : List AV := envOf 34 [(0, V15 c), (1, .sl q n cc), (3, .ptr (some (L, 0))), (4, .ptr (some (L + 1, 0))), (5, .ptr (some (L + 1 + 1, 0))), (8, V15 c)]
def T17 (c : Nat) (q : Option (Nat × Nat)) (n : Nat) (cc : ACap) (L : Nat) (zs ws : List Int) (C : AHeap → Prop) (st : St) (K : AExit → St → Prop) : Prop :=
  ∃ H, st = (e17 c q n cc L, H) ∧ C H ∧ askB (zs.isPrefixOf ws) (K .normal (e17 c q n cc L, H.set (L + 1 + 1) (.row 3 1 [.int .i64 zs.length]))) (∀ m : Int, K .ret (e17 c q n cc L, (H.set (L + 1 + 1) (.row 3 1 [.int .i64 m])).set (L + 1) (.row 4 1 [.bool false])))
/-- Code of a round. -/
noncomputable def CR (l : List TbE) (g : List TbG) (ks : List (Nat × K1)) (b : Nat) : Cfg := { CU l g [] ks with S := (SU l g []).noRf, b0 := b }
def r17 (c : Nat) (q : Option (Nat × Nat)) (n : Nat) (cc : ACap) (L : Nat) (i z : Int) : List AV := envOf 34 [(0, V15 c), (1, .sl q n cc), (3, .ptr (some (L, 0))), (4, .ptr (some (L + 1, 0))), (5, .ptr (some (L + 1 + 1, 0))), (6, .int .i64 i), (7, .int .i64 z), (8, V15 c), (9, .int .i64 i), (10, .int .i64 z)]
noncomputable def C17 (c : Nat) (q : Option (Nat × Nat)) (n : Nat) (cc : ACap) (L : Nat) (zs ws : List Int) (X : AHeap → Prop) : Cfg := { CU tb1 [] [] [(30, i64), (31, .slV)] with rw := fun i => if i = 9 then some (T17 c q n cc L zs ws X) else none }
theorem all_vcn (s : List AV → AHeap → Option (AV × AHeap)) (h : AHeap) (R : AV → AHeap → Prop) : (chkW (isHole (h ++ List.replicate (0 + 1) AObj.hole) (List.length h)) (∃ (b : Bool), askB b (some (AV.bool true) = some (AV.bool true) ∧ R (AV.fn 30 [] [AV.ptr (some (List.length h, 0))]) (List.set (h ++ List.replicate (0 + 1) AObj.hole) (List.length h) (AObj.row 39 (List.length (AV.cells (AV.sl none 0 (ACap.fix 0)))) (AV.cells (AV.sl none 0 (ACap.fix 0)))))) (some (AV.bool true) = some (AV.bool false) ∧ False))) = (wpF Try.prog (CU tb1 [tL s] [] []) 30 p15 [.ptr none] h R) := by kernel_rfl
theorem all_vc (s : List AV → AHeap → Option (AV × AHeap)) (h : AHeap) (k : Nat) (R : AV → AHeap → Prop) : (chkW (isHole (h ++ List.replicate (0 + 1) AObj.hole) (List.length h)) (∃ (b : Bool), askB b (TbE.s { f := 24, s := sNone, r := Rs.of (Rs1.one K1.bool) } [AV.ptr (some (k, 0))] (List.set (h ++ List.replicate (0 + 1) AObj.hole) (List.length h) (AObj.row 39 (List.length (AV.cells (AV.sl none 0 (ACap.fix 0)))) (AV.cells (AV.sl none 0 (ACap.fix 0))))) = some (AV.bool true) ∧ R (AV.fn 30 [] [AV.ptr (some (List.length h, 0))]) (List.set (h ++ List.replicate (0 + 1) AObj.hole) (List.length h) (AObj.row 39 (List.length (AV.cells (AV.sl none 0 (ACap.fix 0)))) (AV.cells (AV.sl none 0 (ACap.fix 0)))))) (TbE.s { f := 24, s := sNone, r := Rs.of (Rs1.one K1.bool) } [AV.ptr (some (k, 0))] (List.set (h ++ List.replicate (0 + 1) AObj.hole) (List.length h) (AObj.row 39 (List.length (AV.cells (AV.sl none 0 (ACap.fix 0)))) (AV.cells (AV.sl none 0 (ACap.fix 0))))) = some (AV.bool false) ∧ ∃ (p : Option (Nat × Nat)), (Option.bind (cellsAt (List.set (h ++ List.replicate (0 + 1) AObj.hole) (List.length h) (AObj.row 39 (List.length (AV.cells (AV.sl none 0 (ACap.fix 0)))) (AV.cells (AV.sl none 0 (ACap.fix 0))))) k) fun (x : List AV) => partR none x 0) = some (AV.ptr p) ∧ ∃ (b : Bool), askB b (∃ (k : Nat), ∃ (n : Nat), ∃ (h' : AHeap), s ([] ++ List.reverse [AV.sl none 0 (ACap.fix 0), AV.ptr p] ++ []) (List.set (h ++ List.replicate (0 + 1) AObj.hole) (List.length h) (AObj.row 39 (List.length (AV.cells (AV.sl none 0 (ACap.fix 0)))) (AV.cells (AV.sl none 0 (ACap.fix 0))))) = some (AV.sl (some (k, 0)) n (ACap.rel 0), h') ∧ ∃ (t : TypeId), ∃ (s : Nat), ∃ (cs : List AV), h'[List.length h]? = some (AObj.row t s cs) ∧ chkW (decide (1 ≤ List.length cs)) (R (AV.fn 30 [] [AV.ptr (some (List.length h, 0))]) (List.set h' (List.length h) (AObj.row t s (spliceA cs 0 (AV.cells (AV.sl (some (k, 0)) n (ACap.rel 0)))))))) (∃ (h' : AHeap), s ([] ++ List.reverse [AV.sl none 0 (ACap.fix 0), AV.ptr p] ++ []) (List.set (h ++ List.replicate (0 + 1) AObj.hole) (List.length h) (AObj.row 39 (List.length (AV.cells (AV.sl none 0 (ACap.fix 0)))) (AV.cells (AV.sl none 0 (ACap.fix 0))))) = some (AV.sl none 0 (ACap.fix 0), h') ∧ ∃ (t : TypeId), ∃ (s : Nat), ∃ (cs : List AV), h'[List.length h]? = some (AObj.row t s cs) ∧ chkW (decide (1 ≤ List.length cs)) (R (AV.fn 30 [] [AV.ptr (some (List.length h, 0))]) (List.set h' (List.length h) (AObj.row t s (spliceA cs 0 (AV.cells (AV.sl none 0 (ACap.fix 0))))))))))) = (wpF Try.prog (CU tb1 [tL s] [] [(10, .ptrV)]) 30 p15 [.ptr (some (k, 0))] h R) := by kernel_rfl
theorem told_vc (c : Nat) (q : Option (Nat × Nat)) (n : Nat) (cc : ACap) (zs ws : List Int) (X : AHeap → Prop) (h : AHeap) (R : AV → AHeap → Prop) : (chkW (isHole (h ++ List.replicate (1 + 1) AObj.hole) (List.length h)) (chkW (isHole (List.set (h ++ List.replicate (1 + 1) AObj.hole) (List.length h) (AObj.row 39 (List.length (AV.cells (AV.sl q n cc))) (AV.cells (AV.sl q n cc)))) (List.length h + 1)) (chkW (isHole (List.set (List.set (h ++ List.replicate (1 + 1) AObj.hole) (List.length h) (AObj.row 39 (List.length (AV.cells (AV.sl q n cc))) (AV.cells (AV.sl q n cc)))) (List.length h + 1) (AObj.row 4 (List.length (AV.cells (AV.bool false))) (AV.cells (AV.bool false))) ++ List.replicate (0 + 1) AObj.hole) (List.length (List.set (List.set (h ++ List.replicate (1 + 1) AObj.hole) (List.length h) (AObj.row 39 (List.length (AV.cells (AV.sl q n cc))) (AV.cells (AV.sl q n cc)))) (List.length h + 1) (AObj.row 4 (List.length (AV.cells (AV.bool false))) (AV.cells (AV.bool false)))))) (∃ (t : TypeId), ∃ (s : Nat), ∃ (cs : List AV), (List.set (List.set (List.set (h ++ List.replicate (1 + 1) AObj.hole) (List.length h) (AObj.row 39 (List.length (AV.cells (AV.sl q n cc))) (AV.cells (AV.sl q n cc)))) (List.length h + 1) (AObj.row 4 (List.length (AV.cells (AV.bool false))) (AV.cells (AV.bool false))) ++ List.replicate (0 + 1) AObj.hole) (List.length (List.set (List.set (h ++ List.replicate (1 + 1) AObj.hole) (List.length h) (AObj.row 39 (List.length (AV.cells (AV.sl q n cc))) (AV.cells (AV.sl q n cc)))) (List.length h + 1) (AObj.row 4 (List.length (AV.cells (AV.bool false))) (AV.cells (AV.bool false))))) (AObj.row 3 (List.length (AV.cells (AV.int .i64 0))) (AV.cells (AV.int .i64 0))))[List.length (List.set (List.set (h ++ List.replicate (1 + 1) AObj.hole) (List.length h) (AObj.row 39 (List.length (AV.cells (AV.sl q n cc))) (AV.cells (AV.sl q n cc)))) (List.length h + 1) (AObj.row 4 (List.length (AV.cells (AV.bool false))) (AV.cells (AV.bool false))))]? = some (AObj.row t s cs) ∧ chkW (decide (1 ≤ List.length cs)) (∃ (H : AHeap), (envOf 34 [(0, AV.fn 30 [] [AV.ptr (some (c, 0))]), (1, AV.sl q n cc), (3, AV.ptr (some (List.length h, 0))), (4, AV.ptr (some (List.length h + 1, 0))), (5, AV.ptr (some (List.length (List.set (List.set (h ++ List.replicate (1 + 1) AObj.hole) (List.length h) (AObj.row 39 (List.length (AV.cells (AV.sl q n cc))) (AV.cells (AV.sl q n cc)))) (List.length h + 1) (AObj.row 4 (List.length (AV.cells (AV.bool false))) (AV.cells (AV.bool false)))), 0))), (8, AV.fn 30 [] [AV.ptr (some (c, 0))])], List.set (List.set (List.set (List.set (h ++ List.replicate (1 + 1) AObj.hole) (List.length h) (AObj.row 39 (List.length (AV.cells (AV.sl q n cc))) (AV.cells (AV.sl q n cc)))) (List.length h + 1) (AObj.row 4 (List.length (AV.cells (AV.bool false))) (AV.cells (AV.bool false))) ++ List.replicate (0 + 1) AObj.hole) (List.length (List.set (List.set (h ++ List.replicate (1 + 1) AObj.hole) (List.length h) (AObj.row 39 (List.length (AV.cells (AV.sl q n cc))) (AV.cells (AV.sl q n cc)))) (List.length h + 1) (AObj.row 4 (List.length (AV.cells (AV.bool false))) (AV.cells (AV.bool false))))) (AObj.row 3 (List.length (AV.cells (AV.int .i64 0))) (AV.cells (AV.int .i64 0)))) (List.length (List.set (List.set (h ++ List.replicate (1 + 1) AObj.hole) (List.length h) (AObj.row 39 (List.length (AV.cells (AV.sl q n cc))) (AV.cells (AV.sl q n cc)))) (List.length h + 1) (AObj.row 4 (List.length (AV.cells (AV.bool false))) (AV.cells (AV.bool false))))) (AObj.row t s (spliceA cs 0 (AV.cells (AV.int .i64 0))))) = (envOf 34 [(0, AV.fn 30 [] [AV.ptr (some (c, 0))]), (1, AV.sl q n cc), (3, AV.ptr (some (List.length h, 0))), (4, AV.ptr (some (List.length h + 1, 0))), (5, AV.ptr (some (List.length h + 1 + 1, 0))), (8, AV.fn 30 [] [AV.ptr (some (c, 0))])], H) ∧ X H ∧ askB (List.isPrefixOf zs ws) (∃ (n_1 : Int), (Option.bind (cellsAt (List.set H (List.length h + 1 + 1) (AObj.row 3 1 [AV.int .i64 (↑(List.length zs) : Int)])) (List.length h + 1 + 1)) fun (x : List AV) => partR none x 0) = some (AV.int .i64 n_1) ∧ ∃ (q_1 : Option (Nat × Nat)), ∃ (n_2 : Nat), ∃ (c_1 : ACap), (Option.bind (cellsAt (List.set H (List.length h + 1 + 1) (AObj.row 3 1 [AV.int .i64 (↑(List.length zs) : Int)])) (List.length h)) fun (x : List AV) => partR none x 0) = some (AV.sl q_1 n_2 c_1) ∧ askB (n_1 == (↑n_2 : Int)) (∃ (t : TypeId), ∃ (s : Nat), ∃ (cs : List AV), (List.set H (List.length h + 1 + 1) (AObj.row 3 1 [AV.int .i64 (↑(List.length zs) : Int)]))[List.length h + 1]? = some (AObj.row t s cs) ∧ chkW (decide (1 ≤ List.length cs)) (∃ (v : AV), resP Try.prog p17 ([AV.fn 30 [] [AV.ptr (some (c, 0))], AV.sl q n cc, AV.any, AV.ptr (some (List.length h, 0)), AV.ptr (some (List.length h + 1, 0)), AV.ptr (some (List.length h + 1 + 1, 0)), AV.any, AV.any, AV.fn 30 [] [AV.ptr (some (c, 0))], AV.any, AV.any, AV.any, AV.any, AV.any, AV.any, AV.any, AV.any, AV.any, AV.any, AV.any, AV.any, AV.any, AV.any, AV.any, AV.any, AV.any, AV.any, AV.any, AV.any, AV.any, AV.int .i64 n_1, AV.sl q_1 n_2 c_1, AV.int .i64 (↑n_2 : Int), AV.bool true], List.set (List.set H (List.length h + 1 + 1) (AObj.row 3 1 [AV.int .i64 (↑(List.length zs) : Int)])) (List.length h + 1) (AObj.row t s (spliceA cs 0 (AV.cells (AV.bool true))))) = some v ∧ R v (List.set (List.set H (List.length h + 1 + 1) (AObj.row 3 1 [AV.int .i64 (↑(List.length zs) : Int)])) (List.length h + 1) (AObj.row t s (spliceA cs 0 (AV.cells (AV.bool true))))))) (∃ (t : TypeId), ∃ (s : Nat), ∃ (cs : List AV), (List.set H (List.length h + 1 + 1) (AObj.row 3 1 [AV.int .i64 (↑(List.length zs) : Int)]))[List.length h + 1]? = some (AObj.row t s cs) ∧ chkW (decide (1 ≤ List.length cs)) (∃ (v : AV), resP Try.prog p17 ([AV.fn 30 [] [AV.ptr (some (c, 0))], AV.sl q n cc, AV.any, AV.ptr (some (List.length h, 0)), AV.ptr (some (List.length h + 1, 0)), AV.ptr (some (List.length h + 1 + 1, 0)), AV.any, AV.any, AV.fn 30 [] [AV.ptr (some (c, 0))], AV.any, AV.any, AV.any, AV.any, AV.any, AV.any, AV.any, AV.any, AV.any, AV.any, AV.any, AV.any, AV.any, AV.any, AV.any, AV.any, AV.any, AV.any, AV.any, AV.any, AV.any, AV.int .i64 n_1, AV.sl q_1 n_2 c_1, AV.int .i64 (↑n_2 : Int), AV.bool false], List.set (List.set H (List.length h + 1 + 1) (AObj.row 3 1 [AV.int .i64 (↑(List.length zs) : Int)])) (List.length h + 1) (AObj.row t s (spliceA cs 0 (AV.cells (AV.bool false))))) = some v ∧ R v (List.set (List.set H (List.length h + 1 + 1) (AObj.row 3 1 [AV.int .i64 (↑(List.length zs) : Int)])) (List.length h + 1) (AObj.row t s (spliceA cs 0 (AV.cells (AV.bool false)))))))) (∀ (m : Int), ∃ (v : AV), resP Try.prog p17 ([AV.fn 30 [] [AV.ptr (some (c, 0))], AV.sl q n cc, AV.any, AV.ptr (some (List.length h, 0)), AV.ptr (some (List.length h + 1, 0)), AV.ptr (some (List.length h + 1 + 1, 0)), AV.any, AV.any, AV.fn 30 [] [AV.ptr (some (c, 0))], AV.any, AV.any, AV.any, AV.any, AV.any, AV.any, AV.any, AV.any, AV.any, AV.any, AV.any, AV.any, AV.any, AV.any, AV.any, AV.any, AV.any, AV.any, AV.any, AV.any, AV.any, AV.any, AV.any, AV.any, AV.any], List.set (List.set H (List.length h + 1 + 1) (AObj.row 3 1 [AV.int .i64 m])) (List.length h + 1) (AObj.row 4 1 [AV.bool false])) = some v ∧ R v (List.set (List.set H (List.length h + 1 + 1) (AObj.row 3 1 [AV.int .i64 m])) (List.length h + 1) (AObj.row 4 1 [AV.bool false])))))))) = (wpF Try.prog (C17 c q n cc h.length zs ws X) 30 p17 [V15 c, .sl q n cc] h R) := by kernel_rfl
theorem told_as (c : Nat) (q : Option (Nat × Nat)) (n : Nat) (cc : ACap) (L : Nat) (H : AHeap) (i : Nat) (z : Int) (b : Nat) (K : AExit → St → Prop) : (K AExit.normal (envOf 34 [(0, AV.fn 30 [] [AV.ptr (some (c, 0))]), (1, AV.sl q n cc), (3, AV.ptr (some (L, 0))), (4, AV.ptr (some (L + 1, 0))), (5, AV.ptr (some (L + 1 + 1, 0))), (6, AV.int .i64 (↑i : Int)), (7, AV.int .i64 z), (8, AV.fn 30 [] [AV.ptr (some (c, 0))]), (9, AV.int .i64 (↑i : Int)), (10, AV.int .i64 z)], H)) = (wpP Try.prog (CR tb1 [] [] b) 30 (.inl as17) (roundEnv 9 10 (e17 c q n cc L) i z, H) K) := by kernel_rfl
theorem told_body (c : Nat) (q : Option (Nat × Nat)) (n : Nat) (cc : ACap) (L : Nat) (H : AHeap) (i : Int) (z : Int) (b : Nat) (K : AExit → St → Prop) : (∃ (n_1 : Int), (Option.bind (cellsAt H (L + 1 + 1)) fun (x : List AV) => partR none x 0) = some (AV.int .i64 n_1) ∧ ∃ (q_1 : Option (Nat × Nat)), ∃ (n_2 : Nat), ∃ (c_1 : ACap), (Option.bind (cellsAt H L) fun (x : List AV) => partR none x 0) = some (AV.sl q_1 n_2 c_1) ∧ askB (decide (n_1 ≥ (↑n_2 : Int))) (∃ (t : TypeId), ∃ (s : Nat), ∃ (cs : List AV), H[L + 1]? = some (AObj.row t s cs) ∧ chkW (decide (1 ≤ List.length cs)) (K AExit.ret (envOf 34 [(0, AV.fn 30 [] [AV.ptr (some (c, 0))]), (1, AV.sl q n cc), (3, AV.ptr (some (L, 0))), (4, AV.ptr (some (L + 1, 0))), (5, AV.ptr (some (L + 1 + 1, 0))), (6, AV.int .i64 i), (7, AV.int .i64 z), (8, AV.fn 30 [] [AV.ptr (some (c, 0))]), (9, AV.int .i64 i), (10, AV.int .i64 z), (11, AV.int .i64 n_1), (12, AV.sl q_1 n_2 c_1), (13, AV.int .i64 (↑n_2 : Int)), (14, AV.bool true), (15, AV.bool true), (16, AV.und), (17, AV.und), (18, AV.und), (19, AV.bool true), (20, AV.bool true), (21, AV.und), (22, AV.und), (23, AV.und), (24, AV.und), (25, AV.und), (26, AV.und), (27, AV.bool true)], List.set H (L + 1) (AObj.row t s (spliceA cs 0 (AV.cells (AV.bool false))))))) (∃ (n_3 : Int), (Option.bind (cellsAt H (L + 1 + 1)) fun (x : List AV) => partR none x 0) = some (AV.int .i64 n_3) ∧ askB (i != n_3) (∃ (t : TypeId), ∃ (s : Nat), ∃ (cs : List AV), H[L + 1]? = some (AObj.row t s cs) ∧ chkW (decide (1 ≤ List.length cs)) (K AExit.ret (envOf 34 [(0, AV.fn 30 [] [AV.ptr (some (c, 0))]), (1, AV.sl q n cc), (3, AV.ptr (some (L, 0))), (4, AV.ptr (some (L + 1, 0))), (5, AV.ptr (some (L + 1 + 1, 0))), (6, AV.int .i64 i), (7, AV.int .i64 z), (8, AV.fn 30 [] [AV.ptr (some (c, 0))]), (9, AV.int .i64 i), (10, AV.int .i64 z), (11, AV.int .i64 n_1), (12, AV.sl q_1 n_2 c_1), (13, AV.int .i64 (↑n_2 : Int)), (14, AV.bool false), (15, AV.bool false), (16, AV.int .i64 i), (17, AV.int .i64 n_3), (18, AV.bool true), (19, AV.bool true), (20, AV.bool true), (21, AV.und), (22, AV.und), (23, AV.und), (24, AV.und), (25, AV.und), (26, AV.und), (27, AV.bool true)], List.set H (L + 1) (AObj.row t s (spliceA cs 0 (AV.cells (AV.bool false))))))) (∃ (k : Nat), ∃ (o : Nat), ∃ (n_4 : Nat), ∃ (c_2 : ACap), (Option.bind (cellsAt H L) fun (x : List AV) => partR none x 0) = some (AV.sl (some (k, o)) n_4 c_2) ∧ ∃ (n_5 : Int), (Option.bind (cellsAt H (L + 1 + 1)) fun (x : List AV) => partR none x 0) = some (AV.int .i64 n_5) ∧ chkW (decide (0 ≤ n_5)) (chkW (decide (n_5 < (↑n_4 : Int))) (∃ (n_6 : Int), (Option.bind (cellsAt H k) fun (x : List AV) => partR none x (o + Int.toNat n_5 * 1)) = some (AV.int .i64 n_6) ∧ askB (z != n_6) (∃ (t : TypeId), ∃ (s : Nat), ∃ (cs : List AV), H[L + 1]? = some (AObj.row t s cs) ∧ chkW (decide (1 ≤ List.length cs)) (K AExit.ret (envOf 34 [(0, AV.fn 30 [] [AV.ptr (some (c, 0))]), (1, AV.sl q n cc), (3, AV.ptr (some (L, 0))), (4, AV.ptr (some (L + 1, 0))), (5, AV.ptr (some (L + 1 + 1, 0))), (6, AV.int .i64 i), (7, AV.int .i64 z), (8, AV.fn 30 [] [AV.ptr (some (c, 0))]), (9, AV.int .i64 i), (10, AV.int .i64 z), (11, AV.int .i64 n_1), (12, AV.sl q_1 n_2 c_1), (13, AV.int .i64 (↑n_2 : Int)), (14, AV.bool false), (15, AV.bool false), (16, AV.int .i64 i), (17, AV.int .i64 n_3), (18, AV.bool false), (19, AV.bool false), (20, AV.bool false), (21, AV.int .i64 z), (22, AV.sl (some (k, o)) n_4 c_2), (23, AV.int .i64 n_5), (24, AV.ptr (some (k, o + Int.toNat n_5 * 1))), (25, AV.int .i64 n_6), (26, AV.bool true), (27, AV.bool true)], List.set H (L + 1) (AObj.row t s (spliceA cs 0 (AV.cells (AV.bool false))))))) (∃ (n_7 : Int), (Option.bind (cellsAt H (L + 1 + 1)) fun (x : List AV) => partR none x 0) = some (AV.int .i64 n_7) ∧ ∃ (t : TypeId), ∃ (s : Nat), ∃ (cs : List AV), H[L + 1 + 1]? = some (AObj.row t s cs) ∧ chkW (decide (1 ≤ List.length cs)) (K AExit.normal (envOf 34 [(0, AV.fn 30 [] [AV.ptr (some (c, 0))]), (1, AV.sl q n cc), (3, AV.ptr (some (L, 0))), (4, AV.ptr (some (L + 1, 0))), (5, AV.ptr (some (L + 1 + 1, 0))), (6, AV.int .i64 i), (7, AV.int .i64 z), (8, AV.fn 30 [] [AV.ptr (some (c, 0))]), (9, AV.int .i64 i), (10, AV.int .i64 z), (11, AV.int .i64 n_1), (12, AV.sl q_1 n_2 c_1), (13, AV.int .i64 (↑n_2 : Int)), (14, AV.bool false), (15, AV.bool false), (16, AV.int .i64 i), (17, AV.int .i64 n_3), (18, AV.bool false), (19, AV.bool false), (20, AV.bool false), (21, AV.int .i64 z), (22, AV.sl (some (k, o)) n_4 c_2), (23, AV.int .i64 n_5), (24, AV.ptr (some (k, o + Int.toNat n_5 * 1))), (25, AV.int .i64 n_6), (26, AV.bool false), (27, AV.bool false), (28, AV.int .i64 n_7), (29, AV.int .i64 (IntKind.wrap .i64 (n_7 + 1)))], List.set H (L + 1 + 1) (AObj.row t s (spliceA cs 0 (AV.cells (AV.int .i64 (IntKind.wrap .i64 (n_7 + 1)))))))))))))) = (wpP Try.prog (CR tb1 [] [(11, i64), (17, i64), (23, i64), (28, i64), (12, .slV), (22, .slS), (25, i64)] b) 30 (.inl body17) (r17 c q n cc L i z, H) K) := by kernel_rfl
theorem set_b0 (h l : AHeap) (x : AObj) : (h ++ l).set h.length x = h ++ l.set 0 x := by rw [List.set_append_right _ _ (Nat.le_refl _)]; simp
theorem set_b1 (h l : AHeap) (x : AObj) : (h ++ l).set (h.length + 1) x = h ++ l.set 1 x := by rw [List.set_append_right _ _ (by omega)]; simp
theorem set_b2 (h l : AHeap) (x : AObj) : (h ++ l).set (h.length + 1 + 1) x = h ++ l.set 2 x := by rw [List.set_append_right _ _ (by omega)]; congr 2; omega
theorem get_b0 (h l : AHeap) : (h ++ l)[h.length]? = l[0]? := by rw [List.getElem?_append_right (Nat.le_refl _)]; simp
theorem get_b1 (h l : AHeap) : (h ++ l)[h.length + 1]? = l[1]? := by rw [List.getElem?_append_right (by omega)]; simp
theorem get_b2 (h l : AHeap) : (h ++ l)[h.length + 1 + 1]? = l[2]? := by rw [List.getElem?_append_right (by omega)]; congr 1; omega
theorem repl1 : List.replicate (0 + 1) AObj.hole = [.hole] := rfl
theorem repl2 : List.replicate (1 + 1) AObj.hole = [.hole, .hole] := rfl
/-- The ids of the tree at a pointer. -/
def TreeIds (h : AHeap) (p : AV) (zs : List Int) : Prop := (sNone [p] h = some (.bool true) ∧ zs = []) ∨
  ∃ k T m lk, p = .ptr (some (k, 0)) ∧ h[k]? = some (.row 58 3 [T.av, .map (some m), .int .i64 lk]) ∧ Rep h T ∧ zs = T.ids ∧ T.ids.length ≤ 1000000
theorem TreeIds.one {h : AHeap} {p : AV} {zs zs' : List Int} (h1 : TreeIds h p zs) (h2 : TreeIds h p zs') : zs = zs' := by
  have no : ∀ k T m lk, h[k]? = some (.row 58 3 [T, .map (some m), .int .i64 lk]) → sNone [.ptr (some (k, 0))] h ≠ some (.bool true) := fun k T m lk hk he => by
    simp only [sNone, hk] at he; cases he
  rcases h1 with ⟨a, rfl⟩ | ⟨k, T, m, lk, rfl, a2, a3, rfl, a5⟩
  · rcases h2 with ⟨_, rfl⟩ | ⟨k, T, m, lk, rfl, b2, _⟩
    · rfl
    · exact absurd a (no _ _ _ _ b2)
  · rcases h2 with ⟨b, rfl⟩ | ⟨k', T', m', lk', e, b2, b3, rfl, b5⟩
    · exact absurd b (no _ _ _ _ a2)
    · cases e
      rw [a2] at b2
      simp only [Option.some.injEq, AObj.row.injEq, true_and, List.cons.injEq] at b2
      rw [Rep.one a3 b3 b2.1]
theorem none_grow {h h' : AHeap} {p : AV} {b : AV} (hg : Grow h h') (hn : sNone [p] h = some b) : sNone [p] h' = some b := by
  have : p = .ptr none ∨ ∃ k, p = .ptr (some (k, 0)) := by
    unfold sNone at hn
    split at hn
    · rename_i he; cases he; exact .inl rfl
    · rename_i he; cases he; exact .inr ⟨_, rfl⟩
    · cases hn
  rcases this with rfl | ⟨k, rfl⟩
  · exact hn
  · simp only [sNone] at hn ⊢
    split at hn
    · rename_i hk; rw [hg _ _ hk]; exact hn
    · rename_i hk; rw [hg _ _ hk]; exact hn
    · cases hn
theorem TreeIds.grow {h h' : AHeap} {p : AV} {zs : List Int} (hg : Grow h h') (ht : TreeIds h p zs) : TreeIds h' p zs := by
  rcases ht with ⟨a, rfl⟩ | ⟨k, T, m, lk, rfl, a2, a3, rfl, a5⟩
  · exact .inl ⟨none_grow hg a, rfl⟩
  · exact .inr ⟨k, T, m, lk, rfl, hg _ _ a2, a3.mono fun j _ o ho => hg j o ho, rfl, a5⟩
/-- A function value over these ids. -/
def AllAt (h : AHeap) (c : Nat) (zs : List Int) : Prop := ∃ l, h[c]? = some (.row 39 1 [l]) ∧ SlI h l zs ∧ zs.length ≤ 1000000
theorem AllAt.grow {h h' : AHeap} {c : Nat} {zs : List Int} (hg : Grow h h') (ha : AllAt h c zs) : AllAt h' c zs := by
  obtain ⟨l, h1, h2, h3⟩ := ha
  exact ⟨l, hg _ _ h1, h2.mono fun j o _ ho => hg j o ho, h3⟩
def P15 (vs : List AV) (h : AHeap) (c : Nat) (h' : AHeap) : Prop := ∀ p zs, vs = [p] → TreeIds h p zs → AllAt h' c zs ∧ Grow h h' ∧ h.length ≤ c ∧ ∀ l j, h'[c]? = some (.row 39 1 [l]) → names1 l j → h.length ≤ j
theorem list0_full : FullOK Try.prog 29 (s29 10000000) := list_full _
theorem tabsAll : TabsOK tb1 [tL (s29 10000000)] [] := by
  have := tabsL list0_full (s29_uni _)
  exact ⟨this.q, this.qq, this.f, this.t, fun _ h => (by cases h), rfl⟩
/-- All at no tree. -/
theorem all_none {h : AHeap} {p : AV} (hn : sNone [p] h = some (.bool true)) : CallSem Try.prog 15 [p] h (V15 h.length) (h ++ [.row 39 1 [.sl none 0 (.fix 0)]]) := by
  have g0 : Grow h (h ++ [.row 39 1 [.sl none 0 (.fix 0)]]) := Grow.app _ _
  have hp : p = .ptr none ∨ ∃ k, p = .ptr (some (k, 0)) := by
    unfold sNone at hn
    split at hn
    · rename_i he; cases he; exact .inl rfl
    · rename_i he; cases he; exact .inr ⟨_, rfl⟩
    · cases hn
  rcases hp with rfl | ⟨k, rfl⟩
  · obtain ⟨v, h', ⟨rfl, rfl⟩, hs⟩ := sem (R := fun v h' => v = V15 h.length ∧ h' = h ++ [.row 39 1 [.sl none 0 (.fix 0)]]) tabsAll ht15 c15 rfl (all_vcn _ h _)
      (chkI (by simp [isHole]) ⟨true, rfl, rfl, by rw [repl1, set_b0]; rfl⟩)
    exact hs
  · obtain ⟨v, h', ⟨rfl, rfl⟩, hs⟩ := sem (R := fun v h' => v = V15 h.length ∧ h' = h ++ [.row 39 1 [.sl none 0 (.fix 0)]]) tabsAll ht15 c15 rfl (all_vc _ h k _)
      (chkI (by simp [isHole]) ⟨true, by rw [repl1, set_b0]; exact none_grow g0 hn, rfl, by rw [repl1, set_b0]; rfl⟩)
    exact hs
theorem all_can {h : AHeap} {p : AV} {zs : List Int} (ht : TreeIds h p zs) : ComesTo Try.prog 15 V15 P15 [p] h := by
  have fin : ∀ {c : Nat} {h' : AHeap}, (AllAt h' c zs ∧ Grow h h' ∧ h.length ≤ c ∧ ∀ l j, h'[c]? = some (.row 39 1 [l]) → names1 l j → h.length ≤ j) → CallSem Try.prog 15 [p] h (V15 c) h' → ComesTo Try.prog 15 V15 P15 [p] h := fun {c h'} h1 h2 => ⟨c, h', fun p' zs' e ht' => by
    cases e
    rw [ht'.one ht]; exact h1, h2⟩
  have g0 : Grow h (h ++ [.row 39 1 [.sl none 0 (.fix 0)]]) := Grow.app _ _
  rcases ht with ⟨hn, rfl⟩ | ⟨k, T, m, lk, rfl, hk, hT, rfl, hb⟩
  · refine fin ⟨⟨_, by rw [get_b0]; rfl, .inl ⟨rfl, rfl⟩, by simp⟩, g0, Nat.le_refl _, fun l j hl hj => ?_⟩ (all_none hn)
    rw [get_b0] at hl
    simp only [List.getElem?_cons_zero, Option.some.injEq, AObj.row.injEq, List.cons.injEq, and_true, true_and] at hl
    subst hl
    obtain ⟨n, c, e⟩ := hj
    cases e
  · have hn : sNone [.ptr (some (k, 0))] (h ++ [.row 39 1 [.sl none 0 (.fix 0)]]) = some (.bool false) := by simp only [sNone, g0 _ _ hk]
    have hT0 : Rep (h ++ [.row 39 1 [.sl none 0 (.fix 0)]]) T := hT.mono fun j _ o ho => g0 j o ho
    have hs0 : SlI (h ++ [.row 39 1 [.sl none 0 (.fix 0)]]) (.sl none 0 (.fix 0)) [] := .inl ⟨rfl, rfl⟩
    obtain ⟨v1, h1, b1, b2, ⟨b3, b4⟩, b5⟩ := list_spec hT0 hs0
    have hav : ∃ p, T.av = .ptr p := by cases T <;> exact ⟨_, rfl⟩
    obtain ⟨pt, hpt⟩ := hav
    have e1 : s29 10000000 [T.av, .sl none 0 (.fix 0)] (h ++ [.row 39 1 [.sl none 0 (.fix 0)]]) = some (v1, h1) := by
      rw [s29_eq hT0 (by omega) hs0 (by simp only [big, List.length_nil]; omega)]; exact b1
    have no : ∀ j, ¬ names1 (.sl none 0 (.fix 0)) j := fun j ⟨n, c, e⟩ => by cases e
    have g1 : Grow h h1 := g0.trans fun j o ho => b4 j o ho (no j)
    have hc : h1[h.length]? = some (.row 39 1 [.sl none 0 (.fix 0)]) := b4 _ _ (by rw [get_b0]; rfl) (no _)
    have g2 : ∀ x, Grow h (h1.set h.length x) := fun x => g1.set (Nat.le_refl _) x
    have hlt : h.length < h1.length := lt_of_row hc
    rw [hpt] at hk e1
    rw [List.nil_append] at b2
    rcases b2 with ⟨rfl, hz⟩ | ⟨k', rfl, hk'⟩
    · obtain ⟨v, h', ⟨rfl, rfl⟩, hs⟩ := sem (R := fun v h' => v = V15 h.length ∧ h' = h1.set h.length (.row 39 1 [.sl none 0 (.fix 0)])) tabsAll ht15 c15 rfl (all_vc _ h k _)
        (chkI (by simp [isHole]) ⟨false, by rw [repl1, set_b0]; exact hn, pt, by rw [repl1, set_b0]; exact fld (g0 _ _ hk) rfl, false, h1, by rw [repl1, set_b0]; exact e1, 39, 1, _, hc, chkI rfl ⟨rfl, rfl⟩⟩)
      refine fin ⟨⟨_, List.getElem?_set_self hlt, .inl ⟨rfl, hz⟩, hb⟩, g2 _, Nat.le_refl _, fun l j hl hj => ?_⟩ hs
      rw [List.getElem?_set_self hlt] at hl
      simp only [Option.some.injEq, AObj.row.injEq, List.cons.injEq, and_true, true_and] at hl
      subst hl
      obtain ⟨n, c, e⟩ := hj
      cases e
    · have hne : h.length ≠ k' := fun e => by subst e; rw [hc] at hk'; cases hk'
      obtain ⟨v, h', ⟨rfl, rfl⟩, hs⟩ := sem (R := fun v h' => v = V15 h.length ∧ h' = h1.set h.length (.row 39 1 [.sl (some (k', 0)) T.ids.length (.rel 0)])) tabsAll ht15 c15 rfl (all_vc _ h k _)
        (chkI (by simp [isHole]) ⟨false, by rw [repl1, set_b0]; exact hn, pt, by rw [repl1, set_b0]; exact fld (g0 _ _ hk) rfl, true, k', _, h1, by rw [repl1, set_b0]; exact e1, 39, 1, _, hc, chkI rfl ⟨rfl, rfl⟩⟩)
      refine fin ⟨⟨_, List.getElem?_set_self hlt, .inr ⟨k', rfl, by rw [List.getElem?_set_ne hne]; exact hk'⟩, hb⟩, g2 _, Nat.le_refl _, fun l j hl hj => ?_⟩ hs
      rw [List.getElem?_set_self hlt] at hl
      simp only [Option.some.injEq, AObj.row.injEq, List.cons.injEq, and_true, true_and] at hl
      subst hl
      rcases b5 j (by obtain ⟨n, c, e⟩ := hj; cases e; exact ⟨_, _, rfl⟩) with g | g
      · exact absurd g (no j)
      · simp at g; omega
theorem CR_cw {l : List TbE} {g : List TbG} {ks : List (Nat × K1)} {b : Nat} (h : TabsOK l g []) : CwOK (CR l g ks b).S (CR l g ks b).cw := by
  intro f T vs hp K hg hT
  exact tbWG_ok (Q := Q) h.qq h.t f T vs hp K hg hT
/-- A round's piece of code. -/
theorem roundW {l : List TbE} {g : List TbG} {ks : List (Nat × K1)} {b : Nat} (h : TabsOK l g []) {pc : PC} (hp : partsIn pc = []) {n : Nat} {st : St} {K : AExit → St → Prop} {A : Prop} (he : A = wpP Try.prog (CR l g ks b) n (.inl pc) st K) (ha : A) : W Try.prog (SU l g []).noRf b (.inl pc) st K :=
  (wpP_ok (C := CR l g ks b) (CR_cw h) n).1 pc st K (no_parts hp) (by rw [← he]; exact ha)
theorem ints_inj : ∀ {zs zs' : List Int}, ints zs = ints zs' → zs = zs'
  | [], [], _ => rfl
  | [], _ :: _, h => by simp [ints] at h
  | _ :: _, [], h => by simp [ints] at h
  | a :: l, b :: l', h => by
    simp only [ints, List.map_cons, List.cons.injEq, AV.int.injEq, true_and] at h
    rw [h.1, ints_inj h.2]
theorem SlI.one {h : AHeap} {l : AV} {zs zs' : List Int} (h1 : SlI h l zs) (h2 : SlI h l zs') : zs = zs' := by
  rcases h1 with ⟨rfl, rfl⟩ | ⟨k, rfl, hk⟩
  · rcases h2 with ⟨_, rfl⟩ | ⟨k', e, hk'⟩
    · rfl
    · cases e
  · rcases h2 with ⟨e, _⟩ | ⟨k', e, hk'⟩
    · cases e
    · simp only [AV.sl.injEq, Option.some.injEq, Prod.mk.injEq, and_true] at e
      obtain ⟨rfl, _⟩ := e
      rw [hk] at hk'
      simp only [Option.some.injEq, AObj.row.injEq, true_and] at hk'
      exact ints_inj hk'
theorem AllAt.one {h : AHeap} {c : Nat} {zs zs' : List Int} (h1 : AllAt h c zs) (h2 : AllAt h c zs') : zs = zs' := by
  obtain ⟨l, a1, a2, _⟩ := h1
  obtain ⟨l', b1, b2, _⟩ := h2
  rw [a1] at b1
  simp only [Option.some.injEq, AObj.row.injEq, true_and, List.cons.injEq, and_true] at b1
  subst b1
  exact a2.one b2
theorem ints_get {zs : List Int} {j : Nat} {z : Int} (h : zs[j]? = some z) : (ints zs)[j]? = some (.int .i64 z) := by simp [ints, h]
theorem SlI.src {h : AHeap} {l : AV} {zs : List Int} (hs : SlI h l zs) : (l = .sl none 0 (.fix 0) ∧ zs = []) ∨ ∃ k q cp cs, l = .sl (some (k, q)) zs.length cp ∧ cellsAt h k = some cs ∧ ∀ (j : Nat) (z : Int), zs[j]? = some z → cs[q + j]? = some (.int .i64 z) := by
  rcases hs with hs | ⟨k, rfl, hk⟩
  · exact .inl hs
  · exact .inr ⟨k, 0, _, ints zs, rfl, by simp only [cellsAt, hk, Option.bind_some, objCells], fun j z hj => by rw [Nat.zero_add]; exact ints_get hj⟩
/-- told's rows. -/
def rows17 (h : AHeap) (w : AV) (b : Bool) (m : Int) : AHeap := h ++ [.row 39 1 [w], .row 4 1 [.bool b], .row 3 1 [.int .i64 m]]
theorem rows17_n {h : AHeap} {w : AV} {b : Bool} {m m' : Int} : (rows17 h w b m).set (h.length + 1 + 1) (.row 3 1 [.int .i64 m']) = rows17 h w b m' := by unfold rows17; rw [set_b2]; rfl
theorem rows17_b {h : AHeap} {w : AV} {b b' : Bool} {m : Int} : (rows17 h w b m).set (h.length + 1) (.row 4 1 [.bool b']) = rows17 h w b' m := by unfold rows17; rw [set_b1]; rfl
theorem rows17_0 {h : AHeap} {w : AV} {b : Bool} {m : Int} : (rows17 h w b m)[h.length]? = some (.row 39 1 [w]) := by unfold rows17; rw [get_b0]; rfl
theorem rows17_1 {h : AHeap} {w : AV} {b : Bool} {m : Int} : (rows17 h w b m)[h.length + 1]? = some (.row 4 1 [.bool b]) := by unfold rows17; rw [get_b1]; rfl
theorem rows17_2 {h : AHeap} {w : AV} {b : Bool} {m : Int} : (rows17 h w b m)[h.length + 1 + 1]? = some (.row 3 1 [.int .i64 m]) := by unfold rows17; rw [get_b2]; rfl
theorem rows17_g (h : AHeap) (w : AV) (b : Bool) (m : Int) : Grow h (rows17 h w b m) := Grow.app _ _
def X17 (h : AHeap) (w : AV) (H : AHeap) : Prop := H = rows17 h w false 0
theorem round17 {h : AHeap} {c : Nat} {q : Option (Nat × Nat)} {cc : ACap} {ws : List Int} (hw : SlI h (.sl q ws.length cc) ws) (hwl : ws.length ≤ 1000000) {i : Nat} (hi : i ≤ 1000000) {z : Int} {b : Nat} {K : AExit → St → Prop}
    (hn : ws[i]? = some z → ∀ env, K .normal (env, rows17 h (.sl q ws.length cc) false ((i + 1 : Nat) : Int)))
    (hr : ws[i]? ≠ some z → ∀ env, K .ret (env, rows17 h (.sl q ws.length cc) false i)) :
    W Try.prog (SU tb1 [] []).noRf b (.inl body17) (r17 c q ws.length cc h.length i z, rows17 h (.sl q ws.length cc) false i) K := by
  have tb : TabsOK tb1 [] [] := tabs1
  refine roundW tb rfl (told_body c q ws.length cc h.length _ i z b K) ?_
  have r2 := rows17_2 (h := h) (w := .sl q ws.length cc) (b := false) (m := i)
  have r1 := rows17_1 (h := h) (w := .sl q ws.length cc) (b := false) (m := i)
  have r0 := rows17_0 (h := h) (w := .sl q ws.length cc) (b := false) (m := i)
  have ret : ws[i]? ≠ some z → ∀ env, ∃ (t : TypeId), ∃ (s : Nat), ∃ (cs : List AV), (rows17 h (.sl q ws.length cc) false i)[h.length + 1]? = some (AObj.row t s cs) ∧ chkW (decide (1 ≤ List.length cs)) (K .ret (env, List.set (rows17 h (.sl q ws.length cc) false i) (h.length + 1) (AObj.row t s (spliceA cs 0 (AV.cells (AV.bool false)))))) := fun hne env => ⟨4, 1, _, r1, chkI rfl (by
    have e : (rows17 h (.sl q ws.length cc) false i).set (h.length + 1) (AObj.row 4 1 (spliceA [AV.bool false] 0 (AV.cells (AV.bool false)))) = rows17 h (.sl q ws.length cc) false i := rows17_b
    rw [e]
    exact hr hne env)⟩
  refine ⟨i, fld r2 rfl, q, ws.length, cc, fld r0 rfl, askI (fun hc => ?_) (fun hc => ?_)⟩
  · simp only [ge_iff_le, decide_eq_true_eq] at hc
    refine ret (fun he => ?_) _
    have := (List.getElem?_eq_some_iff.1 he).1
    omega
  · simp only [ge_iff_le, decide_eq_false_iff_not] at hc
    have hlt : i < ws.length := by omega
    refine ⟨i, fld r2 rfl, askF (by simp) ?_⟩
    rcases hw with ⟨e, rfl⟩ | ⟨k, e, hk⟩
    · simp at hlt
    · simp only [AV.sl.injEq] at e
      obtain ⟨rfl, -, rfl⟩ := e
      have hi2 : ws[i]? = some ws[i] := List.getElem?_eq_getElem hlt
      refine ⟨k, 0, ws.length, .rel 0, fld r0 rfl, i, fld r2 rfl, chkI (by simp) (chkI (by simp; omega) ⟨ws[i], fld (rows17_g _ _ _ _ _ _ hk) (by simp only [Nat.zero_add, Int.toNat_natCast, Nat.mul_one]; exact ints_get hi2), askI (fun hne => ?_) (fun hne => ?_)⟩)⟩
      · refine ret (fun he => ?_) _
        rw [hi2] at he
        simp only [Option.some.injEq] at he
        simp [he] at hne
      · refine ⟨i, fld r2 rfl, 3, 1, _, r2, chkI rfl ?_⟩
        have ew : IntKind.wrap .i64 ((i : Int) + 1) = ((i + 1 : Nat) : Int) := by rw [IntKind.wrap_i64]; omega
        rw [ew]
        have e : (rows17 h (.sl (some (k, 0)) ws.length (.rel 0)) false i).set (h.length + 1 + 1) (AObj.row 3 1 (spliceA [AV.int .i64 i] 0 (AV.cells (AV.int .i64 ((i + 1 : Nat) : Int))))) = rows17 h (.sl (some (k, 0)) ws.length (.rel 0)) false ((i + 1 : Nat) : Int) := rows17_n
        rw [e]
        refine hn ?_ _
        simp only [bne_eq_false_iff_eq] at hne
        rw [hi2, hne]
theorem rf17 {h : AHeap} {c : Nat} {q : Option (Nat × Nat)} {cc : ACap} {zs ws : List Int} (hc : AllAt h c zs) (hw : SlI h (.sl q ws.length cc) ws) (hwl : ws.length ≤ 1000000) {st : St} {K : AExit → St → Prop} {b : Nat} (ht : T17 c q ws.length cc h.length zs ws (X17 h (.sl q ws.length cc)) st K) :
    W Try.prog (SU tb1 [] []) b (.inl (.rf (.tmp 8) [9, 10] as17 body17)) st K := by
  obtain ⟨H, rfl, rfl, hb⟩ := ht
  obtain ⟨l, hcl, hl, hzl⟩ := hc
  have tb : TabsOK tb1 [] [] := tabs1
  have hg := rows17_g h (.sl q ws.length cc) false
  rw [rows17_n] at hb
  have main : ∀ (hfail : ∀ i : Nat, i < zs.length → ws[i]? ≠ zs[i]? → K .ret (e17 c q ws.length cc h.length, rows17 h (.sl q ws.length cc) false i))
      (hend : zs <+: ws → K .normal (e17 c q ws.length cc h.length, rows17 h (.sl q ws.length cc) false zs.length)), W Try.prog (SU tb1 [] []) b (.inl (.rf (.tmp 8) [9, 10] as17 body17)) (e17 c q ws.length cc h.length, rows17 h (.sl q ws.length cc) false 0) K := by
    intro hfail hend
    refine W_rf mixed (SU_ok tb) rfl (gf := 30) rfl rfl (b := c) (o := 0) (sl := l) (cb := [l]) (by simp only [cellsAt, hg _ _ _ hcl, Option.bind_some, objCells]) rfl (zs := zs) ?_ (by omega)
      (fun i H' => H' = rows17 h (.sl q ws.length cc) false i ∧ zs.take i <+: ws) ⟨rfl, by simp⟩ ?_ ?_ ?_
    · exact (hl.mono fun j o _ ho => hg 0 j o ho).src
    · rintro i H' ⟨rfl, -⟩
      refine ⟨by simp only [cellsAt, hg _ _ _ hcl, Option.bind_some, objCells], fun k q' n cp e => ?_⟩
      rcases hl with ⟨rfl, _⟩ | ⟨k', rfl, hk'⟩
      · cases e
      · cases e
        simp only [cellsAt, hg _ _ _ hk']
    · rintro i z H' ⟨rfl, hpre⟩ hz
      have hil : i < zs.length := (List.getElem?_eq_some_iff.1 hz).1
      refine roundW tb rfl (told_as c q ws.length cc h.length _ i z _ _) ⟨rfl, ?_⟩
      refine round17 hw hwl (by omega) (fun he env => ⟨rfl, ?_⟩) (fun hne env => hfail i hil (by rw [hz]; exact hne))
      have hlen : (zs.take i).length = i := by simp; omega
      obtain ⟨t, ht⟩ := hpre
      rw [List.take_add_one, hz]
      have : ws[i]? = t[0]? := by rw [← ht, List.getElem?_append_right (by omega), hlen, Nat.sub_self]
      rw [he] at this
      cases t with
      | nil => cases this
      | cons a t =>
        simp only [List.getElem?_cons_zero, Option.some.injEq] at this
        subst this
        exact ⟨t, by rw [← ht]; simp⟩
    · rintro H' ⟨rfl, hpre⟩
      rw [List.take_length] at hpre
      exact hend hpre
  rcases askD hb with ⟨hp, hk⟩ | ⟨hp, hk⟩
  · rw [List.isPrefixOf_iff_prefix] at hp
    refine main (fun i hi hne => ?_) (fun _ => hk)
    exfalso
    obtain ⟨t, rfl⟩ := hp
    rw [List.getElem?_append_left hi] at hne
    exact hne rfl
  · refine main (fun i hi hne => ?_) (fun hp' => ?_)
    · have := hk i
      rw [rows17_n, rows17_b] at this
      exact this
    · rw [← List.isPrefixOf_iff_prefix, hp] at hp'
      cases hp'
def P17 (vs : List AV) (h : AHeap) (b : Bool) (h' : AHeap) : Prop := ∀ c w zs ws, vs = [V15 c, w] → AllAt h c zs → SlI h w ws → b = decide (zs = ws) ∧ Grow h h'
theorem part4 (b : Bool) : partA Try.prog 4 [.bool b] 0 = some (.bool b) := by cases b <;> kernel_rfl
theorem res17 {h : AHeap} {w : AV} {b : Bool} {m : Int} {env : List AV} (he : evalOperand env (.tmp 4) = some (.ptr (some (h.length + 1, 0)))) : resP Try.prog p17 (env, rows17 h w b m) = some (.bool b) := by
  have h1 : resultA Try.prog (env, rows17 h w b m) (.cell 4 4) = some (.bool b) := by
    simp only [resultA, he, Option.bind_some, loadA, cellsAt, rows17_1, objCells, part4]
  have h2 : p17.results = [.cell 4 4] := rfl
  unfold resP
  rw [h2]
  simp only [List.mapM_cons, h1, List.mapM_nil, Option.pure_def, Option.bind_eq_bind, Option.bind_some, Option.map_some]
theorem told_sem {h : AHeap} {c : Nat} {w : AV} {zs ws : List Int} (hc : AllAt h c zs) (hw : SlI h w ws) (hwl : ws.length ≤ 1000000) : ∃ v h', (v = AV.bool (decide (zs = ws)) ∧ Grow h h' ∧ (zs = ws → h' = rows17 h w true zs.length)) ∧ CallSem Try.prog 17 [V15 c, w] h v h' := by
  obtain ⟨q, cc, rfl⟩ := sl_form hw
  refine sem_vc mixed (C := C17 c q ws.length cc h.length zs ws (X17 h (.sl q ws.length cc))) (SU_ok tabs1) (fun f => tbSG_q Q tb1 [] f) (CU_cw (ks := []) tabs1) ht17 c17 ?_ (told_vc c q ws.length cc zs ws _ h _) ?_
  · refine one_part parts17 ?_
    intro T st K hT ht
    simp only [C17, List.headD_cons, if_true, Option.some.injEq] at hT
    subst hT
    exact rf17 hc hw hwl ht
  · have e1 : (h ++ List.replicate (1 + 1) AObj.hole).set h.length (AObj.row 39 (List.length (AV.cells (AV.sl q ws.length cc))) (AV.cells (AV.sl q ws.length cc))) = h ++ [.row 39 1 [.sl q ws.length cc], .hole] := by rw [repl2, set_b0]; rfl
    have e2 : (h ++ [AObj.row 39 1 [.sl q ws.length cc], .hole]).set (h.length + 1) (AObj.row 4 (List.length (AV.cells (AV.bool false))) (AV.cells (AV.bool false))) = h ++ [.row 39 1 [.sl q ws.length cc], .row 4 1 [.bool false]] := by rw [set_b1]; rfl
    have e3 : (h ++ [AObj.row 39 1 [AV.sl q ws.length cc], .row 4 1 [.bool false]]).length = h.length + 1 + 1 := by simp
    have e4 : h ++ [AObj.row 39 1 [AV.sl q ws.length cc], .row 4 1 [.bool false]] ++ List.replicate (0 + 1) AObj.hole = h ++ [AObj.row 39 1 [AV.sl q ws.length cc], .row 4 1 [.bool false], .hole] := by simp
    have e5 : (h ++ [AObj.row 39 1 [AV.sl q ws.length cc], .row 4 1 [.bool false], .hole]).set (h.length + 1 + 1) (AObj.row 3 (List.length (AV.cells (AV.int .i64 0))) (AV.cells (AV.int .i64 0))) = rows17 h (.sl q ws.length cc) false 0 := by rw [set_b2]; rfl
    rw [e1, e2, e3, e4, e5]
    have r0 : ∀ m : Int, _ := fun m => rows17_0 (h := h) (w := .sl q ws.length cc) (b := false) (m := m)
    have r1 : ∀ m : Int, _ := fun m => rows17_1 (h := h) (w := .sl q ws.length cc) (b := false) (m := m)
    have r2 : ∀ m : Int, _ := fun m => rows17_2 (h := h) (w := .sl q ws.length cc) (b := false) (m := m)
    refine chkI (by simp [isHole, repl2, get_b0]) (chkI (by simp [isHole, get_b1]) (chkI (by unfold isHole; rw [get_b2]; rfl) ⟨3, 1, _, r2 0, chkI rfl ⟨rows17 h (.sl q ws.length cc) false 0, ?_, rfl, ?_⟩⟩))
    · have : (rows17 h (.sl q ws.length cc) false 0).set (h.length + 1 + 1) (AObj.row 3 1 (spliceA [AV.int .i64 0] 0 (AV.cells (AV.int .i64 0)))) = rows17 h (.sl q ws.length cc) false 0 := rows17_n
      rw [this]
    · refine askI (fun hp => ?_) (fun hp m => ?_)
      · rw [rows17_n]
        rw [List.isPrefixOf_iff_prefix] at hp
        refine ⟨zs.length, fld (r2 _) rfl, q, ws.length, cc, fld (r0 _) rfl, askI (fun he => ?_) (fun he => ?_)⟩
        · have hd : zs = ws := by
            simp only [beq_iff_eq] at he
            exact hp.eq_of_length (by omega)
          have e6 : (rows17 h (.sl q ws.length cc) false zs.length).set (h.length + 1) (AObj.row 4 1 (spliceA [AV.bool false] 0 (AV.cells (AV.bool true)))) = rows17 h (.sl q ws.length cc) true zs.length := rows17_b
          refine ⟨4, 1, _, r1 _, chkI rfl ⟨.bool true, ?_, by simp [hd], ?_⟩⟩
          · rw [e6]
            exact res17 rfl
          · rw [e6]; exact ⟨rows17_g _ _ _ _, fun _ => rfl⟩
        · have hd : zs ≠ ws := fun e => by simp [e] at he
          have e6 : (rows17 h (.sl q ws.length cc) false zs.length).set (h.length + 1) (AObj.row 4 1 (spliceA [AV.bool false] 0 (AV.cells (AV.bool false)))) = rows17 h (.sl q ws.length cc) false zs.length := rows17_b
          refine ⟨4, 1, _, r1 _, chkI rfl ⟨.bool false, ?_, by simp [hd], ?_⟩⟩
          · rw [e6]
            exact res17 rfl
          · rw [e6]; exact ⟨rows17_g _ _ _ _, fun e => absurd e hd⟩
      · rw [rows17_n, rows17_b]
        have hd : zs ≠ ws := fun e => by subst e; rw [← Bool.not_eq_true, List.isPrefixOf_iff_prefix] at hp; exact hp (List.prefix_refl _)
        refine ⟨.bool false, ?_, by simp [hd], rows17_g _ _ _ _, fun e => absurd e hd⟩
        exact res17 rfl
theorem told_can {h : AHeap} {c : Nat} {w : AV} {zs ws : List Int} (hc : AllAt h c zs) (hw : SlI h w ws) (hwl : ws.length ≤ 1000000) : ComesTo Try.prog 17 AV.bool P17 [V15 c, w] h := by
  obtain ⟨v, h', ⟨rfl, hg, _⟩, hs⟩ := told_sem hc hw hwl
  refine ⟨_, h', fun c' w' zs' ws' e hc' hw' => ?_, hs⟩
  simp only [List.cons.injEq, V15, AV.fn.injEq, AV.ptr.injEq, Option.some.injEq, Prod.mk.injEq, and_true, true_and] at e
  obtain ⟨rfl, rfl⟩ := e
  rw [hc'.one hc, hw'.one hw]
  exact ⟨rfl, hg⟩

end Go.Proofs.Ytncmgbbbekabdaa
