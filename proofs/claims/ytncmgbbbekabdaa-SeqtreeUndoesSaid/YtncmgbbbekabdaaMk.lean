/- Written by merging: Uf Ug Uh Ui Uj Uk. -/
import Derived.Test.YtncmgbbbekabdaaMj
import Derived.Test.YtncmgbbbekabdaaMd
import Derived.OpenShut
import Derived.WideShapes
namespace Go.Proofs.Ytncmgbbbekabdaa
open Go Go.Am Go.RowKit Go.WideShapes
set_option maxRecDepth 100000
set_option linter.unusedVariables false
set_option linter.unusedSimpArgs false

noncomputable def tq4 : List TbE := [⟨24, sNone, .of (.one .bool)⟩]
noncomputable def tg4 : List TbG := [t8, t7, TC Try.prog 9 VI P9, TC Try.prog 15 V15 P15, TC Try.prog 17 AV.bool P17, TC Try.prog 16 VII P16, TC Try.prog 18 VII P18]
theorem tabs4 : TabsOK tq4 tg4 [] := by
  refine ⟨fun x hx => ?_, by kernel_rfl, fun x hx => ?_, fun x hx => ?_, fun _ h => (by cases h), rfl⟩
  · simp only [tq4, List.mem_cons, List.not_mem_nil, or_false] at hx
    subst hx; exact none_ok
  · simp only [tg4, List.mem_cons, List.not_mem_nil, or_false] at hx
    rcases hx with rfl | rfl | rfl | rfl | rfl | rfl | rfl
    · exact t8_full
    · exact t7_full
    · exact csem_full ht9 VI P9
    · exact csem_full ht15 V15 P15
    · exact csem_full ht17 AV.bool P17
    · exact csem_full ht16 VII P16
    · exact csem_full ht18 VII P18
  · simp only [tg4, List.mem_cons, List.not_mem_nil, or_false] at hx
    rcases hx with rfl | rfl | rfl | rfl | rfl | rfl | rfl
    · exact t8_ok
    · exact TK_ok
    · exact TC_ok _ _ _ _
    · exact TC_ok _ _ _ _
    · exact TC_ok _ _ _ _
    · exact TC_ok _ _ _ _
    · exact TC_ok _ _ _ _
/-- The places: at, id, to, the tree; the script and how far it is gone through. -/
def e4 (sl : AV) (n : Nat) (a d o : Int) (t : Nat) (i : Int) : List AV := envOf 101 [(1, .int .i64 a), (2, .int .i64 d), (3, .int .i64 o), (9, .ptr (some (t, 0))), (28, sl), (29, .int .i64 n), (30, .int .i64 i)]
def x4 (a d o : Int) (t : Nat) : List AV := envOf 101 [(1, .int .i64 a), (2, .int .i64 d), (3, .int .i64 o), (9, .ptr (some (t, 0)))]
def r4 (a d o : Int) (t w c : Nat) : List AV := envOf 101 [(1, .int .i64 a), (2, .int .i64 d), (3, .int .i64 o), (9, .ptr (some (t, 0))), (12, .ptr (some (w, 0))), (41, .ptr (some (t, 0))), (42, V15 c)]
def n4 : Tidy := ⟨dropT 101 [1, 2, 3, 9, 28, 29, 30], .all⟩
def y4 : Tidy := ⟨dropT 101 [1, 2, 3, 9], .all⟩
def T4 (sl : AV) (n : Nat) (a d o : Int) (X Y : AHeap → Nat → Prop) (st : St) (K : AExit → St → Prop) : Prop := ∃ H t, st = (e4 sl n a d o t 0, H) ∧ X H t ∧ ∀ H', Y H' t → K (.exit 0) (x4 a d o t, H')
def U4 (a d o : Int) (X Y : AHeap → Nat → Nat → Nat → Prop) (st : St) (K : AExit → St → Prop) : Prop := ∃ H t w c, st = (r4 a d o t w c, H) ∧ X H t w c ∧ ∀ H', Y H' t w c → K .normal (r4 a d o t w c, H')
def kd4 (t : Nat) : Kd := if t = 33 then .agg [i64, i64, i64] else kdOf [(36, i64), (38, i64), (45, .slV), (70, .slV), (99, .slV), (71, .bool)] t
noncomputable def C4 (sl : AV) (n : Nat) (a d o : Int) (X Y : AHeap → Nat → Prop) (X' Y' : AHeap → Nat → Nat → Nat → Prop) : Cfg := { CU tq4 tg4 [] [] with
  kd := kd4
  lw := fun id => if id = 5 then some (T4 sl n a d o X Y) else none
  rw := fun i => if i = 43 then some (U4 a d o X' Y') else none
  F := fun id => if id = 5 then n4 else if id = 9 ∨ id = 10 then ⟨dropT 101 [1, 2, 3, 9, 12], .all⟩ else if id = 13 then ⟨dropT 101 [1, 2, 3, 9, 12], .all⟩ else ⟨[], .all⟩ }
noncomputable def B4 (b : Nat) : Cfg := { CU tq4 tg4 [] [] with kd := kd4, b0 := b }
noncomputable def R4 (b : Nat) : Cfg := { CU tq4 tg4 [] [] with kd := kd4, S := (SU tq4 tg4 []).noRf, b0 := b }
/-- The rounds over the ids. -/
def as4 : PC := (.ops 11 0 [⟨(some 14), .mov (.tmp 44), none⟩])
def body4 : PC := (.block 3
     (.ops 12 2 [⟨(some 45), .load none (.tmp 12), none⟩,
       ⟨(some 46), .mov (.tmp 14), none⟩,
       ⟨(some 47), .bslice 2 1 1 (.int .i64 0) [(0, (.tmp 46))], none⟩,
       ⟨(some 48), .append 2 1 8 (.tmp 45) (.tmp 47), none⟩,
       ⟨none, .store 1 (.tmp 12) (.tmp 48), none⟩]))
theorem parts4 : partsIn p4.body = [.loop p4_l0, .rf (.tmp 42) [43, 44] as4 body4] := rfl
def q4 (a d o : Int) (t w c : Nat) (i z : Int) : List AV := envOf 101 [(1, .int .i64 a), (2, .int .i64 d), (3, .int .i64 o), (9, .ptr (some (t, 0))), (12, .ptr (some (w, 0))), (14, .int .i64 z), (41, .ptr (some (t, 0))), (42, V15 c), (43, .int .i64 i), (44, .int .i64 z)]
theorem law4_vc (h : AHeap) (q : Option (Nat × Nat)) (n : Nat) (cc : ACap) (a d o : Int) (X Y : AHeap → Nat → Prop) (X' Y' : AHeap → Nat → Nat → Nat → Prop) (R : AV → AHeap → Prop) : (preE ([] ++ List.reverse [] ++ []) ∧ preE ([] ++ List.reverse [] ++ []) ∧ ∃ (H : AHeap), ∃ (t : Nat), (envOf 101 [(1, AV.int .i64 a), (2, AV.int .i64 d), (3, AV.int .i64 o), (9, AV.ptr (some (List.length h + 1, 0))), (28, AV.sl q n cc), (29, AV.int .i64 (↑n : Int)), (30, AV.int .i64 0)], h ++ [AObj.map [], AObj.row 58 3 [AV.ptr none, AV.map (some (List.length h)), AV.int .i64 0]]) = (envOf 101 [(1, AV.int .i64 a), (2, AV.int .i64 d), (3, AV.int .i64 o), (9, AV.ptr (some (t, 0))), (28, AV.sl q n cc), (29, AV.int .i64 (↑n : Int)), (30, AV.int .i64 0)], H) ∧ X H t ∧ ∀ (H' : AHeap), Y H' t → chkW (isHole (H' ++ List.replicate (0 + 1) AObj.hole) (List.length H')) (ComesTo Try.prog 15 V15 P15 ([] ++ List.reverse [AV.ptr (some (t, 0))] ++ []) (List.set (H' ++ List.replicate (0 + 1) AObj.hole) (List.length H') (AObj.row 39 (List.length (AV.cells (AV.sl none 0 (ACap.fix 0)))) (AV.cells (AV.sl none 0 (ACap.fix 0))))) ∧ ∀ (a_2 : Nat) (h' : AHeap), P15 [AV.ptr (some (t, 0))] (List.set (H' ++ List.replicate (0 + 1) AObj.hole) (List.length H') (AObj.row 39 (List.length (AV.cells (AV.sl none 0 (ACap.fix 0)))) (AV.cells (AV.sl none 0 (ACap.fix 0))))) a_2 h' → ∃ (H : AHeap), ∃ (t_1 : Nat), ∃ (w : Nat), ∃ (c : Nat), (envOf 101 [(1, AV.int .i64 a), (2, AV.int .i64 d), (3, AV.int .i64 o), (9, AV.ptr (some (t, 0))), (12, AV.ptr (some (List.length H', 0))), (41, AV.ptr (some (t, 0))), (42, AV.fn 30 [] [AV.ptr (some (a_2, 0))])], h') = (envOf 101 [(1, AV.int .i64 a), (2, AV.int .i64 d), (3, AV.int .i64 o), (9, AV.ptr (some (t_1, 0))), (12, AV.ptr (some (w, 0))), (41, AV.ptr (some (t_1, 0))), (42, AV.fn 30 [] [AV.ptr (some (c, 0))])], H) ∧ X' H t_1 w c ∧ ∀ (H' : AHeap), Y' H' t_1 w c → ComesTo Try.prog 9 VI P9 ([] ++ List.reverse [AV.int .i64 d, AV.int .i64 a, AV.ptr (some (t_1, 0))] ++ []) H' ∧ ∀ (a_5 : Int) (h' : AHeap), P9 [AV.ptr (some (t_1, 0)), AV.int .i64 a, AV.int .i64 d] H' a_5 h' → askB (a_5 == 0) (ComesTo Try.prog 16 VII P16 ([] ++ List.reverse [AV.int .i64 d, AV.ptr (some (t_1, 0))] ++ []) h' ∧ ∀ (a_7 : Int × Int) (h'_1 : AHeap), P16 [AV.ptr (some (t_1, 0)), AV.int .i64 d] h' a_7 h'_1 → askB (Prod.fst a_7 != a) (R (AV.bool false) h'_1) (askB (Prod.snd a_7 != 0) (R (AV.bool false) h'_1) (∃ (q : Option (Nat × Nat)), ∃ (n : Nat), ∃ (c : ACap), (Option.bind (cellsAt h'_1 w) fun (x : List AV) => partR none x 0) = some (AV.sl q n c) ∧ ComesTo Try.prog 15 V15 P15 ([] ++ List.reverse [AV.ptr (some (t_1, 0))] ++ []) h'_1 ∧ ∀ (a : Nat) (h' : AHeap), P15 [AV.ptr (some (t_1, 0))] h'_1 a h' → loadZ h' none (AV.ptr (some (w, 0))) = loadZ h'_1 none (AV.ptr (some (w, 0))) ∧ ComesTo Try.prog 17 AV.bool P17 ([] ++ List.reverse [AV.sl q n c, AV.fn 30 [] [AV.ptr (some (a, 0))]] ++ []) h' ∧ ∀ (a_10 : Bool) (h'_2 : AHeap), P17 [AV.fn 30 [] [AV.ptr (some (a, 0))], AV.sl q n c] h' a_10 h'_2 → askB a_10 (ComesTo Try.prog 18 VII P18 ([] ++ List.reverse [AV.int .i64 o, AV.int .i64 d, AV.ptr (some (t_1, 0))] ++ []) h'_2 ∧ ∀ (a : Int × Int) (h' : AHeap), P18 [AV.ptr (some (t_1, 0)), AV.int .i64 d, AV.int .i64 o] h'_2 a h' → askB (Prod.snd a == 0) (ComesTo Try.prog 18 VII P18 ([] ++ List.reverse [AV.int .i64 (Prod.fst a), AV.int .i64 d, AV.ptr (some (t_1, 0))] ++ []) h' ∧ ∀ (a_12 : Int × Int) (h'_3 : AHeap), P18 [AV.ptr (some (t_1, 0)), AV.int .i64 d, AV.int .i64 (Prod.fst a)] h' a_12 h'_3 → askB (Prod.fst a_12 != o) (R (AV.bool false) h'_3) (askB (Prod.snd a_12 != 0) (R (AV.bool false) h'_3) (∃ (q : Option (Nat × Nat)), ∃ (n : Nat), ∃ (c : ACap), (Option.bind (cellsAt h'_3 w) fun (x : List AV) => partR none x 0) = some (AV.sl q n c) ∧ ComesTo Try.prog 15 V15 P15 ([] ++ List.reverse [AV.ptr (some (t_1, 0))] ++ []) h'_3 ∧ ∀ (a : Nat) (h' : AHeap), P15 [AV.ptr (some (t_1, 0))] h'_3 a h' → loadZ h' none (AV.ptr (some (w, 0))) = loadZ h'_3 none (AV.ptr (some (w, 0))) ∧ ComesTo Try.prog 17 AV.bool P17 ([] ++ List.reverse [AV.sl q n c, AV.fn 30 [] [AV.ptr (some (a, 0))]] ++ []) h' ∧ ∀ (a_14 : Bool) (h'_4 : AHeap), P17 [AV.fn 30 [] [AV.ptr (some (a, 0))], AV.sl q n c] h' a_14 h'_4 → askB a_14 (R (AV.bool true) h'_4) (R (AV.bool false) h'_4)))) (∃ (q : Option (Nat × Nat)), ∃ (n : Nat), ∃ (c : ACap), (Option.bind (cellsAt h' w) fun (x : List AV) => partR none x 0) = some (AV.sl q n c) ∧ ComesTo Try.prog 15 V15 P15 ([] ++ List.reverse [AV.ptr (some (t_1, 0))] ++ []) h' ∧ ∀ (a : Nat) (h'_3 : AHeap), P15 [AV.ptr (some (t_1, 0))] h' a h'_3 → loadZ h'_3 none (AV.ptr (some (w, 0))) = loadZ h' none (AV.ptr (some (w, 0))) ∧ ComesTo Try.prog 17 AV.bool P17 ([] ++ List.reverse [AV.sl q n c, AV.fn 30 [] [AV.ptr (some (a, 0))]] ++ []) h'_3 ∧ ∀ (a_13 : Bool) (h' : AHeap), P17 [AV.fn 30 [] [AV.ptr (some (a, 0))], AV.sl q n c] h'_3 a_13 h' → askB a_13 (R (AV.bool true) h') (R (AV.bool false) h'))) (R (AV.bool false) h'_2)))) (ComesTo Try.prog 18 VII P18 ([] ++ List.reverse [AV.int .i64 o, AV.int .i64 d, AV.ptr (some (t_1, 0))] ++ []) h' ∧ ∀ (a : Int × Int) (h'_1 : AHeap), P18 [AV.ptr (some (t_1, 0)), AV.int .i64 d, AV.int .i64 o] h' a h'_1 → askB (Prod.snd a == 0) (ComesTo Try.prog 18 VII P18 ([] ++ List.reverse [AV.int .i64 (Prod.fst a), AV.int .i64 d, AV.ptr (some (t_1, 0))] ++ []) h'_1 ∧ ∀ (a_8 : Int × Int) (h' : AHeap), P18 [AV.ptr (some (t_1, 0)), AV.int .i64 d, AV.int .i64 (Prod.fst a)] h'_1 a_8 h' → askB (Prod.fst a_8 != o) (R (AV.bool false) h') (askB (Prod.snd a_8 != 0) (R (AV.bool false) h') (∃ (q : Option (Nat × Nat)), ∃ (n : Nat), ∃ (c : ACap), (Option.bind (cellsAt h' w) fun (x : List AV) => partR none x 0) = some (AV.sl q n c) ∧ ComesTo Try.prog 15 V15 P15 ([] ++ List.reverse [AV.ptr (some (t_1, 0))] ++ []) h' ∧ ∀ (a : Nat) (h'_2 : AHeap), P15 [AV.ptr (some (t_1, 0))] h' a h'_2 → loadZ h'_2 none (AV.ptr (some (w, 0))) = loadZ h' none (AV.ptr (some (w, 0))) ∧ ComesTo Try.prog 17 AV.bool P17 ([] ++ List.reverse [AV.sl q n c, AV.fn 30 [] [AV.ptr (some (a, 0))]] ++ []) h'_2 ∧ ∀ (a_10 : Bool) (h' : AHeap), P17 [AV.fn 30 [] [AV.ptr (some (a, 0))], AV.sl q n c] h'_2 a_10 h' → askB a_10 (R (AV.bool true) h') (R (AV.bool false) h')))) (∃ (q : Option (Nat × Nat)), ∃ (n : Nat), ∃ (c : ACap), (Option.bind (cellsAt h'_1 w) fun (x : List AV) => partR none x 0) = some (AV.sl q n c) ∧ ComesTo Try.prog 15 V15 P15 ([] ++ List.reverse [AV.ptr (some (t_1, 0))] ++ []) h'_1 ∧ ∀ (a : Nat) (h' : AHeap), P15 [AV.ptr (some (t_1, 0))] h'_1 a h' → loadZ h' none (AV.ptr (some (w, 0))) = loadZ h'_1 none (AV.ptr (some (w, 0))) ∧ ComesTo Try.prog 17 AV.bool P17 ([] ++ List.reverse [AV.sl q n c, AV.fn 30 [] [AV.ptr (some (a, 0))]] ++ []) h' ∧ ∀ (a_9 : Bool) (h'_2 : AHeap), P17 [AV.fn 30 [] [AV.ptr (some (a, 0))], AV.sl q n c] h' a_9 h'_2 → askB a_9 (R (AV.bool true) h'_2) (R (AV.bool false) h'_2))))) = (wpF Try.prog (C4 (.sl q n cc) n a d o X Y X' Y') 100 p4 [.sl q n cc, .int .i64 a, .int .i64 d, .int .i64 o] h R) := by kernel_rfl
theorem law4_loop (h : AHeap) (n : Nat) (cc : ACap) (a d o : Int) (t : Nat) (i : Int) (b : Nat) (K : AExit → St → Prop) : (askB (decide (i < (↑n : Int))) (chkW (decide (0 ≤ i)) (chkW (decide (i < (↑n : Int))) (∃ (n_1 : Int), ∃ (n_2 : Int), ∃ (n_3 : Int), (Option.bind (cellsAt (h ++ List.replicate (0 + 1) AObj.hole) 0) fun (x : List AV) => partR (some 3) x (0 + Int.toNat i * 3)) = some (AV.agg [AV.int .i64 n_1, AV.int .i64 n_2, AV.int .i64 n_3]) ∧ chkW (isHole (h ++ List.replicate (0 + 1) AObj.hole) (List.length h)) (∃ (t_1 : TypeId), ∃ (s : Nat), ∃ (cs : List AV), (List.set (h ++ List.replicate (0 + 1) AObj.hole) (List.length h) (AObj.row 38 (List.length (AV.cells (AV.agg [AV.int .i64 0, AV.int .i64 0, AV.int .i64 0]))) (AV.cells (AV.agg [AV.int .i64 0, AV.int .i64 0, AV.int .i64 0]))))[List.length h]? = some (AObj.row t_1 s cs) ∧ chkW (decide (3 ≤ List.length cs)) (∃ (n_4 : Int), (Option.bind (cellsAt (List.set (List.set (h ++ List.replicate (0 + 1) AObj.hole) (List.length h) (AObj.row 38 (List.length (AV.cells (AV.agg [AV.int .i64 0, AV.int .i64 0, AV.int .i64 0]))) (AV.cells (AV.agg [AV.int .i64 0, AV.int .i64 0, AV.int .i64 0])))) (List.length h) (AObj.row t_1 s (spliceA cs 0 (AV.cells (AV.agg [AV.int .i64 n_1, AV.int .i64 n_2, AV.int .i64 n_3]))))) (List.length h)) fun (x : List AV) => partR none x 1) = some (AV.int .i64 n_4) ∧ ∃ (n_5 : Int), (Option.bind (cellsAt (List.set (List.set (h ++ List.replicate (0 + 1) AObj.hole) (List.length h) (AObj.row 38 (List.length (AV.cells (AV.agg [AV.int .i64 0, AV.int .i64 0, AV.int .i64 0]))) (AV.cells (AV.agg [AV.int .i64 0, AV.int .i64 0, AV.int .i64 0])))) (List.length h) (AObj.row t_1 s (spliceA cs 0 (AV.cells (AV.agg [AV.int .i64 n_1, AV.int .i64 n_2, AV.int .i64 n_3]))))) (List.length h)) fun (x : List AV) => partR none x 2) = some (AV.int .i64 n_5) ∧ ComesTo Try.prog 9 VI P9 ([] ++ List.reverse [AV.int .i64 n_5, AV.int .i64 n_4, AV.ptr (some (t, 0))] ++ []) (List.set (List.set (h ++ List.replicate (0 + 1) AObj.hole) (List.length h) (AObj.row 38 (List.length (AV.cells (AV.agg [AV.int .i64 0, AV.int .i64 0, AV.int .i64 0]))) (AV.cells (AV.agg [AV.int .i64 0, AV.int .i64 0, AV.int .i64 0])))) (List.length h) (AObj.row t_1 s (spliceA cs 0 (AV.cells (AV.agg [AV.int .i64 n_1, AV.int .i64 n_2, AV.int .i64 n_3]))))) ∧ ∀ (a_1 : Int) (h' : AHeap), P9 [AV.ptr (some (t, 0)), AV.int .i64 n_4, AV.int .i64 n_5] (List.set (List.set (h ++ List.replicate (0 + 1) AObj.hole) (List.length h) (AObj.row 38 (List.length (AV.cells (AV.agg [AV.int .i64 0, AV.int .i64 0, AV.int .i64 0]))) (AV.cells (AV.agg [AV.int .i64 0, AV.int .i64 0, AV.int .i64 0])))) (List.length h) (AObj.row t_1 s (spliceA cs 0 (AV.cells (AV.agg [AV.int .i64 n_1, AV.int .i64 n_2, AV.int .i64 n_3]))))) a_1 h' → K AExit.normal (envOf 101 [(1, AV.int .i64 a), (2, AV.int .i64 d), (3, AV.int .i64 o), (9, AV.ptr (some (t, 0))), (28, AV.sl (some (0, 0)) n cc), (29, AV.int .i64 (↑n : Int)), (30, AV.int .i64 (IntKind.wrap .i64 (i + 1)))], h')))))) (K (AExit.exit 0) (envOf 101 [(1, AV.int .i64 a), (2, AV.int .i64 d), (3, AV.int .i64 o), (9, AV.ptr (some (t, 0)))], h))) = (wpP Try.prog (B4 b) 60 (.inl p4_l0) (e4 (.sl (some (0, 0)) n cc) n a d o t i, h) (postW (B4 b) n4 y4 K)) := by kernel_rfl
theorem law4_loopn (h : AHeap) (a d o : Int) (t : Nat) (b : Nat) (K : AExit → St → Prop) : (K (AExit.exit 0) (envOf 101 [(1, AV.int .i64 a), (2, AV.int .i64 d), (3, AV.int .i64 o), (9, AV.ptr (some (t, 0)))], h)) = (wpP Try.prog (B4 b) 60 (.inl p4_l0) (e4 (.sl none 0 (.fix 0)) 0 a d o t 0, h) (postW (B4 b) n4 y4 K)) := by kernel_rfl
theorem law4_as (h : AHeap) (a d o : Int) (t w c : Nat) (i : Nat) (z : Int) (b : Nat) (K : AExit → St → Prop) : (K AExit.normal (envOf 101 [(1, AV.int .i64 a), (2, AV.int .i64 d), (3, AV.int .i64 o), (9, AV.ptr (some (t, 0))), (12, AV.ptr (some (w, 0))), (14, AV.int .i64 z), (41, AV.ptr (some (t, 0))), (42, AV.fn 30 [] [AV.ptr (some (c, 0))]), (43, AV.int .i64 (↑i : Int)), (44, AV.int .i64 z)], h)) = (wpP Try.prog (R4 b) 60 (.inl as4) (roundEnv 43 44 (r4 a d o t w c) i z, h) K) := by kernel_rfl
theorem law4_body (h : AHeap) (a d o : Int) (t w c : Nat) (i z : Int) (b : Nat) (K : AExit → St → Prop) : ((Option.bind (cellsAt (h ++ List.replicate (1 + 1) AObj.hole) w) fun (x : List AV) => partR none x 0) = some (AV.sl none 0 (ACap.fix 0)) ∧ chkW (isHole (h ++ List.replicate (1 + 1) AObj.hole) (List.length h)) (chkW (isHole (List.set (h ++ List.replicate (1 + 1) AObj.hole) (List.length h) (AObj.row 2 1 (List.take (0 * 1) (rangeCells (AV.cells (AV.int .i64 0)) (1 * 1)) ++ AV.cells (AV.int .i64 z) ++ List.drop (0 * 1 + 1) (rangeCells (AV.cells (AV.int .i64 0)) (1 * 1))))) (List.length h + 1)) (∃ (cs : List AV), sourceA (List.set (h ++ List.replicate (1 + 1) AObj.hole) (List.length h) (AObj.row 2 1 (List.take (0 * 1) (rangeCells (AV.cells (AV.int .i64 0)) (1 * 1)) ++ AV.cells (AV.int .i64 z) ++ List.drop (0 * 1 + 1) (rangeCells (AV.cells (AV.int .i64 0)) (1 * 1))))) 1 (AV.sl (some (List.length h, 0)) 1 (ACap.rel 0)) = some (1, cs) ∧ chkW (List.all cs AV.one) (∃ (t_1 : TypeId), ∃ (s : Nat), ∃ (cs_1 : List AV), (List.set (List.set (h ++ List.replicate (1 + 1) AObj.hole) (List.length h) (AObj.row 2 1 (List.take (0 * 1) (rangeCells (AV.cells (AV.int .i64 0)) (1 * 1)) ++ AV.cells (AV.int .i64 z) ++ List.drop (0 * 1 + 1) (rangeCells (AV.cells (AV.int .i64 0)) (1 * 1))))) (List.length h + 1) (AObj.row 2 1 cs))[w]? = some (AObj.row t_1 s cs_1) ∧ chkW (decide (1 ≤ List.length cs_1)) (K AExit.normal (envOf 101 [(1, AV.int .i64 a), (2, AV.int .i64 d), (3, AV.int .i64 o), (9, AV.ptr (some (t, 0))), (12, AV.ptr (some (w, 0))), (14, AV.int .i64 z), (41, AV.ptr (some (t, 0))), (42, AV.fn 30 [] [AV.ptr (some (c, 0))]), (43, AV.int .i64 i), (44, AV.int .i64 z), (45, AV.sl none 0 (ACap.fix 0)), (46, AV.int .i64 z), (47, AV.sl (some (List.length h, 0)) 1 (ACap.rel 0)), (48, AV.sl (some (List.length h + 1, 0)) 1 (ACap.rel 0))], List.set (List.set (List.set (h ++ List.replicate (1 + 1) AObj.hole) (List.length h) (AObj.row 2 1 (List.take (0 * 1) (rangeCells (AV.cells (AV.int .i64 0)) (1 * 1)) ++ AV.cells (AV.int .i64 z) ++ List.drop (0 * 1 + 1) (rangeCells (AV.cells (AV.int .i64 0)) (1 * 1))))) (List.length h + 1) (AObj.row 2 1 cs)) w (AObj.row t_1 s (spliceA cs_1 0 (AV.cells (AV.sl (some (List.length h + 1, 0)) 1 (ACap.rel 0))))))))))) = (wpP Try.prog ({ R4 b with kd := kdOf [(45, .lit (.sl none 0 (.fix 0)))] }) 60 (.inl body4) (q4 a d o t w c i z, h) K) := by kernel_rfl
theorem law4_bodys (h : AHeap) (a d o : Int) (t w c k m : Nat) (i z : Int) (b : Nat) (K : AExit → St → Prop) : ((Option.bind (cellsAt (h ++ List.replicate (1 + 1) AObj.hole) w) fun (x : List AV) => partR none x 0) = some (AV.sl (some (k, 0)) m (ACap.rel 0)) ∧ chkW (isHole (h ++ List.replicate (1 + 1) AObj.hole) (List.length h)) (chkW (isHole (List.set (h ++ List.replicate (1 + 1) AObj.hole) (List.length h) (AObj.row 2 1 (List.take (0 * 1) (rangeCells (AV.cells (AV.int .i64 0)) (1 * 1)) ++ AV.cells (AV.int .i64 z) ++ List.drop (0 * 1 + 1) (rangeCells (AV.cells (AV.int .i64 0)) (1 * 1))))) (List.length h + 1)) (∃ (cs : List AV), sourceA (List.set (h ++ List.replicate (1 + 1) AObj.hole) (List.length h) (AObj.row 2 1 (List.take (0 * 1) (rangeCells (AV.cells (AV.int .i64 0)) (1 * 1)) ++ AV.cells (AV.int .i64 z) ++ List.drop (0 * 1 + 1) (rangeCells (AV.cells (AV.int .i64 0)) (1 * 1))))) 1 (AV.sl (some (List.length h, 0)) 1 (ACap.rel 0)) = some (1, cs) ∧ ∃ (t_1 : TypeId), ∃ (s : Nat), ∃ (cs_1 : List AV), (List.set (h ++ List.replicate (1 + 1) AObj.hole) (List.length h) (AObj.row 2 1 (List.take (0 * 1) (rangeCells (AV.cells (AV.int .i64 0)) (1 * 1)) ++ AV.cells (AV.int .i64 z) ++ List.drop (0 * 1 + 1) (rangeCells (AV.cells (AV.int .i64 0)) (1 * 1)))))[k]? = some (AObj.row t_1 s cs_1) ∧ chkW (List.all cs AV.one) (chkW (decide (t_1 = 2)) (chkW (decide (s = 1)) (chkW (decide (List.length cs_1 = m * 1)) (chkW (decide ((m + 1) * 8 ≤ 140737488355328)) (chkW (decide (m + 1 ≤ 9223372036854775807)) (∃ (t_2 : TypeId), ∃ (s : Nat), ∃ (cs_2 : List AV), (List.set (List.set (List.set (h ++ List.replicate (1 + 1) AObj.hole) (List.length h) (AObj.row 2 1 (List.take (0 * 1) (rangeCells (AV.cells (AV.int .i64 0)) (1 * 1)) ++ AV.cells (AV.int .i64 z) ++ List.drop (0 * 1 + 1) (rangeCells (AV.cells (AV.int .i64 0)) (1 * 1))))) k AObj.dead) (List.length h + 1) (AObj.row 2 1 (cs_1 ++ cs)))[w]? = some (AObj.row t_2 s cs_2) ∧ chkW (decide (1 ≤ List.length cs_2)) (K AExit.normal (envOf 101 [(1, AV.int .i64 a), (2, AV.int .i64 d), (3, AV.int .i64 o), (9, AV.ptr (some (t, 0))), (12, AV.ptr (some (w, 0))), (14, AV.int .i64 z), (41, AV.ptr (some (t, 0))), (42, AV.fn 30 [] [AV.ptr (some (c, 0))]), (43, AV.int .i64 i), (44, AV.int .i64 z), (45, AV.sl (some (k, 0)) m (ACap.rel 0)), (46, AV.int .i64 z), (47, AV.sl (some (List.length h, 0)) 1 (ACap.rel 0)), (48, AV.sl (some (List.length h + 1, 0)) (m + 1) (ACap.rel 0))], List.set (List.set (List.set (List.set (h ++ List.replicate (1 + 1) AObj.hole) (List.length h) (AObj.row 2 1 (List.take (0 * 1) (rangeCells (AV.cells (AV.int .i64 0)) (1 * 1)) ++ AV.cells (AV.int .i64 z) ++ List.drop (0 * 1 + 1) (rangeCells (AV.cells (AV.int .i64 0)) (1 * 1))))) k AObj.dead) (List.length h + 1) (AObj.row 2 1 (cs_1 ++ cs))) w (AObj.row t_2 s (spliceA cs_2 0 (AV.cells (AV.sl (some (List.length h + 1, 0)) (m + 1) (ACap.rel 0)))))))))))))))) = (wpP Try.prog ({ R4 b with kd := kdOf [(45, .lit (.sl (some (k, 0)) m (.rel 0)))] }) 60 (.inl body4) (q4 a d o t w c i z, h) K) := by kernel_rfl
theorem rep_of {h : AHeap} : ∀ {T : TT} {u : Pt}, (∀ x ∈ rT u T, h[x.1]? = some x.2) → Rep h T
  | .nil, _, _ => trivial
  | .node k id l r, u, hx => by
    have h1 := hx _ List.mem_cons_self
    refine ⟨⟨(l.n + r.n + 1 : Nat), u, by rw [TT.av_pt, TT.av_pt]; exact h1⟩, rep_of (u := some (k, 0)) fun x hx' => hx x (List.mem_cons_of_mem _ (List.mem_append_left _ hx')), rep_of (u := some (k, 0)) fun x hx' => hx x (List.mem_cons_of_mem _ (List.mem_append_right _ hx'))⟩
theorem ids_at {h : AHeap} {t m : Nat} {lk : Int} {T : TT} {qs : List (Nat × Int)} (g : Good T qs) (hM : Maps h (rA t m lk T qs)) : TreeIds h (.ptr (some (t, 0))) T.ids := by
  have h1 := rA_t hM
  have gn := g.n
  refine .inr ⟨t, T, m, lk, rfl, by rw [TT.av_pt]; exact h1, rep_of (u := none) fun x hx => hM.row x.1 x.2 (List.mem_append_left _ (List.mem_append_right _ hx)), rfl, by rw [TT.n_ids]; omega⟩
/-- A script's row: an operation at each place. -/
def Ops3 (cs : List AV) (n : Nat) : Prop := ∀ i, i < n → ∃ n1 n2 n3 : Int, partR (some 3) cs (0 + i * 3) = some (.agg [.int .i64 n1, .int .i64 n2, .int .i64 n3])
/-- A tree stands, beside these rows. -/
def Tree4 (F : Rws) (H : AHeap) (t : Nat) : Prop := ∃ m lk T qs, Good T qs ∧ Maps H (rA t m lk T qs ++ F)
theorem loop4 {cs : List AV} {n : Nat} {cc : ACap} {a d o : Int} {t b : Nat} (hcs : Ops3 cs n) (hn : n ≤ 9223372036854775807) (s : AHeap × Nat × Nat) (hs : Tree4 [(0, .ro cs)] s.1 t ∧ s.2.1 ≤ n ∧ s.2.2 = n - s.2.1) :
    W Try.prog (B4 b).S b (.inl (.loop p4_l0)) (e4 (.sl (some (0, 0)) n cc) n a d o t (s.2.1 : Nat), s.1) fun e st => e = .exit 0 ∧ ∃ H, st = (x4 a d o t, H) ∧ Tree4 [] H t := by
  refine W_rounds (C := B4 b) (CU_cw (ks := []) tabs4) (a := p4_l0) (no_parts rfl) (fun s : AHeap × Nat × Nat => (e4 (.sl (some (0, 0)) n cc) n a d o t (s.2.1 : Nat), s.1)) (fun s => Tree4 [(0, .ro cs)] s.1 t ∧ s.2.1 ≤ n ∧ s.2.2 = n - s.2.1) (fun s => s.2.2) (fun _ e st => e = .exit 0 ∧ ∃ H, st = (x4 a d o t, H) ∧ Tree4 [] H t) n4 y4 ?_ s hs
  rintro ⟨h, i, mm⟩ ⟨⟨m, lk, T, qs, g, hM⟩, hi, hmm⟩
  refine ⟨60, ?_⟩
  dsimp only at hM hi hmm ⊢
  subst hmm
  rw [← law4_loop]
  refine askI (fun hc => ?_) (fun hc => ?_)
  · simp only [decide_eq_true_eq] at hc
    have hlt : i < n := by omega
    obtain ⟨n1, n2, n3, hp⟩ := hcs i hlt
    have g0 := Grow.app h (List.replicate (0 + 1) AObj.hole)
    have r0 := hM.row 0 _ (List.mem_append_right _ List.mem_cons_self)
    have sl : ∀ x : AObj, (h ++ List.replicate (0 + 1) AObj.hole).set h.length x = h ++ [x] := fun x => by rw [repl1, set_b0]; rfl
    have hole : isHole (h ++ List.replicate (0 + 1) AObj.hole) h.length = true := by unfold isHole; rw [repl1, get_b0]; rfl
    have rowx : ∀ x : AObj, (h ++ [x])[h.length]? = some x := fun x => by rw [get_b0]; rfl
    have sl2 : ∀ x y : AObj, (h ++ [x]).set h.length y = h ++ [y] := fun x y => by rw [set_b0]; rfl
    refine chkI (by simp) (chkI (by simpa using hlt) ⟨n1, n2, n3, ?_, chkI hole ⟨38, 3, [.int .i64 0, .int .i64 0, .int .i64 0], by rw [sl]; exact rowx _, chkI rfl ?_⟩⟩)
    · simp only [cellsAt, g0 _ _ r0, Option.bind_some, objCells, Int.toNat_natCast]
      exact hp
    · rw [sl, sl2]
      have J := junk_tr hM.left [AObj.row 38 3 (spliceA [.int .i64 0, .int .i64 0, .int .i64 0] 0 (AV.cells (AV.agg [.int .i64 n1, .int .i64 n2, .int .i64 n3])))]
      have J2 := J.frame hM
      refine ⟨n2, fld (rowx _) rfl, n3, fld (rowx _) rfl, ins_can g J.b, fun c h' hp' => ?_⟩
      obtain ⟨-, T', lk', qs', g', -, -, T1⟩ := hp' t T m lk qs n2 n3 rfl g J.b
      have T2 := T1.frame J2.b
      have ew : IntKind.wrap .i64 ((i : Int) + 1) = ((i + 1 : Nat) : Int) := by rw [IntKind.wrap_i64]; omega
      rw [ew]
      refine ⟨(h', i + 1, n - (i + 1)), rfl, ⟨⟨m, lk', T', qs', g', T2.b⟩, hlt, rfl⟩, ?_, fun _ _ h => h⟩
      show n - (i + 1) < n - i
      omega
  · exact ⟨rfl, h, rfl, m, lk, T, qs, g, by rw [List.append_nil]; exact hM.left⟩
theorem loop4n {a d o : Int} {t b : Nat} {H : AHeap} (hs : Tree4 [] H t) : W Try.prog (B4 b).S b (.inl (.loop p4_l0)) (e4 (.sl none 0 (.fix 0)) 0 a d o t 0, H) fun e st => e = .exit 0 ∧ ∃ H, st = (x4 a d o t, H) ∧ Tree4 [] H t := by
  refine W_loop (W_postW (C := B4 b) (tn := n4) (tx := y4) ((wpP_ok (C := B4 b) (CU_cw (ks := []) tabs4) 60).1 p4_l0 _ _ (no_parts rfl) ?_))
  rw [← law4_loopn]
  exact ⟨rfl, H, rfl, hs⟩
/-- A cell with a slice of numbers of the call's own. -/
def wRows (w : Nat) (l : AV) (ws : List Int) : Rws := (w, .row 39 1 [l]) :: (match l with
  | .sl (some (k, _)) _ _ => [(k, .row 2 1 (ints ws))]
  | _ => [])
def wForm (l : AV) (ws : List Int) : Prop := (l = .sl none 0 (.fix 0) ∧ ws = []) ∨ ∃ k, l = .sl (some (k, 0)) ws.length (.rel 0)
theorem wRows_sl {h : AHeap} {w : Nat} {l : AV} {ws : List Int} {A B : Rws} (hf : wForm l ws) (hM : Maps h (A ++ wRows w l ws ++ B)) : SlI h l ws := by
  rcases hf with hf | ⟨k, rfl⟩
  · exact .inl hf
  · exact .inr ⟨k, rfl, hM.left.right.row k _ (List.mem_cons_of_mem _ List.mem_cons_self)⟩
theorem round4 {a d o : Int} {t w c b : Nat} {i z : Int} {F : Rws} {l : AV} {ws : List Int} {H : AHeap} {K : AExit → St → Prop} (hl : ws.length ≤ 1000000) (hf : wForm l ws) (hM : Maps H (F ++ wRows w l ws))
    (hK : ∀ env H' l', wForm l' (ws ++ [z]) → Maps H' (F ++ wRows w l' (ws ++ [z])) → H.length ≤ H'.length → (∀ j, names1 l' j → H.length ≤ j) → K .normal (env, H')) : W Try.prog (SU tq4 tg4 []).noRf b (.inl body4) (q4 a d o t w c i z, H) K := by
  have sl : ∀ x : AObj, (H ++ List.replicate (1 + 1) AObj.hole).set H.length x = H ++ [x, .hole] := fun x => by rw [repl2, set_b0]; rfl
  have sl1 : ∀ x y : AObj, (H ++ [x, .hole]).set (H.length + 1) y = H ++ [x, y] := fun x y => by rw [set_b1]; rfl
  have g0 := Grow.app H (List.replicate (1 + 1) AObj.hole)
  have hole0 : isHole (H ++ List.replicate (1 + 1) AObj.hole) H.length = true := by unfold isHole; rw [repl2, get_b0]; rfl
  have hole1 : ∀ x, isHole (H ++ [x, .hole]) (H.length + 1) = true := fun x => by unfold isHole; rw [get_b1]; rfl
  have rw0 := hM.row w _ (List.mem_append_right _ List.mem_cons_self)
  have src : sourceA (H ++ [AObj.row 2 1 [.int .i64 z], .hole]) 1 (AV.sl (some (H.length, 0)) 1 (ACap.rel 0)) = some (1, [AV.int .i64 z]) := by
    simp only [sourceA, cellsAt, get_b0, List.getElem?_cons_zero, Option.bind_some, objCells]
    rfl
  have nm : ∀ (k n : Nat) (j : Nat), names1 (.sl (some (k, 0)) n (.rel 0)) j → j = k := fun k n j ⟨n', c', e⟩ => by
    simp only [AV.sl.injEq, Option.some.injEq, Prod.mk.injEq, and_true] at e
    exact e.1.symm
  have N := (junk_tr hM [AObj.row 2 1 [.int .i64 z]]).trans (new_tr ((junk_tr hM [AObj.row 2 1 [.int .i64 z]]).b) (AObj.row 2 1 (ints (ws ++ [z]))))
  have eN : H ++ [AObj.row 2 1 [.int .i64 z]] ++ [AObj.row 2 1 (ints (ws ++ [z]))] = H ++ [AObj.row 2 1 [.int .i64 z], AObj.row 2 1 (ints (ws ++ [z]))] := by simp
  have lN : (H ++ [AObj.row 2 1 [AV.int .i64 z]]).length = H.length + 1 := by simp
  rw [eN, lN] at N
  rcases hf with ⟨rfl, rfl⟩ | ⟨k, rfl⟩
  · refine (wpP_ok (C := { R4 b with kd := kdOf [(45, .lit (.sl none 0 (.fix 0)))] }) (by intro f T vs hp K hg hT; exact tbWG_ok (Q := Q) tabs4.qq tabs4.t f T vs hp K hg hT) 60).1 body4 _ _ (no_parts rfl) ?_
    rw [← law4_body]
    refine ⟨fld (g0 _ _ rw0) rfl, chkI hole0 ?_⟩
    rw [sl]
    refine chkI (hole1 _) ⟨[.int .i64 z], src, chkI rfl ?_⟩
    rw [sl1]
    have rw1 := N.b.row w _ (List.mem_cons_of_mem _ (List.mem_append_right _ List.mem_cons_self))
    refine ⟨39, 1, _, rw1, chkI rfl ?_⟩
    have T2 := Tr.set (k := w) (o := .row 39 1 [.sl none 0 (.fix 0)]) (R := (H.length + 1, AObj.row 2 1 (ints ([] ++ [z]))) :: F) N.b (perm_of fun a => by simp only [wRows, cnt_cons, cnt_append, cnt_nil]; omega) (.row 39 1 [.sl (some (H.length + 1, 0)) 1 (.rel 0)])
    refine hK _ _ (.sl (some (H.length + 1, 0)) 1 (.rel 0)) (.inr ⟨_, rfl⟩) (T2.b.perm (perm_of fun a => by simp only [wRows, cnt_cons, cnt_append, cnt_nil]; omega)) (by simp) fun j hj => ?_
    have := nm _ _ _ hj
    omega
  · refine (wpP_ok (C := { R4 b with kd := kdOf [(45, .lit (.sl (some (k, 0)) ws.length (.rel 0)))] }) (by intro f T vs hp K hg hT; exact tbWG_ok (Q := Q) tabs4.qq tabs4.t f T vs hp K hg hT) 60).1 body4 _ _ (no_parts rfl) ?_
    rw [← law4_bodys]
    have rk0 := hM.row k _ (List.mem_append_right _ (List.mem_cons_of_mem _ List.mem_cons_self))
    refine ⟨fld (g0 _ _ rw0) rfl, chkI hole0 ?_⟩
    rw [sl]
    have g1 := Grow.app H [AObj.row 2 1 [.int .i64 z], .hole]
    refine chkI (hole1 _) ⟨[.int .i64 z], src, 2, 1, _, g1 _ _ rk0, chkI rfl (chkI rfl (chkI rfl (chkI (by simp [ints]) (chkI (by simp; omega) (chkI (by simp; omega) ?_)))))⟩
    have hk : k < H.length := lt_of_row rk0
    have ed : ((H ++ [AObj.row 2 1 [.int .i64 z], .hole]).set k .dead).set (H.length + 1) (AObj.row 2 1 (ints ws ++ [.int .i64 z])) = (H ++ [AObj.row 2 1 [.int .i64 z], AObj.row 2 1 (ints (ws ++ [z]))]).set k .dead := by
      rw [List.set_comm _ _ (by omega), sl1]
      simp [ints]
    have eb : (List.take (0 * 1) (rangeCells (AV.int .i64 0).cells (1 * 1)) ++ (AV.int .i64 z).cells ++ List.drop (0 * 1 + 1) (rangeCells (AV.int .i64 0).cells (1 * 1))) = [AV.int .i64 z] := rfl
    rw [eb, ed]
    have T1 := Tr.set (k := k) (o := .row 2 1 (ints ws)) (R := (H.length + 1, AObj.row 2 1 (ints (ws ++ [z]))) :: (w, .row 39 1 [.sl (some (k, 0)) ws.length (.rel 0)]) :: F) N.b (perm_of fun a => by simp only [wRows, cnt_cons, cnt_append, cnt_nil]; omega) .dead
    have rw1 := T1.b.row w _ (List.mem_cons_of_mem _ (List.mem_cons_of_mem _ List.mem_cons_self))
    refine ⟨39, 1, _, rw1, chkI rfl ?_⟩
    have T2 := Tr.set (k := w) (o := .row 39 1 [.sl (some (k, 0)) ws.length (.rel 0)]) (R := (k, .dead) :: (H.length + 1, AObj.row 2 1 (ints (ws ++ [z]))) :: F) T1.b (perm_of fun a => by simp only [cnt_cons, cnt_append, cnt_nil]; omega) (.row 39 1 [.sl (some (H.length + 1, 0)) (ws.length + 1) (.rel 0)])
    have T3 := (T2.perm (.refl _) (M' := [(k, .dead)] ++ (F ++ wRows w (.sl (some (H.length + 1, 0)) (ws.length + 1) (.rel 0)) (ws ++ [z]))) (perm_of fun a => by simp only [wRows, cnt_cons, cnt_append, cnt_nil]; omega)).drop
    refine hK _ _ (.sl (some (H.length + 1, 0)) (ws.length + 1) (.rel 0)) (.inr ⟨H.length + 1, by simp⟩) T3.b (by simp) fun j hj => ?_
    have := nm _ _ _ hj
    omega
theorem ins_del {zs zs1 : List Int} {a d : Int} (h : insR zs a d = (0, zs1)) : delR zs1 d = ((a, 0), zs) := by
  unfold insR at h
  split at h
  · cases h
  · split at h
    · cases h
    · split at h
      · cases h
      · split at h
        · cases h
        · rename_i h1 h2 h3 h4
          simp only [Prod.mk.injEq, true_and] at h
          subst h
          rw [delR_at (fun hx => h2 (List.mem_of_mem_take hx)), List.take_append_drop]
          have : ((zs.take a.toNat).length : Int) = a := by rw [List.length_take]; omega
          rw [this]
theorem mov_split {zs : List Int} {d o : Int} (hd : d ∈ zs) (hn : zs.Nodup) (h0 : 0 ≤ o) (h1 : o < zs.length) : ∃ A B, zs = A ++ d :: B ∧ d ∉ A ∧ d ∉ B ∧ movR zs d o = ((((A.length : Nat) : Int), 0), (A ++ B).take o.toNat ++ d :: (A ++ B).drop o.toNat) := by
  obtain ⟨A, B, rfl⟩ := List.append_of_mem hd
  rw [List.nodup_append, List.nodup_cons] at hn
  have hA : d ∉ A := fun hx => hn.2.2 d hx d List.mem_cons_self rfl
  refine ⟨A, B, rfl, hA, hn.2.1.1, ?_⟩
  unfold movR
  rw [if_pos hd, if_neg (by omega), List.idxOf_append, if_neg hA, List.idxOf_cons_self, List.erase_append_right _ hA, List.erase_cons_head]
  simp
theorem mov_back {zs zs1 : List Int} {d o : Int} {n : Int} (hn : zs.Nodup) (h : movR zs d o = ((n, 0), zs1)) : movR zs1 d n = ((o, 0), zs) := by
  have hd : d ∈ zs := by
    by_cases hd : d ∈ zs
    · exact hd
    · unfold movR at h; rw [if_neg hd] at h; cases h
  have ho : ¬ (o < 0 ∨ (zs.length : Int) ≤ o) := fun hc => by
    unfold movR at h; rw [if_pos hd, if_pos hc] at h; cases h
  obtain ⟨A, B, rfl, hA, hB, e⟩ := mov_split (o := o) hd hn (by omega) (by omega)
  rw [e] at h
  simp only [Prod.mk.injEq, and_true] at h
  obtain ⟨rfl, rfl⟩ := h
  have hAB : d ∉ A ++ B := by simp [hA, hB]
  have hT : d ∉ (A ++ B).take o.toNat := fun hx => hAB (List.mem_of_mem_take hx)
  have hl : ((A ++ B).take o.toNat).length = o.toNat := by
    rw [List.length_take]; simp only [List.length_append, List.length_cons] at ho ⊢; omega
  unfold movR
  rw [if_pos (by simp), if_neg (by simp; omega), List.idxOf_append, if_neg hT, List.idxOf_cons_self, List.erase_append_right _ hT, List.erase_cons_head, List.take_append_drop]
  simp only [hl, Int.toNat_natCast, List.take_left, List.drop_left]
  have : ((0 + o.toNat : Nat) : Int) = o := by omega
  rw [this]
theorem mov_zero {zs : List Int} {d o : Int} : ∃ n, (movR zs d o).1.2 = 0 → movR zs d o = ((n, 0), (movR zs d o).2) := ⟨(movR zs d o).1.1, fun h => by rw [← h]⟩
def X4r (H : AHeap) (t w c : Nat) : Prop := ∃ m lk T qs lc, Good T qs ∧ wForm lc T.ids ∧ Maps H ((rA t m lk T qs ++ wRows c lc T.ids) ++ wRows w (.sl none 0 (.fix 0)) [])
def Y4r (H : AHeap) (t w c : Nat) : Prop := ∃ m lk T qs l, Good T qs ∧ wForm l T.ids ∧ Maps H (rA t m lk T qs ++ wRows w l T.ids)
theorem rf4 {a d o : Int} {st : St} {K : AExit → St → Prop} {b : Nat} (ht : U4 a d o X4r Y4r st K) : W Try.prog (SU tq4 tg4 []) b (.inl (.rf (.tmp 42) [43, 44] as4 body4)) st K := by
  obtain ⟨H, t, w, c, rfl, ⟨m, lk, T, qs, lc, g, hf, hM⟩, hk⟩ := ht
  have gn := g.n
  have hc := hM.left.right.row c _ List.mem_cons_self
  have hlen := TT.n_ids T
  have hs : SlI H lc T.ids := wRows_sl (w := c) (A := rA t m lk T qs) (B := wRows w (.sl none 0 (.fix 0)) []) hf hM
  refine W_rf mixed (SU_ok tabs4) rfl (gf := 30) rfl rfl (b := c) (o := 0) (sl := lc) (cb := [lc]) (by simp only [cellsAt, hc, Option.bind_some, objCells]) rfl (zs := T.ids) hs.src (by omega)
    (fun i H' => ∃ l, wForm l (T.ids.take i) ∧ Maps H' ((rA t m lk T qs ++ wRows c lc T.ids) ++ wRows w l (T.ids.take i))) ⟨_, .inl ⟨rfl, by simp⟩, by simpa using hM⟩ ?_ ?_ ?_
  · rintro i H' ⟨l, hl, hM'⟩
    have hc' := hM'.left.right.row c _ List.mem_cons_self
    refine ⟨by simp only [cellsAt, hc', Option.bind_some, objCells], fun k q n cp e => ?_⟩
    have hs' : SlI H' lc T.ids := wRows_sl (w := c) (A := rA t m lk T qs) (B := wRows w l (T.ids.take i)) hf hM'
    rcases hs with ⟨rfl, _⟩ | ⟨k1, rfl, h1⟩
    · cases e
    · rcases hs' with ⟨e2, _⟩ | ⟨k2, e2, h2⟩
      · cases e2
      · cases e; cases e2
        simp only [cellsAt, h1, h2]
  · rintro i z H' ⟨l, hl, hM'⟩ hz
    have hil := (List.getElem?_eq_some_iff.1 hz).1
    refine (wpP_ok (C := R4 H.length) (by intro f T vs hp K hg hT; exact tbWG_ok (Q := Q) tabs4.qq tabs4.t f T vs hp K hg hT) 60).1 as4 _ _ (no_parts rfl) ?_
    rw [← law4_as]
    refine ⟨rfl, ?_⟩
    refine round4 (by rw [List.length_take]; omega) hl hM' fun env H2 l2 hf2 hM2 _ _ => ?_
    refine ⟨l2, ?_, ?_⟩
    · rw [List.take_add_one, hz]; exact hf2
    · rw [List.take_add_one, hz]; exact hM2
  · rintro H' ⟨l, hl, hM'⟩
    rw [List.take_length] at hl hM'
    exact hk H' ⟨m, lk, T, qs, l, g, hl, (hM'.perm (L' := wRows c lc T.ids ++ (rA t m lk T qs ++ wRows w l T.ids)) (perm_of fun a => by simp only [cnt_append]; omega)).right⟩
theorem add_fresh {h0 h : AHeap} {L : Rws} (h1 : Maps h0 L) (h2 : Maps h L) {c : Nat} {o : AObj} (hc : h0.length ≤ c) (ho : h[c]? = some o) : Maps h ((c, o) :: L) := by
  refine ⟨?_, fun k x hx => ?_⟩
  · rw [keys_cons, List.nodup_cons]
    exact ⟨fun hk => by have := h1.lt hk; omega, h1.nd⟩
  · rcases List.mem_cons.1 hx with e | hx
    · cases e; exact ho
    · exact h2.row k x hx
/-- The ids are asked for and told. -/
def ToldV (h : AHeap) (t w : Nat) (K : Bool → AHeap → Prop) : Prop :=
  ∃ (q : Option (Nat × Nat)), ∃ (n : Nat), ∃ (c : ACap), (Option.bind (cellsAt h w) fun (x : List AV) => partR none x 0) = some (AV.sl q n c) ∧ ComesTo Try.prog 15 V15 P15 [AV.ptr (some (t, 0))] h ∧ ∀ (a : Nat) (h' : AHeap), P15 [AV.ptr (some (t, 0))] h a h' → loadZ h' none (AV.ptr (some (w, 0))) = loadZ h none (AV.ptr (some (w, 0))) ∧ ComesTo Try.prog 17 AV.bool P17 [V15 a, AV.sl q n c] h' ∧ ∀ (b : Bool) (h'' : AHeap), P17 [V15 a, AV.sl q n c] h' b h'' → K b h''
theorem toldv {h : AHeap} {t w m : Nat} {lk : Int} {T : TT} {qs : List (Nat × Int)} {l : AV} {ws : List Int} {K : Bool → AHeap → Prop} (g : Good T qs) (hf : wForm l ws) (hM : Maps h (rA t m lk T qs ++ wRows w l ws)) (he : T.ids = ws)
    (hK : ∀ h'', Grow h h'' → K true h'') : ToldV h t w K := by
  have gn := g.n
  have hlen := TT.n_ids T
  have hw := hM.right.row w _ List.mem_cons_self
  have hs : SlI h l ws := wRows_sl (w := w) (A := rA t m lk T qs) (B := []) hf (by rw [List.append_nil]; exact hM)
  have hids := ids_at g hM.left
  obtain ⟨q, cc, rfl⟩ := sl_form hs
  refine ⟨q, ws.length, cc, fld hw rfl, all_can hids, fun c h' hp => ?_⟩
  obtain ⟨ha, hg, -⟩ := hp _ _ rfl hids
  refine ⟨by rw [ld_row (hg _ _ hw), ld_row hw], told_can ha (hs.mono fun j o _ ho => hg j o ho) (by rw [← he]; omega), fun b h'' hp2 => ?_⟩
  obtain ⟨rfl, hg2⟩ := hp2 c _ _ _ rfl ha (hs.mono fun j o _ ho => hg j o ho)
  rw [he, decide_eq_true (rfl : ws = ws)]
  exact hK h'' (hg.trans hg2)
/-- What is left of the law behind the insertion: there and back, and what was. -/
def EndV (h : AHeap) (t w : Nat) (d o : Int) (R : AV → AHeap → Prop) : Prop :=
  ComesTo Try.prog 18 VII P18 [AV.ptr (some (t, 0)), AV.int .i64 d, AV.int .i64 o] h ∧ ∀ (a : Int × Int) (h' : AHeap), P18 [AV.ptr (some (t, 0)), AV.int .i64 d, AV.int .i64 o] h a h' → askB (Prod.snd a == 0)
    (ComesTo Try.prog 18 VII P18 [AV.ptr (some (t, 0)), AV.int .i64 d, AV.int .i64 (Prod.fst a)] h' ∧ ∀ (a_12 : Int × Int) (h'_3 : AHeap), P18 [AV.ptr (some (t, 0)), AV.int .i64 d, AV.int .i64 (Prod.fst a)] h' a_12 h'_3 → askB (Prod.fst a_12 != o) (R (AV.bool false) h'_3) (askB (Prod.snd a_12 != 0) (R (AV.bool false) h'_3) (ToldV h'_3 t w fun b h => askB b (R (AV.bool true) h) (R (AV.bool false) h))))
    (ToldV h' t w fun b h => askB b (R (AV.bool true) h) (R (AV.bool false) h))
theorem endv {h : AHeap} {t w m : Nat} {lk : Int} {T : TT} {qs : List (Nat × Int)} {l : AV} {d o : Int} {R : AV → AHeap → Prop} (g : Good T qs) (hf : wForm l T.ids) (hM : Maps h (rA t m lk T qs ++ wRows w l T.ids)) (hR : ∀ h, R (.bool true) h) : EndV h t w d o R := by
  refine ⟨move_can g hM.left, fun a h' hp => ?_⟩
  obtain ⟨rfl, T1, lk1, qs1, g1, e1, T2⟩ := hp t T m lk qs d o rfl g hM.left
  have M1 := (T2.frame hM).b
  refine askI (fun hz => ?_) (fun hz => ?_)
  · simp only [beq_iff_eq] at hz
    obtain ⟨n, hn⟩ := mov_zero (zs := T.ids) (d := d) (o := o)
    have e2 := hn hz
    rw [← e1] at e2
    have e3 := mov_back g.nd e2
    refine ⟨move_can g1 M1.left, fun a2 h3 hp2 => ?_⟩
    obtain ⟨rfl, T3, lk3, qs3, g3, e4, T4⟩ := hp2 t T1 m lk1 qs1 d _ rfl g1 M1.left
    have en : (movR T.ids d o).1.1 = n := by rw [e2]
    rw [en] at e4 ⊢
    rw [e3] at e4 ⊢
    dsimp only at e4
    have M3 := (T4.frame M1).b
    exact askF (by simp) (askF (by simp) (toldv g3 hf M3 e4 fun h'' _ => askT rfl (hR _)))
  · have e2 : T1.ids = T.ids := by
      rw [e1]
      unfold movR at hz ⊢
      split
      · rename_i h1
        rw [if_pos h1] at hz
        split
        · rfl
        · rename_i h2
          rw [if_neg h2] at hz
          simp at hz
      · rfl
    exact toldv g1 hf M1 e2 fun h'' _ => askT rfl (hR _)
theorem sem4 {h : AHeap} {q : Option (Nat × Nat)} {n : Nat} {cc : ACap} {a d o : Int} (hn : n ≤ 9223372036854775807)
    (hx : (q = none ∧ n = 0 ∧ cc = .fix 0 ∧ h = []) ∨ ∃ cs, q = some (0, 0) ∧ h = [.ro cs] ∧ Ops3 cs n) : ∃ v h', v = AV.bool true ∧ CallSem Try.prog 4 [.sl q n cc, .int .i64 a, .int .i64 d, .int .i64 o] h v h' := by
  refine sem_vc mixed (C := C4 (.sl q n cc) n a d o (fun H t => (q = none ∧ n = 0 ∧ cc = .fix 0 ∧ Tree4 [] H t) ∨ ∃ cs, q = some (0, 0) ∧ Ops3 cs n ∧ Tree4 [(0, .ro cs)] H t) (Tree4 []) X4r Y4r) (SU_ok tabs4) (CU_q (ks := [])) (by intro f T vs hp K hg hT; exact tbWG_ok (Q := Q) tabs4.qq tabs4.t f T vs hp K hg hT) ht4 c4 ?_ (law4_vc h q n cc a d o _ _ _ _ _) ?_
  · intro y hy
    rw [parts4] at hy
    simp only [List.mem_cons, List.not_mem_nil, or_false] at hy
    rcases hy with rfl | rfl
    · refine part_loop (id := 5) rfl rfl fun st K hT => ?_
      obtain ⟨H, t, rfl, hX, hk⟩ := hT
      rcases hX with ⟨rfl, rfl, rfl, hX⟩ | ⟨cs, rfl, hcs, hX⟩
      · refine W_mono (loop4n hX) fun e st hq => ?_
        obtain ⟨rfl, H', rfl, hY⟩ := hq
        exact hk H' hY
      · refine W_mono (loop4 hcs hn (H, 0, n) ⟨hX, Nat.zero_le _, by simp⟩) fun e st hq => ?_
        obtain ⟨rfl, H', rfl, hY⟩ := hq
        exact hk H' hY
    · intro T st K hT ht
      simp only [C4, List.headD_cons, if_true, Option.some.injEq] at hT
      subst hT
      exact rf4 ht
  · have hT0 : ∀ F, Maps h F → Tree4 F (h ++ [AObj.map [], AObj.row 58 3 [AV.ptr none, AV.map (some h.length), AV.int .i64 0]]) (h.length + 1) := fun F hF => by
      have N1 := new_tr hF (AObj.map [])
      have N2 := new_tr N1.b (trow none h.length 0)
      rw [List.length_append, List.append_assoc] at N2
      exact ⟨h.length, 0, .nil, [], ⟨List.Perm.refl _, List.nodup_nil, (fun z hz => by cases hz), by simp [TT.n]⟩, N2.b.perm (perm_of fun a => by simp only [rA, rW, rC, rT, pt_nil, List.map_nil, cnt_cons, cnt_append, cnt_nil, List.length_cons, List.length_nil, Nat.zero_add]; omega)⟩
    refine ⟨rfl, rfl, _, h.length + 1, rfl, ?_, fun H' hY => ?_⟩
    · rcases hx with ⟨rfl, rfl, rfl, rfl⟩ | ⟨cs, rfl, rfl, hcs⟩
      · exact .inl ⟨rfl, rfl, rfl, hT0 [] ⟨List.nodup_nil, fun k o ho => by cases ho⟩⟩
      · exact .inr ⟨cs, rfl, hcs, hT0 [(0, .ro cs)] ⟨by simp [keys], fun k o ho => by
          simp only [List.mem_singleton, Prod.mk.injEq] at ho
          obtain ⟨rfl, rfl⟩ := ho
          rfl⟩⟩
    · obtain ⟨m, lk, T, qs, g, hM⟩ := hY
      rw [List.append_nil] at hM
      have sl : ∀ x : AObj, (H' ++ List.replicate (0 + 1) AObj.hole).set H'.length x = H' ++ [x] := fun x => by rw [repl1, set_b0]; rfl
      have hole : isHole (H' ++ List.replicate (0 + 1) AObj.hole) H'.length = true := by unfold isHole; rw [repl1, get_b0]; rfl
      refine chkI hole ?_
      rw [sl]
      have N := new_tr hM (AObj.row 39 1 [.sl none 0 (.fix 0)])
      have M1 : Maps (H' ++ [AObj.row 39 1 [.sl none 0 (.fix 0)]]) (rA (h.length + 1) m lk T qs ++ wRows H'.length (.sl none 0 (.fix 0)) []) := N.b.perm (perm_of fun a => by simp only [wRows, cnt_cons, cnt_append, cnt_nil]; omega)
      have hids := ids_at g M1.left
      refine ⟨all_can hids, fun c h2 hp => ⟨h2, h.length + 1, H'.length, c, rfl, ?_, fun H3 hY3 => ?_⟩⟩
      · obtain ⟨⟨lc, h1, h3, _⟩, hg, hc, hfr⟩ := hp _ _ rfl hids
        have M2 := M1.grow hg
        refine ⟨m, lk, T, qs, lc, g, ?_, ?_⟩
        · rcases h3 with h3 | ⟨k, rfl, _⟩
          · exact .inl h3
          · exact .inr ⟨k, rfl⟩
        · have A1 := add_fresh M1 M2 hc h1
          rcases h3 with ⟨rfl, hz⟩ | ⟨k, rfl, hk⟩
          · exact A1.perm (perm_of fun a => by simp only [wRows, cnt_cons, cnt_append, cnt_nil]; omega)
          · have hkc := hfr _ k h1 ⟨_, _, rfl⟩
            have A2 := add_fresh M1 M2 hkc hk
            have hne : k ≠ c := fun e => by subst e; rw [hk] at h1; cases h1
            have A3 : Maps h2 ((k, AObj.row 2 1 (ints T.ids)) :: (c, AObj.row 39 1 [AV.sl (some (k, 0)) T.ids.length (.rel 0)]) :: (rA (h.length + 1) m lk T qs ++ wRows H'.length (.sl none 0 (.fix 0)) [])) := by
              refine ⟨?_, fun j x hx => ?_⟩
              · have n1 := A1.nd
                have n2 := A2.nd
                rw [keys_cons, List.nodup_cons] at n1 n2
                rw [keys_cons, keys_cons, List.nodup_cons, List.nodup_cons, List.mem_cons, not_or]
                exact ⟨⟨hne, n2.1⟩, n1⟩
              · rcases List.mem_cons.1 hx with e | hx
                · cases e; exact hk
                · exact A1.row j x hx
            exact A3.perm (perm_of fun a => by simp only [wRows, cnt_cons, cnt_append, cnt_nil]; omega)
      · obtain ⟨m3, lk3, T3, qs3, l, g3, hf, M3⟩ := hY3
        refine ⟨ins_can g3 M3.left, fun c4 h4 hp4 => ?_⟩
        obtain ⟨ec, T4, lk4, qs4, g4, e4, hT4, Tr4⟩ := hp4 _ T3 m3 lk3 qs3 a d rfl g3 M3.left
        have M4 := (Tr4.frame M3).b
        refine askI (fun hz => ?_) (fun hz => ?_)
        · simp only [beq_iff_eq] at hz
          have eI : insR T3.ids a d = (0, T4.ids) := by rw [e4, ← hz, ec]
          have eD := ins_del eI
          refine ⟨del_can g4 M4.left, fun a5 h5 hp5 => ?_⟩
          obtain ⟨rfl, T5, lk5, qs5, g5, e5, Tr5⟩ := hp5 _ T4 m3 lk4 qs4 d rfl g4 M4.left
          rw [eD] at e5 ⊢
          dsimp only at e5
          have M5 := (Tr5.frame M4).b
          refine askF (by simp) (askF (by simp) ?_)
          have fin : ToldV h5 (h.length + 1) H'.length (fun b h'' => askB b (EndV h'' (h.length + 1) H'.length d o fun v _ => v = AV.bool true) (AV.bool false = AV.bool true)) := toldv g5 hf M5 e5 fun h'' hg => askT rfl (endv (l := l) g5 (by rw [e5]; exact hf) (by rw [e5]; exact M5.grow hg) fun _ => rfl)
          exact fin
        · have e5 : T4.ids = T3.ids := by
            rcases hT4 with ⟨_, rfl⟩ | ⟨x, h0, _⟩
            · rfl
            · rw [h0] at hz; simp at hz
          have fin : EndV h4 (h.length + 1) H'.length d o (fun v _ => v = AV.bool true) := endv (l := l) g4 (by rw [e5]; exact hf) (by rw [e5]; exact M4) fun _ => rfl
          exact fin
theorem cells38 : Try.prog.cellsOf 38 = 3 := by kernel_rfl
theorem cells3 : Try.prog.cellsOf 3 = 1 := by kernel_rfl
theorem cells2 : Try.prog.cellsOf 2 = 1 := by kernel_rfl
abbrev O3 := Int × Int × Int
def O3.cells (o : O3) : List AV := [.int .i64 o.1, .int .i64 o.2.1, .int .i64 o.2.2]
def cellsO : List O3 → List AV
  | [] => []
  | o :: L => O3.cells o ++ cellsO L
theorem cellsO_length : ∀ L : List O3, (cellsO L).length = L.length * 3
  | [] => rfl
  | o :: L => by
    rw [cellsO, List.length_append, cellsO_length L]
    simp [O3.cells]; omega
theorem cellsO_at : ∀ {L : List O3} {i : Nat} {s : O3}, L[i]? = some s → ((cellsO L).drop (i * 3)).take 3 = O3.cells s
  | o :: L, 0, s, h => by cases h; rfl
  | o :: L, i + 1, s, h => by
    rw [cellsO, show (i + 1) * 3 = (O3.cells o).length + i * 3 from by simp [O3.cells]; omega, List.drop_length_add_append]
    exact cellsO_at (by simpa using h)
theorem cellO_at {L : List O3} {i j : Nat} {s : O3} (h : L[i]? = some s) (hj : j < 3) : (cellsO L)[i * 3 + j]? = (O3.cells s)[j]? := by
  have h2 := congrArg (·[j]?) (cellsO_at h)
  simp only [List.getElem?_take_of_lt hj, List.getElem?_drop] at h2
  exact h2
theorem cellsO_closed : ∀ L : List O3, (cellsO L).all AV.closed = true
  | [] => rfl
  | o :: L => by
    rw [cellsO, List.all_append, cellsO_closed L]
    rfl
theorem ops3_of (L : List O3) : Ops3 (cellsO L) L.length := fun i hi => by
  have h := List.getElem?_eq_getElem hi
  refine ⟨L[i].1, L[i].2.1, L[i].2.2, ?_⟩
  simp only [partR]
  rw [if_pos (by rw [cellsO_length]; omega), Nat.zero_add, cellsO_at h]
  rfl
theorem list_of {α : Type} {p : Nat → α → Prop} : ∀ n : Nat, (∀ i, i < n → ∃ a, p i a) → ∃ L : List α, L.length = n ∧ ∀ i a, L[i]? = some a → p i a
  | 0, _ => ⟨[], rfl, fun i a h => by simp at h⟩
  | n + 1, h => by
    obtain ⟨L, hl, hp⟩ := list_of n fun i hi => h i (by omega)
    obtain ⟨a, ha⟩ := h n (by omega)
    refine ⟨L ++ [a], by simp [hl], fun i b hb => ?_⟩
    rw [List.getElem?_append] at hb
    split at hb
    · exact hp i b hb
    · rename_i hge
      have : i - L.length = 0 := by
        rcases Nat.eq_zero_or_pos (i - L.length) with q | q
        · exact q
        · rw [List.getElem?_eq_none (by simp; omega)] at hb; cases hb
      rw [this] at hb
      simp only [List.getElem?_cons_zero, Option.some.injEq] at hb
      subst hb
      rw [show i = n by omega]
      exact ha
theorem mapM_get2 {α β : Type} {f : α → Option β} : ∀ {l : List α} {r : List β}, l.mapM f = some r → ∀ (i : Nat) (x : α), l[i]? = some x → f x = r[i]?
  | l, r, h, i, x, hx => by
    obtain ⟨y, h1, h2⟩ := mapM_get h i x hx
    rw [h1, h2]
section
variable {H : Type} {enc : TypeId × Value → H} {w : World} {base : Nat} {spare : Nat → Bool} {held : Bool} {fuel : Nat} {cs : List Value} {x : DataW H × List MemPlace}
theorem ofld {fs : Array Field} {n : Nat} {xs : List (DataW H × List MemPlace)} (hf : ∀ (i : Nat) (f : Field), fs[i]? = some f → DataW.trod enc Try.prog w base spare held n f.type ((cs.drop f.offset).take (Try.prog.cellsOf f.type)) = xs[i]?)
    (i : Nat) {t off : Nat} (h : (fs[i]?).map (fun f => (f.type, f.offset)) = some (t, off)) {k : Nat} (hc : Try.prog.cellsOf t = k) : DataW.trod enc Try.prog w base spare held n t ((cs.drop off).take k) = xs[i]? := by
  simp only [Option.map_eq_some_iff, Prod.mk.injEq] at h
  obtain ⟨f, h1, rfl, rfl⟩ := h
  rw [← hc]
  exact hf i f h1
theorem open_op (h : DataW.trod enc Try.prog w base spare held fuel 38 cs = some x) : ∃ o : O3, ∀ ρ, cs = (O3.cells o).map (AV.real ρ) := by
  obtain ⟨xs, n, rfl, rfl, hl, hx, hf⟩ := DataW.trod_struct Try.underlying38 h
  rw [cells38] at hl
  obtain ⟨v0, v1, v2, rfl⟩ : ∃ v0 v1 v2, cs = [v0, v1, v2] := by
    match cs, hl with
    | [v0, v1, v2], _ => exact ⟨_, _, _, rfl⟩
  obtain ⟨y0, y1, y2, rfl⟩ : ∃ y0 y1 y2, xs = [y0, y1, y2] := by
    match xs, hx with
    | [y0, y1, y2], _ => exact ⟨_, _, _, rfl⟩
  have h0 : DataW.trod enc Try.prog w base spare held n 3 [v0] = some y0 := ofld hf 0 rfl cells3
  have h1 : DataW.trod enc Try.prog w base spare held n 3 [v1] = some y1 := ofld hf 1 rfl cells3
  have h2 : DataW.trod enc Try.prog w base spare held n 2 [v2] = some y2 := ofld hf 2 rfl cells2
  obtain ⟨d, e0, -, -⟩ := DataW.trod_int Try.underlying3 h0
  obtain ⟨a, e1, -, -⟩ := DataW.trod_int Try.underlying3 h1
  obtain ⟨i, e2, -, -⟩ := DataW.trod_int Try.underlying2 h2
  simp only [List.cons.injEq, and_true] at e0 e1 e2
  subst e0 e1 e2
  exact ⟨(d, a, i), fun ρ => rfl⟩
/-- What a script is. -/
def ScrIn (w : World) (v : Value) (L : List O3) (r : RL) : Prop :=
  (v = .slice none 0 0 ∧ L = []) ∨
  ∃ c, L.length ≤ c ∧ c ≤ 9223372036854775807 ∧ v = .slice (some ⟨r.blk, r.off, none⟩) L.length c ∧ r.blk < w.heap.size ∧ ∀ ρ i u, (cellsO L)[i]? = some u → w.cell? ⟨r.blk, r.off + i, none⟩ = some (u.real ρ)
theorem open_script {v : Value} (hk : Value.okWide Try.prog w .any base 36 v) (h : DataW.trod enc Try.prog w 0 spare held fuel 36 v.cells.toList = some x) : ∃ L r, ScrIn w v L r := by
  obtain ⟨a0, len0, cap0, rfl⟩ := okWide_slice Try.underlying36 hk
  rcases DataW.trod_slice Try.underlying36 h with ⟨e, -⟩ | ⟨a, l, c, elems, rest, n, -, e, -, -, hlc, hcm, hel, hg, -, -⟩
  · have e : Value.slice a0 len0 cap0 = .slice none 0 0 := by simpa [Value.cells] using e
    exact ⟨[], ⟨0, 0, 0⟩, .inl ⟨e, rfl⟩⟩
  · have e : Value.slice a0 len0 cap0 = .slice (some a) l c := by simpa [Value.cells] using e
    rw [e] at hk ⊢
    obtain ⟨hs, hb⟩ := okWide_row Try.underlying36 hk
    rw [cells38] at hg
    have step : ∀ i, i < l → ∃ s : O3, ∀ ρ, w.cells? 0 (a.add (i * 3)) 3 = some ((O3.cells s).map (AV.real ρ)) := fun i hi => by
      have g := hg i hi
      rw [List.getElem?_eq_getElem (by omega)] at g
      obtain ⟨cs, h1, h2⟩ := Option.bind_eq_some_iff.1 g
      obtain ⟨s, hsec⟩ := open_op h2
      exact ⟨s, fun ρ => by rw [← hsec ρ]; exact h1⟩
    obtain ⟨L, hL1, hL2⟩ := list_of l step
    obtain ⟨b, off, sp⟩ := a
    simp only at hs hb
    subst hs
    refine ⟨L, ⟨b, off, 0⟩, .inr ⟨c, by omega, by unfold maxLen at hcm; omega, by rw [hL1], hb, fun ρ i u hu => ?_⟩⟩
    have hi : i < L.length * 3 := by
      rw [← cellsO_length]
      rcases Nat.lt_or_ge i (cellsO L).length with q | q
      · exact q
      · rw [List.getElem?_eq_none q] at hu; cases hu
    have hq : i / 3 < L.length := by omega
    have hc := hL2 (i / 3) L[i / 3] (List.getElem?_eq_getElem hq) ρ
    unfold World.cells? at hc
    rw [if_pos (Nat.zero_le _)] at hc
    have hj := mapM_get2 hc (i % 3) (i % 3) (List.getElem?_range (by omega))
    have hat := cellO_at (i := i / 3) (j := i % 3) (List.getElem?_eq_getElem hq) (by omega)
    rw [show i / 3 * 3 + i % 3 = i by omega, hu] at hat
    rw [List.getElem?_map, ← hat] at hj
    have hadd : (Addr.add ⟨b, off, none⟩ (i / 3 * 3)).add (i % 3) = ⟨b, off + i, none⟩ := by
      unfold Addr.add
      split <;> split <;> simp <;> omega
    rw [hadd] at hj
    exact hj
end

end Go.Proofs.Ytncmgbbbekabdaa
