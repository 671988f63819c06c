import Derived.Test.YtiijphmpkmmpjaaShaM
import Derived.Test.YtiijphmpkmmpjaaAmZ
namespace Go.Proofs.Ytiijphmpkmmpjaa
open Go Go.Am
set_option maxRecDepth 100000
set_option linter.unusedVariables false
set_option linter.unusedSimpArgs false
def partAt : PC → Nat → PC
  | .seq a _, 0 => a
  | .seq _ b, _ => b
  | c, _ => c
def blockAt : PC → PC
  | .block _ a => a
  | c => c
def opsAt : PC → List PO
  | .ops _ _ l => l
  | _ => []
def padC (n : Int) (L : Int) : Bool := (IntKind.i64.wrap (IntKind.i64.wrap (n.tmod 64 + L) + 8)).tmod 64 != 0

/-! ### p15 -/
def F15 (id : Nat) : List Nat := if id = 4 then [1, 4, 5, 6, 7, 8, 9, 10, 11, 12, 13, 14, 15, 16, 17, 18, 19, 20, 21, 22, 23, 24, 25, 26, 27, 28, 29, 30, 31, 32, 33, 34, 35, 36] else if id = 6 then [1, 4, 5, 6, 7, 8, 9, 10, 11, 12, 13, 14, 15, 16, 17, 18, 19, 20, 21, 22, 23, 24, 25, 26, 27, 28, 29, 30, 31, 32, 33, 34, 35, 36] else if id = 8 then [0, 1, 5, 6, 7, 8, 9, 10, 11, 12, 13, 14, 15, 16, 17, 18, 19, 20, 21, 22, 24, 25, 26, 27, 28, 29, 30, 31, 32, 33, 34, 35, 36] else []
def canon15 (n : Int) (s : AV) : List AV := [.int .i64 n, .any, .sl none 0 (.fix 0), s, .any, .any, .any, .any, .any, .any, .any, .any, .any, .any, .any, .any, .any, .any, .any, .any, .any, .any, .any, .any, .any, .any, .any, .any, .any, .any, .any, .any, .any, .any, .any, .any, .any]
def E4_15 (n : Int) (s : AV) (L : Int) (b : Bool) : List AV := [.int .i64 n, .any, .sl none 0 (.fix 0), s, .any, .any, .any, .any, .any, .int .i64 n, .int .i64 (n.tmod 64), s, .int .i64 L, .int .i64 (IntKind.i64.wrap (n.tmod 64 + L)), .int .i64 (IntKind.i64.wrap (IntKind.i64.wrap (n.tmod 64 + L) + 8)), .int .i64 ((IntKind.i64.wrap (IntKind.i64.wrap (n.tmod 64 + L) + 8)).tmod 64), .bool b, .any, .any, .any, .any, .any, .any, .any, .any, .any, .any, .any, .any, .any, .any, .any, .any, .any, .any, .any, .any]
theorem r4_15 (P : Program) (S : Specs) (n : Int) (k L : Nat) (h : AHeap) : evalOpsR P S h.length (opsAt (partAt (partAt (partAt p15_l1 0) 0) 0)) (withHoles 0 (canon15 n (.sl (some (k, 0)) L (.rel 0)), h)) = some (E4_15 n (.sl (some (k, 0)) L (.rel 0)) L (padC n L), h ++ []) := by kernel_rfl
theorem i4_15 {P : Program} {S : Specs} {n : Int} {k L c : Nat} {h : AHeap} {env : List AV} (hf : forget (F15 4) (env, h) = (canon15 n (.sl (some (k, 0)) L (.rel 0)), h)) :
    evP P S F15 (c + 1) (.inl (.ops 4 0 (opsAt (partAt (partAt (partAt p15_l1 0) 0) 0)))) (env, h) = some (.normal, (E4_15 n (.sl (some (k, 0)) L (.rel 0)) L (padC n L), h)) := by
  refine region_run ?_
  rw [hf, r4_15, List.append_nil]
theorem stop_15 {P : Program} {S : Specs} {n : Int} {k L c : Nat} {h : AHeap} {env : List AV} (hf : forget (F15 4) (env, h) = (canon15 n (.sl (some (k, 0)) L (.rel 0)), h)) (hc : padC n L = false) :
    evP P S F15 (c + 6) (.inl p15_l1) (env, h) = some (.exit 0, (E4_15 n (.sl (some (k, 0)) L (.rel 0)) L false, h)) := by
  have h1 := i4_15 (P := P) (S := S) (c := c + 3) hf
  rw [hc] at h1
  show evP P S F15 (c + 5 + 1) (.inl (.seq (.seq (.ops 4 0 (opsAt (partAt (partAt (partAt p15_l1 0) 0) 0))) (partAt (partAt p15_l1 0) 1)) (partAt p15_l1 1))) (env, h) = _
  rw [evP_seq, evP_seq, h1]
  rfl
def E5_15 (n : Int) (k L m : Nat) : List AV := [.int .i64 n, .any, .sl none 0 (.fix 0), .sl (some (m + 1, 0)) (L + 1) (.rel 0), .any, .any, .any, .any, .any, .int .i64 n, .int .i64 (n.tmod 64), .sl (some (k, 0)) L (.rel 0), .int .i64 L, .int .i64 (IntKind.i64.wrap (n.tmod 64 + L)), .int .i64 (IntKind.i64.wrap (IntKind.i64.wrap (n.tmod 64 + L) + 8)), .int .i64 ((IntKind.i64.wrap (IntKind.i64.wrap (n.tmod 64 + L) + 8)).tmod 64), .bool true, .sl (some (k, 0)) L (.rel 0), .sl (some (m, 0)) 1 (.rel 0), .sl (some (m + 1, 0)) (L + 1) (.rel 0), .any, .any, .any, .any, .any, .any, .any, .any, .any, .any, .any, .any, .any, .any, .any, .any, .any]
theorem go_15 {P : Program} {S : Specs} {n : Int} {k L c : Nat} {h : AHeap} {env : List AV} {cs : List AV} (hf : forget (F15 4) (env, h) = (canon15 n (.sl (some (k, 0)) L (.rel 0)), h)) (hc : padC n L = true)
    (hk : h[k]? = some (.row 5 1 cs)) (hn : cs.length = L) (hb : L < 1000) :
    evP P S F15 (c + 6) (.inl p15_l1) (env, h) = some (.normal, (E5_15 n k L h.length, h.set k .dead ++ [.row 5 1 [.int .u8 0], .row 5 1 (cs ++ [.int .u8 0])])) := by
  have h1 := i4_15 (P := P) (S := S) (c := c + 3) hf
  rw [hc] at h1
  show evP P S F15 (c + 5 + 1) (.inl (.seq (.seq (.ops 4 0 (opsAt (partAt (partAt (partAt p15_l1 0) 0) 0))) (partAt (partAt p15_l1 0) 1)) (partAt p15_l1 1))) (env, h) = _
  rw [evP_seq, evP_seq, h1]
  show evP P S F15 (c + 4 + 1) (.inl (.block 1 (.ops 5 2 (opsAt (blockAt (partAt p15_l1 1)))))) (E4_15 n (.sl (some (k, 0)) L (.rel 0)) L true, h) = _
  refine block_normal (region_run ?_)
  refine ops_cons (st1 := ((E4_15 n (.sl (some (k, 0)) L (.rel 0)) L true).set 17 (.sl (some (k, 0)) L (.rel 0)), h ++ [.hole, .hole])) rfl ?_
  exact ops_push (P := P) (S := S) (h := h) (env := (E4_15 n (.sl (some (k, 0)) L (.rel 0)) L true).set 17 (.sl (some (k, 0)) L (.rel 0))) (e := 5) (kk := .u8) (m := 0) (x := .const (.int .u8 0)) (ta := 17) (t1 := 18) (t2 := 19) (t3 := 3) (k := k) (n := L) (b := 1) (cs := cs) rfl rfl rfl rfl hk hn (by omega) (by omega)
theorem again_15 (n : Int) (k L m : Nat) (h : AHeap) : forget (F15 4) (E5_15 n k L m, h) = (canon15 n (.sl (some (m + 1, 0)) (L + 1) (.rel 0)), h) := by kernel_rfl

/-! ### p16 -/
def F16 (id : Nat) : List Nat := if id = 4 then [1, 4, 5, 6, 7, 8, 9, 10, 11, 12, 13, 14, 15, 16, 17, 18, 19, 20, 21, 22, 23, 24, 25, 26, 27, 28, 29, 30, 31, 32, 33, 34] else if id = 6 then [1, 4, 5, 6, 7, 8, 9, 10, 11, 12, 13, 14, 15, 16, 17, 18, 19, 20, 21, 22, 23, 24, 25, 26, 27, 28, 29, 30, 31, 32, 33, 34] else if id = 8 then [0, 1, 6, 7, 8, 9, 10, 11, 12, 13, 14, 15, 16, 17, 18, 19, 20, 21, 22, 23, 24, 25, 26, 27, 28, 29, 30, 31, 32, 33, 34] else []
def canon16 (n : Int) (s : AV) : List AV := [.int .i64 n, .any, .sl none 0 (.fix 0), s, .any, .any, .any, .any, .any, .any, .any, .any, .any, .any, .any, .any, .any, .any, .any, .any, .any, .any, .any, .any, .any, .any, .any, .any, .any, .any, .any, .any, .any, .any, .any]
def E4_16 (n : Int) (s : AV) (L : Int) (b : Bool) : List AV := [.int .i64 n, .any, .sl none 0 (.fix 0), s, .any, .any, .any, .any, .any, .int .i64 n, .int .i64 (n.tmod 64), s, .int .i64 L, .int .i64 (IntKind.i64.wrap (n.tmod 64 + L)), .int .i64 (IntKind.i64.wrap (IntKind.i64.wrap (n.tmod 64 + L) + 8)), .int .i64 ((IntKind.i64.wrap (IntKind.i64.wrap (n.tmod 64 + L) + 8)).tmod 64), .bool b, .any, .any, .any, .any, .any, .any, .any, .any, .any, .any, .any, .any, .any, .any, .any, .any, .any, .any]
theorem r4_16 (P : Program) (S : Specs) (n : Int) (k L : Nat) (h : AHeap) : evalOpsR P S h.length (opsAt (partAt (partAt (partAt p16_l1 0) 0) 0)) (withHoles 0 (canon16 n (.sl (some (k, 0)) L (.rel 0)), h)) = some (E4_16 n (.sl (some (k, 0)) L (.rel 0)) L (padC n L), h ++ []) := by kernel_rfl
theorem i4_16 {P : Program} {S : Specs} {n : Int} {k L c : Nat} {h : AHeap} {env : List AV} (hf : forget (F16 4) (env, h) = (canon16 n (.sl (some (k, 0)) L (.rel 0)), h)) :
    evP P S F16 (c + 1) (.inl (.ops 4 0 (opsAt (partAt (partAt (partAt p16_l1 0) 0) 0)))) (env, h) = some (.normal, (E4_16 n (.sl (some (k, 0)) L (.rel 0)) L (padC n L), h)) := by
  refine region_run ?_
  rw [hf, r4_16, List.append_nil]
theorem stop_16 {P : Program} {S : Specs} {n : Int} {k L c : Nat} {h : AHeap} {env : List AV} (hf : forget (F16 4) (env, h) = (canon16 n (.sl (some (k, 0)) L (.rel 0)), h)) (hc : padC n L = false) :
    evP P S F16 (c + 6) (.inl p16_l1) (env, h) = some (.exit 0, (E4_16 n (.sl (some (k, 0)) L (.rel 0)) L false, h)) := by
  have h1 := i4_16 (P := P) (S := S) (c := c + 3) hf
  rw [hc] at h1
  show evP P S F16 (c + 5 + 1) (.inl (.seq (.seq (.ops 4 0 (opsAt (partAt (partAt (partAt p16_l1 0) 0) 0))) (partAt (partAt p16_l1 0) 1)) (partAt p16_l1 1))) (env, h) = _
  rw [evP_seq, evP_seq, h1]
  rfl
def E5_16 (n : Int) (k L m : Nat) : List AV := [.int .i64 n, .any, .sl none 0 (.fix 0), .sl (some (m + 1, 0)) (L + 1) (.rel 0), .any, .any, .any, .any, .any, .int .i64 n, .int .i64 (n.tmod 64), .sl (some (k, 0)) L (.rel 0), .int .i64 L, .int .i64 (IntKind.i64.wrap (n.tmod 64 + L)), .int .i64 (IntKind.i64.wrap (IntKind.i64.wrap (n.tmod 64 + L) + 8)), .int .i64 ((IntKind.i64.wrap (IntKind.i64.wrap (n.tmod 64 + L) + 8)).tmod 64), .bool true, .sl (some (k, 0)) L (.rel 0), .sl (some (m, 0)) 1 (.rel 0), .sl (some (m + 1, 0)) (L + 1) (.rel 0), .any, .any, .any, .any, .any, .any, .any, .any, .any, .any, .any, .any, .any, .any, .any]
theorem go_16 {P : Program} {S : Specs} {n : Int} {k L c : Nat} {h : AHeap} {env : List AV} {cs : List AV} (hf : forget (F16 4) (env, h) = (canon16 n (.sl (some (k, 0)) L (.rel 0)), h)) (hc : padC n L = true)
    (hk : h[k]? = some (.row 5 1 cs)) (hn : cs.length = L) (hb : L < 1000) :
    evP P S F16 (c + 6) (.inl p16_l1) (env, h) = some (.normal, (E5_16 n k L h.length, h.set k .dead ++ [.row 5 1 [.int .u8 0], .row 5 1 (cs ++ [.int .u8 0])])) := by
  have h1 := i4_16 (P := P) (S := S) (c := c + 3) hf
  rw [hc] at h1
  show evP P S F16 (c + 5 + 1) (.inl (.seq (.seq (.ops 4 0 (opsAt (partAt (partAt (partAt p16_l1 0) 0) 0))) (partAt (partAt p16_l1 0) 1)) (partAt p16_l1 1))) (env, h) = _
  rw [evP_seq, evP_seq, h1]
  show evP P S F16 (c + 4 + 1) (.inl (.block 1 (.ops 5 2 (opsAt (blockAt (partAt p16_l1 1)))))) (E4_16 n (.sl (some (k, 0)) L (.rel 0)) L true, h) = _
  refine block_normal (region_run ?_)
  refine ops_cons (st1 := ((E4_16 n (.sl (some (k, 0)) L (.rel 0)) L true).set 17 (.sl (some (k, 0)) L (.rel 0)), h ++ [.hole, .hole])) rfl ?_
  exact ops_push (P := P) (S := S) (h := h) (env := (E4_16 n (.sl (some (k, 0)) L (.rel 0)) L true).set 17 (.sl (some (k, 0)) L (.rel 0))) (e := 5) (kk := .u8) (m := 0) (x := .const (.int .u8 0)) (ta := 17) (t1 := 18) (t2 := 19) (t3 := 3) (k := k) (n := L) (b := 1) (cs := cs) rfl rfl rfl rfl hk hn (by omega) (by omega)
theorem again_16 (n : Int) (k L m : Nat) (h : AHeap) : forget (F16 4) (E5_16 n k L m, h) = (canon16 n (.sl (some (m + 1, 0)) (L + 1) (.rel 0)), h) := by kernel_rfl
end Go.Proofs.Ytiijphmpkmmpjaa
