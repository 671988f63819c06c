/- Written by merging: Dm Dn Dp Dq Dr Ds. -/
import Derived.Test.YtncmgbbbekabdaaMn
import Derived.Test.YtncmgbbbekabdaaMl
namespace Go.Proofs.Ytncmgbbbekabdaa
open Go Go.Am Go.RowKit
set_option maxRecDepth 100000
set_option linter.unusedVariables false
set_option linter.unusedSimpArgs false

noncomputable def tg19 : List TbG := [TC Try.prog 9 VI P9, TC Try.prog 16 VII P16, TC Try.prog 18 VII P18, TC Try.prog 32 VI P32, TC Try.prog 33 VII P33, TC Try.prog 34 VII P34, TC Try.prog 23 VC23 P23]
theorem tabs19 : TabsOK [] tg19 [] := by
  refine ⟨fun _ h => (by cases h), by kernel_rfl, fun x hx => ?_, fun x hx => ?_, fun _ h => (by cases h), rfl⟩
  · simp only [tg19, List.mem_cons, List.not_mem_nil, or_false] at hx
    rcases hx with rfl | rfl | rfl | rfl | rfl | rfl | rfl
    · exact csem_full ht9 VI P9
    · exact csem_full ht16 VII P16
    · exact csem_full ht18 VII P18
    · exact csem_full ht32 VI P32
    · exact csem_full ht33 VII P33
    · exact csem_full ht34 VII P34
    · exact csem_full ht23 VC23 P23
  · simp only [tg19, List.mem_cons, List.not_mem_nil, or_false] at hx
    rcases hx with rfl | rfl | rfl | rfl | rfl | rfl | rfl <;> exact TC_ok _ _ _ _
noncomputable def C19 : Cfg := CT [] tg19 [(18, i64), (24, i64), (26, i64), (30, i64), (32, i64), (40, i64), (47, i64), (65, i64), (67, i64), (74, i64), (76, i64), (96, i64), (98, i64), (102, i64)]
theorem step_vc (h : AHeap) (t r : Nat) (d a id : Int) (R : AV → AHeap → Prop) : (chkW (isHole (h ++ List.replicate (0 + 1) AObj.hole) (List.length h)) (∃ (n : Int), (Option.bind (cellsAt (List.set (h ++ List.replicate (0 + 1) AObj.hole) (List.length h) (AObj.row 38 (List.length (AV.cells (AV.agg [AV.int .i64 d, AV.int .i64 a, AV.int .i64 id]))) (AV.cells (AV.agg [AV.int .i64 d, AV.int .i64 a, AV.int .i64 id])))) (List.length h)) fun (x : List AV) => partR none x 0) = some (AV.int .i64 n) ∧ askB (n == 0) (∃ (n : Int), (Option.bind (cellsAt (List.set (h ++ List.replicate (0 + 1) AObj.hole) (List.length h) (AObj.row 38 (List.length (AV.cells (AV.agg [AV.int .i64 d, AV.int .i64 a, AV.int .i64 id]))) (AV.cells (AV.agg [AV.int .i64 d, AV.int .i64 a, AV.int .i64 id])))) (List.length h)) fun (x : List AV) => partR none x 1) = some (AV.int .i64 n) ∧ ∃ (n_1 : Int), (Option.bind (cellsAt (List.set (h ++ List.replicate (0 + 1) AObj.hole) (List.length h) (AObj.row 38 (List.length (AV.cells (AV.agg [AV.int .i64 d, AV.int .i64 a, AV.int .i64 id]))) (AV.cells (AV.agg [AV.int .i64 d, AV.int .i64 a, AV.int .i64 id])))) (List.length h)) fun (x : List AV) => partR none x 2) = some (AV.int .i64 n_1) ∧ ∃ (n_2 : Int), (Option.bind (cellsAt (List.set (h ++ List.replicate (0 + 1) AObj.hole) (List.length h) (AObj.row 38 (List.length (AV.cells (AV.agg [AV.int .i64 d, AV.int .i64 a, AV.int .i64 id]))) (AV.cells (AV.agg [AV.int .i64 d, AV.int .i64 a, AV.int .i64 id])))) (List.length h)) fun (x : List AV) => partR none x 1) = some (AV.int .i64 n_2) ∧ ∃ (n_3 : Int), (Option.bind (cellsAt (List.set (h ++ List.replicate (0 + 1) AObj.hole) (List.length h) (AObj.row 38 (List.length (AV.cells (AV.agg [AV.int .i64 d, AV.int .i64 a, AV.int .i64 id]))) (AV.cells (AV.agg [AV.int .i64 d, AV.int .i64 a, AV.int .i64 id])))) (List.length h)) fun (x : List AV) => partR none x 2) = some (AV.int .i64 n_3) ∧ ComesTo Try.prog 9 VI P9 ([] ++ List.reverse [AV.int .i64 n_1, AV.int .i64 n, AV.ptr (some (t, 0))] ++ []) (List.set (h ++ List.replicate (0 + 1) AObj.hole) (List.length h) (AObj.row 38 (List.length (AV.cells (AV.agg [AV.int .i64 d, AV.int .i64 a, AV.int .i64 id]))) (AV.cells (AV.agg [AV.int .i64 d, AV.int .i64 a, AV.int .i64 id])))) ∧ ∀ (a_1 : Int) (h' : AHeap), P9 [AV.ptr (some (t, 0)), AV.int .i64 n, AV.int .i64 n_1] (List.set (h ++ List.replicate (0 + 1) AObj.hole) (List.length h) (AObj.row 38 (List.length (AV.cells (AV.agg [AV.int .i64 d, AV.int .i64 a, AV.int .i64 id]))) (AV.cells (AV.agg [AV.int .i64 d, AV.int .i64 a, AV.int .i64 id])))) a_1 h' → loadZ h' none (AV.ptr (some (List.length h, 2))) = loadZ (List.set (h ++ List.replicate (0 + 1) AObj.hole) (List.length h) (AObj.row 38 (List.length (AV.cells (AV.agg [AV.int .i64 d, AV.int .i64 a, AV.int .i64 id]))) (AV.cells (AV.agg [AV.int .i64 d, AV.int .i64 a, AV.int .i64 id])))) none (AV.ptr (some (List.length h, 2))) ∧ loadZ h' none (AV.ptr (some (List.length h, 1))) = loadZ (List.set (h ++ List.replicate (0 + 1) AObj.hole) (List.length h) (AObj.row 38 (List.length (AV.cells (AV.agg [AV.int .i64 d, AV.int .i64 a, AV.int .i64 id]))) (AV.cells (AV.agg [AV.int .i64 d, AV.int .i64 a, AV.int .i64 id])))) none (AV.ptr (some (List.length h, 1))) ∧ ComesTo Try.prog 32 VI P32 ([] ++ List.reverse [AV.int .i64 n_3, AV.int .i64 n_2, AV.ptr (some (r, 0))] ++ []) h' ∧ ∀ (a : Int) (h'_1 : AHeap), P32 [AV.ptr (some (r, 0)), AV.int .i64 n_2, AV.int .i64 n_3] h' a h'_1 → loadZ h'_1 none (AV.ptr (some (List.length h, 2))) = loadZ h' none (AV.ptr (some (List.length h, 2))) ∧ loadZ h'_1 none (AV.ptr (some (List.length h, 1))) = loadZ h' none (AV.ptr (some (List.length h, 1))) ∧ askB (a_1 == a) (R (AV.tup [AV.ptr (some (t, 0)), AV.bool true]) h'_1) (R (AV.tup [AV.ptr (some (t, 0)), AV.bool false]) h'_1)) (askB (n == 1) (∃ (n : Int), (Option.bind (cellsAt (List.set (h ++ List.replicate (0 + 1) AObj.hole) (List.length h) (AObj.row 38 (List.length (AV.cells (AV.agg [AV.int .i64 d, AV.int .i64 a, AV.int .i64 id]))) (AV.cells (AV.agg [AV.int .i64 d, AV.int .i64 a, AV.int .i64 id])))) (List.length h)) fun (x : List AV) => partR none x 2) = some (AV.int .i64 n) ∧ ComesTo Try.prog 16 VII P16 ([] ++ List.reverse [AV.int .i64 n, AV.ptr (some (t, 0))] ++ []) (List.set (h ++ List.replicate (0 + 1) AObj.hole) (List.length h) (AObj.row 38 (List.length (AV.cells (AV.agg [AV.int .i64 d, AV.int .i64 a, AV.int .i64 id]))) (AV.cells (AV.agg [AV.int .i64 d, AV.int .i64 a, AV.int .i64 id])))) ∧ ∀ (a_1 : Int × Int) (h' : AHeap), P16 [AV.ptr (some (t, 0)), AV.int .i64 n] (List.set (h ++ List.replicate (0 + 1) AObj.hole) (List.length h) (AObj.row 38 (List.length (AV.cells (AV.agg [AV.int .i64 d, AV.int .i64 a, AV.int .i64 id]))) (AV.cells (AV.agg [AV.int .i64 d, AV.int .i64 a, AV.int .i64 id])))) a_1 h' → ∃ (n : Int), (Option.bind (cellsAt h' (List.length h)) fun (x : List AV) => partR none x 2) = some (AV.int .i64 n) ∧ ComesTo Try.prog 33 VII P33 ([] ++ List.reverse [AV.int .i64 n, AV.ptr (some (r, 0))] ++ []) h' ∧ ∀ (a : Int × Int) (h'_1 : AHeap), P33 [AV.ptr (some (r, 0)), AV.int .i64 n] h' a h'_1 → askB (Prod.fst a_1 == Prod.fst a) (askB (Prod.snd a_1 == Prod.snd a) (R (AV.tup [AV.ptr (some (t, 0)), AV.bool true]) h'_1) (R (AV.tup [AV.ptr (some (t, 0)), AV.bool false]) h'_1)) (R (AV.tup [AV.ptr (some (t, 0)), AV.bool false]) h'_1)) (askB (n == 2) (∃ (n : Int), (Option.bind (cellsAt (List.set (h ++ List.replicate (0 + 1) AObj.hole) (List.length h) (AObj.row 38 (List.length (AV.cells (AV.agg [AV.int .i64 d, AV.int .i64 a, AV.int .i64 id]))) (AV.cells (AV.agg [AV.int .i64 d, AV.int .i64 a, AV.int .i64 id])))) (List.length h)) fun (x : List AV) => partR none x 2) = some (AV.int .i64 n) ∧ ∃ (n_1 : Int), (Option.bind (cellsAt (List.set (h ++ List.replicate (0 + 1) AObj.hole) (List.length h) (AObj.row 38 (List.length (AV.cells (AV.agg [AV.int .i64 d, AV.int .i64 a, AV.int .i64 id]))) (AV.cells (AV.agg [AV.int .i64 d, AV.int .i64 a, AV.int .i64 id])))) (List.length h)) fun (x : List AV) => partR none x 1) = some (AV.int .i64 n_1) ∧ ComesTo Try.prog 18 VII P18 ([] ++ List.reverse [AV.int .i64 n_1, AV.int .i64 n, AV.ptr (some (t, 0))] ++ []) (List.set (h ++ List.replicate (0 + 1) AObj.hole) (List.length h) (AObj.row 38 (List.length (AV.cells (AV.agg [AV.int .i64 d, AV.int .i64 a, AV.int .i64 id]))) (AV.cells (AV.agg [AV.int .i64 d, AV.int .i64 a, AV.int .i64 id])))) ∧ ∀ (a_1 : Int × Int) (h' : AHeap), P18 [AV.ptr (some (t, 0)), AV.int .i64 n, AV.int .i64 n_1] (List.set (h ++ List.replicate (0 + 1) AObj.hole) (List.length h) (AObj.row 38 (List.length (AV.cells (AV.agg [AV.int .i64 d, AV.int .i64 a, AV.int .i64 id]))) (AV.cells (AV.agg [AV.int .i64 d, AV.int .i64 a, AV.int .i64 id])))) a_1 h' → ∃ (n : Int), (Option.bind (cellsAt h' (List.length h)) fun (x : List AV) => partR none x 2) = some (AV.int .i64 n) ∧ ∃ (n_2 : Int), (Option.bind (cellsAt h' (List.length h)) fun (x : List AV) => partR none x 1) = some (AV.int .i64 n_2) ∧ ComesTo Try.prog 34 VII P34 ([] ++ List.reverse [AV.int .i64 n_2, AV.int .i64 n, AV.ptr (some (r, 0))] ++ []) h' ∧ ∀ (a : Int × Int) (h'_1 : AHeap), P34 [AV.ptr (some (r, 0)), AV.int .i64 n, AV.int .i64 n_2] h' a h'_1 → askB (Prod.fst a_1 == Prod.fst a) (askB (Prod.snd a_1 == Prod.snd a) (R (AV.tup [AV.ptr (some (t, 0)), AV.bool true]) h'_1) (R (AV.tup [AV.ptr (some (t, 0)), AV.bool false]) h'_1)) (R (AV.tup [AV.ptr (some (t, 0)), AV.bool false]) h'_1)) (ComesTo Try.prog 23 VC23 P23 ([] ++ List.reverse [AV.ptr (some (t, 0))] ++ []) (List.set (h ++ List.replicate (0 + 1) AObj.hole) (List.length h) (AObj.row 38 (List.length (AV.cells (AV.agg [AV.int .i64 d, AV.int .i64 a, AV.int .i64 id]))) (AV.cells (AV.agg [AV.int .i64 d, AV.int .i64 a, AV.int .i64 id])))) ∧ ∀ (a_1 : Nat) (h' : AHeap), P23 [AV.ptr (some (t, 0))] (List.set (h ++ List.replicate (0 + 1) AObj.hole) (List.length h) (AObj.row 38 (List.length (AV.cells (AV.agg [AV.int .i64 d, AV.int .i64 a, AV.int .i64 id]))) (AV.cells (AV.agg [AV.int .i64 d, AV.int .i64 a, AV.int .i64 id])))) a_1 h' → ∃ (n : Int), (Option.bind (cellsAt h' (List.length h)) fun (x : List AV) => partR none x 1) = some (AV.int .i64 n) ∧ ∃ (n_1 : Int), (Option.bind (cellsAt h' (List.length h)) fun (x : List AV) => partR none x 2) = some (AV.int .i64 n_1) ∧ ComesTo Try.prog 9 VI P9 ([] ++ List.reverse [AV.int .i64 n_1, AV.int .i64 n, AV.ptr (some (t, 0))] ++ []) h' ∧ ∀ (a : Int) (h'_1 : AHeap), P9 [AV.ptr (some (t, 0)), AV.int .i64 n, AV.int .i64 n_1] h' a h'_1 → ∃ (n : Int), (Option.bind (cellsAt h'_1 (List.length h)) fun (x : List AV) => partR none x 2) = some (AV.int .i64 n) ∧ ComesTo Try.prog 16 VII P16 ([] ++ List.reverse [AV.int .i64 n, AV.ptr (some (t, 0))] ++ []) h'_1 ∧ ∀ (a : Int × Int) (h' : AHeap), P16 [AV.ptr (some (t, 0)), AV.int .i64 n] h'_1 a h' → R (AV.tup [AV.ptr (some (a_1, 0)), AV.bool true]) h'))))) = (wpF Try.prog C19 80 p19 [.ptr (some (t, 0)), .ptr (some (r, 0)), .agg [.int .i64 d, .int .i64 a, .int .i64 id]] h R) := by kernel_rfl
def V19 (x : Nat × Bool) : AV := .tup [.ptr (some (x.1, 0)), .bool x.2]
/-- A tree and the reference's list with the same ids. -/
def rB (t m : Nat) (lk : Int) (T : TT) (qs : List (Nat × Int)) (r : Nat) (l : AV) : Rws := rA t m lk T qs ++ rR r l T.ids
def P19 (vs : List AV) (h : AHeap) (x : Nat × Bool) (h' : AHeap) : Prop := ∀ t r T m lk qs l (d a id : Int), vs = [.ptr (some (t, 0)), .ptr (some (r, 0)), .agg [.int .i64 d, .int .i64 a, .int .i64 id]] → Good T qs → wG l T.ids → Maps h (rB t m lk T qs r l) →
  x.2 = true ∧ ∃ m' lk' T' qs' l', Good T' qs' ∧ wG l' T'.ids ∧ Tr h h' (rB t m lk T qs r l) (rB x.1 m' lk' T' qs' r l')
theorem step_can {h : AHeap} {t m r : Nat} {lk : Int} {T : TT} {qs : List (Nat × Int)} {l : AV} {d a id : Int} (g : Good T qs) (hl : wG l T.ids) (hM : Maps h (rB t m lk T qs r l)) : ComesTo Try.prog 19 V19 P19 [.ptr (some (t, 0)), .ptr (some (r, 0)), .agg [.int .i64 d, .int .i64 a, .int .i64 id]] h := by
  suffices hs : ∃ v h', (∃ x : Nat × Bool, v = V19 x ∧ x.2 = true ∧ ∃ m' lk' T' qs' l', Good T' qs' ∧ wG l' T'.ids ∧ Tr h h' (rB t m lk T qs r l) (rB x.1 m' lk' T' qs' r l')) ∧ CallSem Try.prog 19 [.ptr (some (t, 0)), .ptr (some (r, 0)), .agg [.int .i64 d, .int .i64 a, .int .i64 id]] h v h' by
    obtain ⟨v, h', ⟨x, rfl, ht⟩, hs⟩ := hs
    refine ⟨x, h', fun t' r' T' m' lk' qs' l' d' a' id' e g' hl' hM' => ?_, hs⟩
    simp only [List.cons.injEq, AV.ptr.injEq, AV.agg.injEq, AV.int.injEq, Option.some.injEq, Prod.mk.injEq, and_true, true_and] at e
    obtain ⟨rfl, rfl, rfl, rfl, rfl⟩ := e
    obtain ⟨rfl, rfl, rfl, rfl⟩ := rA_one hM.left hM'.left
    obtain ⟨rfl, -⟩ := rR_one hl.form hM.right hl'.form hM'.right
    exact ht
  refine sem tabs19 ht19 c19 rfl (step_vc h t r d a id _) ?_
  have gn := g.n
  have hlen := TT.n_ids T
  have hz : T.ids.length ≤ 1024 := by omega
  have N := new_tr hM (AObj.row 38 (List.length (AV.cells (AV.agg [AV.int .i64 d, AV.int .i64 a, AV.int .i64 id]))) (AV.cells (AV.agg [AV.int .i64 d, AV.int .i64 a, AV.int .i64 id])))
  simp only [repl1, repl2, repl3, List.append_assoc, List.cons_append, List.nil_append, List.append_nil, len_b1, Nat.add_zero, hs0, hs1, hs2, hs3, hg0, hg1, hg2, hg3, ho0, ho1, ho2, ho3, chkW_true, bs1, ints_app, ints_one, ints_len]
  generalize hh1 : h ++ [AObj.row 38 (List.length (AV.cells (AV.agg [AV.int .i64 d, AV.int .i64 a, AV.int .i64 id]))) (AV.cells (AV.agg [AV.int .i64 d, AV.int .i64 a, AV.int .i64 id]))] = h1 at N
  obtain ⟨O, hO⟩ : ∃ O : Rws, O = [(h.length, AObj.row 38 (List.length (AV.cells (AV.agg [AV.int .i64 d, AV.int .i64 a, AV.int .i64 id]))) (AV.cells (AV.agg [AV.int .i64 d, AV.int .i64 a, AV.int .i64 id])))] := ⟨_, rfl⟩
  have N1 : Tr h h1 (rB t m lk T qs r l) (O ++ rB t m lk T qs r l) := by rw [hO]; exact N
  -- what o holds
  have ho : ∀ {H : AHeap} {X : Rws}, Maps H (O ++ X) → H[h.length]? = some (AObj.row 38 (List.length (AV.cells (AV.agg [AV.int .i64 d, AV.int .i64 a, AV.int .i64 id]))) (AV.cells (AV.agg [AV.int .i64 d, AV.int .i64 a, AV.int .i64 id]))) := fun {H X} hX => hX.row _ _ (List.mem_append_left _ (by rw [hO]; exact List.mem_cons_self))
  have f0 : ∀ {H : AHeap} {X : Rws}, Maps H (O ++ X) → (Option.bind (cellsAt H h.length) fun (x : List AV) => partR none x 0) = some (AV.int .i64 d) := fun hX => fld (ho hX) rfl
  have f1 : ∀ {H : AHeap} {X : Rws}, Maps H (O ++ X) → (Option.bind (cellsAt H h.length) fun (x : List AV) => partR none x 1) = some (AV.int .i64 a) := fun hX => fld (ho hX) rfl
  have f2 : ∀ {H : AHeap} {X : Rws}, Maps H (O ++ X) → (Option.bind (cellsAt H h.length) fun (x : List AV) => partR none x 2) = some (AV.int .i64 id) := fun hX => fld (ho hX) rfl
  have z1 : ∀ {H : AHeap} {X : Rws}, Maps H (O ++ X) → loadZ H none (.ptr (some (h.length, 1))) = some (AV.int .i64 a) := fun hX => f1 hX
  have z2 : ∀ {H : AHeap} {X : Rws}, Maps H (O ++ X) → loadZ H none (.ptr (some (h.length, 2))) = some (AV.int .i64 id) := fun hX => f2 hX
  have M1 := N1.b
  -- one of the tree's calls, one of the list's
  have onA : ∀ {H H' : AHeap} {t' m' lk' T' qs' A' l'} {zs : List Int}, Tr h H (rB t m lk T qs r l) (O ++ (rA t' m' lk' T' qs' ++ rR r l' zs)) → Tr H H' (rA t' m' lk' T' qs') A' → Tr h H' (rB t m lk T qs r l) (O ++ (A' ++ rR r l' zs)) := fun {H H' t' m' lk' T' qs' A' l' zs} hT hA =>
    hT.trans (Tr.use (O ++ rR r l' zs) hA hT.b (perm_of fun a => by simp only [cnt_append]; omega) (perm_of fun a => by simp only [cnt_append]; omega))
  have onB : ∀ {H H' : AHeap} {A' : Rws} {l' l2} {zs zs2 : List Int}, Tr h H (rB t m lk T qs r l) (O ++ (A' ++ rR r l' zs)) → Tr H H' (rR r l' zs) (rR r l2 zs2) → Tr h H' (rB t m lk T qs r l) (O ++ (A' ++ rR r l2 zs2)) := fun {H H' A' l' l2 zs zs2} hT hB =>
    hT.trans (Tr.use (O ++ A') hB hT.b (perm_of fun a => by simp only [cnt_append]; omega) (perm_of fun a => by simp only [cnt_append]; omega))
  refine ⟨d, f0 M1, askI (fun hd => ?_) (fun _ => askI (fun hd => ?_) (fun _ => askI (fun hd => ?_) (fun _ => ?_)))⟩
  · refine ⟨a, f1 M1, id, f2 M1, a, f1 M1, id, f2 M1, ins_can g M1.right.left, fun c h' hp => ?_⟩
    obtain ⟨rfl, T', lk', qs', g', e', -, Tr1⟩ := hp t T m lk qs a id rfl g M1.right.left
    have U1 := onA N1 Tr1
    refine ⟨(z2 U1.b).trans (z2 M1).symm, (z1 U1.b).trans (z1 M1).symm, lins_can hl hz U1.b.right.right, fun c2 h2 hp2 => ?_⟩
    obtain ⟨rfl, l2, hl2, Tr2⟩ := hp2 r l T.ids a id rfl hl hz U1.b.right.right
    have U2 := onB U1 Tr2
    rw [← e'] at hl2 U2
    refine ⟨(z2 U2.b).trans (z2 U1.b).symm, (z1 U2.b).trans (z1 U1.b).symm, askT (by simp) ⟨(t, true), rfl, rfl, m, lk', T', qs', l2, g', hl2, U2.drop⟩⟩
  · refine ⟨id, f2 M1, del_can g M1.right.left, fun c h' hp => ?_⟩
    obtain ⟨rfl, T', lk', qs', g', e', Tr1⟩ := hp t T m lk qs id rfl g M1.right.left
    have U1 := onA N1 Tr1
    refine ⟨id, f2 U1.b, ldel_can hl hz U1.b.right.right, fun c2 h2 hp2 => ?_⟩
    obtain ⟨rfl, l2, hl2, Tr2⟩ := hp2 r l T.ids id rfl hl hz U1.b.right.right
    have U2 := onB U1 Tr2
    rw [← e'] at hl2 U2
    exact askT (by simp) (askT (by simp) ⟨(t, true), rfl, rfl, m, lk', T', qs', l2, g', hl2, U2.drop⟩)
  · refine ⟨id, f2 M1, a, f1 M1, move_can g M1.right.left, fun c h' hp => ?_⟩
    obtain ⟨rfl, T', lk', qs', g', e', Tr1⟩ := hp t T m lk qs id a rfl g M1.right.left
    have U1 := onA N1 Tr1
    refine ⟨id, f2 U1.b, a, f1 U1.b, lmov_can hl hz U1.b.right.right, fun c2 h2 hp2 => ?_⟩
    obtain ⟨rfl, l2, hl2, Tr2⟩ := hp2 r l T.ids id a rfl hl hz U1.b.right.right
    have U2 := onB U1 Tr2
    rw [← e'] at hl2 U2
    exact askT (by simp) (askT (by simp) ⟨(t, true), rfl, rfl, m, lk', T', qs', l2, g', hl2, U2.drop⟩)
  · refine ⟨clone_can g M1.right.left, fun c h' hp => ?_⟩
    obtain ⟨m2, T2, qs2, g2, e2, Tr1⟩ := hp t T m lk qs rfl g M1.right.left
    have U1 := onA N1 Tr1
    have A1 : Maps h' (rA t m lk T qs) := U1.b.right.left.left
    refine ⟨a, f1 U1.b, id, f2 U1.b, ins_can g A1, fun c3 h3 hp3 => ?_⟩
    obtain ⟨rfl, T3, lk3, qs3, g3, e3, -, Tr3⟩ := hp3 t T m lk qs a id rfl g A1
    have U3 : Tr h h3 (rB t m lk T qs r l) (O ++ ((rA t m lk3 T3 qs3 ++ rA c m2 lk T2 qs2) ++ rR r l T.ids)) := U1.trans (Tr.use (O ++ (rA c m2 lk T2 qs2 ++ rR r l T.ids)) Tr3 U1.b (perm_of fun a => by simp only [cnt_append]; omega) (perm_of fun a => by simp only [cnt_append]; omega))
    have A3 : Maps h3 (rA t m lk3 T3 qs3) := U3.b.right.left.left
    refine ⟨id, f2 U3.b, del_can g3 A3, fun c4 h4 hp4 => ?_⟩
    obtain ⟨rfl, T4, lk4, qs4, g4, e4, Tr4⟩ := hp4 t T3 m lk3 qs3 id rfl g3 A3
    have U4 : Tr h h4 (rB t m lk T qs r l) ((O ++ rA t m lk4 T4 qs4) ++ (rA c m2 lk T2 qs2 ++ rR r l T.ids)) := U3.trans (Tr.use (O ++ (rA c m2 lk T2 qs2 ++ rR r l T.ids)) Tr4 U3.b (perm_of fun a => by simp only [cnt_append]; omega) (perm_of fun a => by simp only [cnt_append]; omega))
    rw [← e2] at hl U4
    exact ⟨(c, true), rfl, rfl, m2, lk, T2, qs2, l, g2, hl, by rw [e2] at U4; unfold rB; rw [e2]; exact U4.drop⟩
noncomputable def tq5 : List TbE := [⟨10, sLen, .of (.one i64)⟩, ⟨20, sAt, .tup [.one i64, .one .bool]⟩, ⟨21, sIdx, .of (.one i64)⟩]
noncomputable def tg5 : List TbG := [t8, t7, TC Try.prog 13 VIB P13, TC Try.prog 14 VIB P14, TC Try.prog 15 V15 P15, TC Try.prog 17 AV.bool P17, TC Try.prog 19 V19 P19]
theorem tabs5 : TabsOK tq5 tg5 [] := by
  refine ⟨fun x hx => ?_, by kernel_rfl, fun x hx => ?_, fun x hx => ?_, fun _ h => (by cases h), rfl⟩
  · simp only [tq5, List.mem_cons, List.not_mem_nil, or_false] at hx
    rcases hx with rfl | rfl | rfl
    · exact len_ok
    · exact lat_ok
    · exact lidx_ok
  · simp only [tg5, List.mem_cons, List.not_mem_nil, or_false] at hx
    rcases hx with rfl | rfl | rfl | rfl | rfl | rfl | rfl
    · exact t8_full
    · exact t7_full
    · exact csem_full ht13 VIB P13
    · exact csem_full ht14 VIB P14
    · exact csem_full ht15 V15 P15
    · exact csem_full ht17 AV.bool P17
    · exact csem_full ht19 V19 P19
  · simp only [tg5, List.mem_cons, List.not_mem_nil, or_false] at hx
    rcases hx with rfl | rfl | rfl | rfl | rfl | rfl | rfl
    · exact t8_ok
    · exact TK_ok
    · exact TC_ok _ _ _ _
    · exact TC_ok _ _ _ _
    · exact TC_ok _ _ _ _
    · exact TC_ok _ _ _ _
    · exact TC_ok _ _ _ _
/-- The places: the tree, the reference's list; the script and how far it is gone through. -/
def e5 (sl : AV) (n : Nat) (t r : Nat) (i : Int) : List AV := envOf 104 [(3, .ptr (some (t, 0))), (4, .ptr (some (r, 0))), (24, sl), (25, .int .i64 n), (26, .int .i64 i)]
def x5 (t r : Nat) : List AV := envOf 104 [(3, .ptr (some (t, 0))), (4, .ptr (some (r, 0)))]
def n5 : Tidy := ⟨dropT 104 [3, 4, 24, 25, 26], .all⟩
def y5 : Tidy := ⟨dropT 104 [3, 4], .all⟩
def T5 (sl : AV) (n : Nat) (X Y : AHeap → Nat → Nat → Prop) (st : St) (K : AExit → St → Prop) : Prop := ∃ H t r, st = (e5 sl n t r 0, H) ∧ X H t r ∧ ∀ H' t', Y H' t' r → K (.exit 0) (x5 t' r, H')
def kd5 (t : Nat) : Kd := if t = 29 ∨ t = 33 then .agg [i64, i64, i64] else kdOf [(40, i64), (47, i64), (54, i64), (60, i64), (92, .slV), (102, .slV)] t
noncomputable def C5 (sl : AV) (n : Nat) (X Y : AHeap → Nat → Nat → Prop) : Cfg := { CU tq5 tg5 [] [] with
  kd := kd5
  lw := fun id => if id = 5 then some (T5 sl n X Y) else none
  F := fun id => if id = 5 then n5 else if id = 16 then y5 else ⟨[], .all⟩ }
noncomputable def B5 (b : Nat) : Cfg := { CU tq5 tg5 [] [] with kd := kd5, b0 := b }
theorem law5_vc (h : AHeap) (q : Option (Nat × Nat)) (n : Nat) (cc : ACap) (X Y : AHeap → Nat → Nat → Prop) (R : AV → AHeap → Prop) : (preE ([] ++ List.reverse [] ++ []) ∧ chkW (isHole (h ++ List.replicate (0 + 1) AObj.hole ++ [AObj.map [], AObj.row 58 3 [AV.ptr none, AV.map (some (List.length (h ++ List.replicate (0 + 1) AObj.hole))), AV.int .i64 0]]) (List.length h)) (preE ([] ++ List.reverse [] ++ []) ∧ ∃ (H : AHeap), ∃ (t : Nat), ∃ (r : Nat), (envOf 104 [(3, AV.ptr (some (List.length (h ++ List.replicate (0 + 1) AObj.hole) + 1, 0))), (4, AV.ptr (some (List.length h, 0))), (24, AV.sl q n cc), (25, AV.int .i64 (↑n : Int)), (26, AV.int .i64 0)], List.set (h ++ List.replicate (0 + 1) AObj.hole ++ [AObj.map [], AObj.row 58 3 [AV.ptr none, AV.map (some (List.length (h ++ List.replicate (0 + 1) AObj.hole))), AV.int .i64 0]]) (List.length h) (AObj.row 50 (List.length (AV.cells (AV.agg [AV.sl none 0 (ACap.fix 0)]))) (AV.cells (AV.agg [AV.sl none 0 (ACap.fix 0)])))) = (envOf 104 [(3, AV.ptr (some (t, 0))), (4, AV.ptr (some (r, 0))), (24, AV.sl q n cc), (25, AV.int .i64 (↑n : Int)), (26, AV.int .i64 0)], H) ∧ X H t r ∧ ∀ (H' : AHeap) (t' : Nat), Y H' t' r → ∃ (q : Option (Nat × Nat)), ∃ (n : Nat), ∃ (c : ACap), (Option.bind (cellsAt H' r) fun (x : List AV) => partR none x 0) = some (AV.sl q n c) ∧ ComesTo Try.prog 15 V15 P15 ([] ++ List.reverse [AV.ptr (some (t', 0))] ++ []) H' ∧ ∀ (a : Nat) (h' : AHeap), P15 [AV.ptr (some (t', 0))] H' a h' → loadZ h' none (AV.ptr (some (r, 0))) = loadZ H' none (AV.ptr (some (r, 0))) ∧ ComesTo Try.prog 17 AV.bool P17 ([] ++ List.reverse [AV.sl q n c, AV.fn 30 [] [AV.ptr (some (a, 0))]] ++ []) h' ∧ ∀ (a_2 : Bool) (h'_1 : AHeap), P17 [AV.fn 30 [] [AV.ptr (some (a, 0))], AV.sl q n c] h' a_2 h'_1 → askB a_2 (R (AV.bool true) h'_1) (R (AV.bool false) h'_1))) = (wpF Try.prog (C5 (.sl q n cc) n X Y) 80 p5 [.sl q n cc] h R) := by kernel_rfl
theorem law5_loop (h : AHeap) (n : Nat) (cc : ACap) (t r : Nat) (i : Int) (b : Nat) (K : AExit → St → Prop) : (askB (decide (i < (↑n : Int))) (chkW (decide (0 ≤ i)) (chkW (decide (i < (↑n : Int))) (∃ (n_1 : Int), ∃ (n_2 : Int), ∃ (n_3 : Int), (Option.bind (cellsAt (h ++ List.replicate (0 + 1) AObj.hole) 0) fun (x : List AV) => partR (some 3) x (0 + Int.toNat i * 3)) = some (AV.agg [AV.int .i64 n_1, AV.int .i64 n_2, AV.int .i64 n_3]) ∧ chkW (isHole (h ++ List.replicate (0 + 1) AObj.hole) (List.length h)) (∃ (t_1 : TypeId), ∃ (s : Nat), ∃ (cs : List AV), (List.set (h ++ List.replicate (0 + 1) AObj.hole) (List.length h) (AObj.row 38 (List.length (AV.cells (AV.agg [AV.int .i64 0, AV.int .i64 0, AV.int .i64 0]))) (AV.cells (AV.agg [AV.int .i64 0, AV.int .i64 0, AV.int .i64 0]))))[List.length h]? = some (AObj.row t_1 s cs) ∧ chkW (decide (3 ≤ List.length cs)) (∃ (n_4 : Int), ∃ (n_5 : Int), ∃ (n_6 : Int), (Option.bind (cellsAt (List.set (List.set (h ++ List.replicate (0 + 1) AObj.hole) (List.length h) (AObj.row 38 (List.length (AV.cells (AV.agg [AV.int .i64 0, AV.int .i64 0, AV.int .i64 0]))) (AV.cells (AV.agg [AV.int .i64 0, AV.int .i64 0, AV.int .i64 0])))) (List.length h) (AObj.row t_1 s (spliceA cs 0 (AV.cells (AV.agg [AV.int .i64 n_1, AV.int .i64 n_2, AV.int .i64 n_3]))))) (List.length h)) fun (x : List AV) => partR (some 3) x 0) = some (AV.agg [AV.int .i64 n_4, AV.int .i64 n_5, AV.int .i64 n_6]) ∧ ComesTo Try.prog 19 V19 P19 ([] ++ List.reverse [AV.agg [AV.int .i64 n_4, AV.int .i64 n_5, AV.int .i64 n_6], AV.ptr (some (r, 0)), AV.ptr (some (t, 0))] ++ []) (List.set (List.set (h ++ List.replicate (0 + 1) AObj.hole) (List.length h) (AObj.row 38 (List.length (AV.cells (AV.agg [AV.int .i64 0, AV.int .i64 0, AV.int .i64 0]))) (AV.cells (AV.agg [AV.int .i64 0, AV.int .i64 0, AV.int .i64 0])))) (List.length h) (AObj.row t_1 s (spliceA cs 0 (AV.cells (AV.agg [AV.int .i64 n_1, AV.int .i64 n_2, AV.int .i64 n_3]))))) ∧ ∀ (a : Nat × Bool) (h' : AHeap), P19 [AV.ptr (some (t, 0)), AV.ptr (some (r, 0)), AV.agg [AV.int .i64 n_4, AV.int .i64 n_5, AV.int .i64 n_6]] (List.set (List.set (h ++ List.replicate (0 + 1) AObj.hole) (List.length h) (AObj.row 38 (List.length (AV.cells (AV.agg [AV.int .i64 0, AV.int .i64 0, AV.int .i64 0]))) (AV.cells (AV.agg [AV.int .i64 0, AV.int .i64 0, AV.int .i64 0])))) (List.length h) (AObj.row t_1 s (spliceA cs 0 (AV.cells (AV.agg [AV.int .i64 n_1, AV.int .i64 n_2, AV.int .i64 n_3]))))) a h' → askB (Prod.snd a) (∃ (n_7 : Int), (Option.bind (cellsAt h' (List.length h)) fun (x : List AV) => partR none x 1) = some (AV.int .i64 n_7) ∧ ComesTo Try.prog 13 VIB P13 ([] ++ List.reverse [AV.int .i64 n_7, AV.ptr (some (Prod.fst a, 0))] ++ []) h' ∧ ∀ (a_2 : Int × Bool) (h'_1 : AHeap), P13 [AV.ptr (some (Prod.fst a, 0)), AV.int .i64 n_7] h' a_2 h'_1 → askB (Prod.snd a_2) (∃ (n_8 : Int), (Option.bind (cellsAt h'_1 (List.length h)) fun (x : List AV) => partR none x 1) = some (AV.int .i64 n_8) ∧ ∃ (n_9 : Int), ∃ (b : Bool), askB b (TbE.s { f := 20, s := sAt, r := Rs.tup [Rs1.one i64, Rs1.one K1.bool] } [AV.ptr (some (r, 0)), AV.int .i64 n_8] h'_1 = some (AV.tup [AV.int .i64 n_9, AV.bool true]) ∧ ∃ (n_10 : Int), (Option.bind (cellsAt h'_1 (List.length h)) fun (x : List AV) => partR none x 2) = some (AV.int .i64 n_10) ∧ ComesTo Try.prog 14 VIB P14 ([] ++ List.reverse [AV.int .i64 n_10, AV.ptr (some (Prod.fst a, 0))] ++ []) h'_1 ∧ ∀ (a_4 : Int × Bool) (h' : AHeap), P14 [AV.ptr (some (Prod.fst a, 0)), AV.int .i64 n_10] h'_1 a_4 h' → askB (Prod.snd a_4) (∃ (n_11 : Int), (Option.bind (cellsAt h' (List.length h)) fun (x : List AV) => partR none x 2) = some (AV.int .i64 n_11) ∧ ∃ (n_12 : Int), TbE.s { f := 21, s := sIdx, r := Rs.of (Rs1.one i64) } [AV.ptr (some (r, 0)), AV.int .i64 n_11] h' = some (AV.int .i64 n_12) ∧ askB (Prod.fst a_2 != n_9) (K AExit.ret (envOf 104 [(3, AV.ptr (some (Prod.fst a, 0))), (4, AV.ptr (some (r, 0)))], h')) (askB (decide (n_12 ≥ 0)) (askB (Prod.fst a_4 != if true = true then if n_12 > 0 then n_12 else 0 else if n_12 < 0 then n_12 else 0) (K AExit.ret (envOf 104 [(3, AV.ptr (some (Prod.fst a, 0))), (4, AV.ptr (some (r, 0)))], h')) (∃ (n_13 : Int), TbE.s { f := 10, s := sLen, r := Rs.of (Rs1.one i64) } [AV.ptr (some (Prod.fst a, 0))] h' = some (AV.int .i64 n_13) ∧ ∃ (q : Option (Nat × Nat)), ∃ (n_14 : Nat), ∃ (c : ACap), (Option.bind (cellsAt h' r) fun (x : List AV) => partR none x 0) = some (AV.sl q n_14 c) ∧ askB (n_13 != (↑n_14 : Int)) (K AExit.ret (envOf 104 [(3, AV.ptr (some (Prod.fst a, 0))), (4, AV.ptr (some (r, 0)))], h')) (K AExit.normal (envOf 104 [(3, AV.ptr (some (Prod.fst a, 0))), (4, AV.ptr (some (r, 0))), (24, AV.sl (some (0, 0)) n cc), (25, AV.int .i64 (↑n : Int)), (26, AV.int .i64 (IntKind.wrap .i64 (i + 1)))], h')))) (K AExit.ret (envOf 104 [(3, AV.ptr (some (Prod.fst a, 0))), (4, AV.ptr (some (r, 0)))], h')))) (∃ (n_11 : Int), (Option.bind (cellsAt h' (List.length h)) fun (x : List AV) => partR none x 2) = some (AV.int .i64 n_11) ∧ ∃ (n_12 : Int), TbE.s { f := 21, s := sIdx, r := Rs.of (Rs1.one i64) } [AV.ptr (some (r, 0)), AV.int .i64 n_11] h' = some (AV.int .i64 n_12) ∧ askB (Prod.fst a_2 != n_9) (K AExit.ret (envOf 104 [(3, AV.ptr (some (Prod.fst a, 0))), (4, AV.ptr (some (r, 0)))], h')) (askB (decide (n_12 ≥ 0)) (K AExit.ret (envOf 104 [(3, AV.ptr (some (Prod.fst a, 0))), (4, AV.ptr (some (r, 0)))], h')) (askB (Prod.fst a_4 != if true = true then if n_12 > 0 then n_12 else 0 else if n_12 < 0 then n_12 else 0) (K AExit.ret (envOf 104 [(3, AV.ptr (some (Prod.fst a, 0))), (4, AV.ptr (some (r, 0)))], h')) (∃ (n_13 : Int), TbE.s { f := 10, s := sLen, r := Rs.of (Rs1.one i64) } [AV.ptr (some (Prod.fst a, 0))] h' = some (AV.int .i64 n_13) ∧ ∃ (q : Option (Nat × Nat)), ∃ (n_14 : Nat), ∃ (c : ACap), (Option.bind (cellsAt h' r) fun (x : List AV) => partR none x 0) = some (AV.sl q n_14 c) ∧ askB (n_13 != (↑n_14 : Int)) (K AExit.ret (envOf 104 [(3, AV.ptr (some (Prod.fst a, 0))), (4, AV.ptr (some (r, 0)))], h')) (K AExit.normal (envOf 104 [(3, AV.ptr (some (Prod.fst a, 0))), (4, AV.ptr (some (r, 0))), (24, AV.sl (some (0, 0)) n cc), (25, AV.int .i64 (↑n : Int)), (26, AV.int .i64 (IntKind.wrap .i64 (i + 1)))], h'))))))) (TbE.s { f := 20, s := sAt, r := Rs.tup [Rs1.one i64, Rs1.one K1.bool] } [AV.ptr (some (r, 0)), AV.int .i64 n_8] h'_1 = some (AV.tup [AV.int .i64 n_9, AV.bool false]) ∧ ∃ (n : Int), (Option.bind (cellsAt h'_1 (List.length h)) fun (x : List AV) => partR none x 2) = some (AV.int .i64 n) ∧ ComesTo Try.prog 14 VIB P14 ([] ++ List.reverse [AV.int .i64 n, AV.ptr (some (Prod.fst a, 0))] ++ []) h'_1 ∧ ∀ (a_4 : Int × Bool) (h' : AHeap), P14 [AV.ptr (some (Prod.fst a, 0)), AV.int .i64 n] h'_1 a_4 h' → askB (Prod.snd a_4) (∃ (n : Int), (Option.bind (cellsAt h' (List.length h)) fun (x : List AV) => partR none x 2) = some (AV.int .i64 n) ∧ ∃ (n_10 : Int), TbE.s { f := 21, s := sIdx, r := Rs.of (Rs1.one i64) } [AV.ptr (some (r, 0)), AV.int .i64 n] h' = some (AV.int .i64 n_10) ∧ askB (Prod.fst a_2 != n_9) (K AExit.ret (envOf 104 [(3, AV.ptr (some (Prod.fst a, 0))), (4, AV.ptr (some (r, 0)))], h')) (K AExit.ret (envOf 104 [(3, AV.ptr (some (Prod.fst a, 0))), (4, AV.ptr (some (r, 0)))], h'))) (∃ (n : Int), (Option.bind (cellsAt h' (List.length h)) fun (x : List AV) => partR none x 2) = some (AV.int .i64 n) ∧ ∃ (n_10 : Int), TbE.s { f := 21, s := sIdx, r := Rs.of (Rs1.one i64) } [AV.ptr (some (r, 0)), AV.int .i64 n] h' = some (AV.int .i64 n_10) ∧ askB (Prod.fst a_2 != n_9) (K AExit.ret (envOf 104 [(3, AV.ptr (some (Prod.fst a, 0))), (4, AV.ptr (some (r, 0)))], h')) (K AExit.ret (envOf 104 [(3, AV.ptr (some (Prod.fst a, 0))), (4, AV.ptr (some (r, 0)))], h'))))) (∃ (n_8 : Int), (Option.bind (cellsAt h'_1 (List.length h)) fun (x : List AV) => partR none x 1) = some (AV.int .i64 n_8) ∧ ∃ (n_9 : Int), ∃ (b : Bool), askB b (TbE.s { f := 20, s := sAt, r := Rs.tup [Rs1.one i64, Rs1.one K1.bool] } [AV.ptr (some (r, 0)), AV.int .i64 n_8] h'_1 = some (AV.tup [AV.int .i64 n_9, AV.bool true]) ∧ ∃ (n : Int), (Option.bind (cellsAt h'_1 (List.length h)) fun (x : List AV) => partR none x 2) = some (AV.int .i64 n) ∧ ComesTo Try.prog 14 VIB P14 ([] ++ List.reverse [AV.int .i64 n, AV.ptr (some (Prod.fst a, 0))] ++ []) h'_1 ∧ ∀ (a_4 : Int × Bool) (h' : AHeap), P14 [AV.ptr (some (Prod.fst a, 0)), AV.int .i64 n] h'_1 a_4 h' → askB (Prod.snd a_4) (∃ (n : Int), (Option.bind (cellsAt h' (List.length h)) fun (x : List AV) => partR none x 2) = some (AV.int .i64 n) ∧ ∃ (n_10 : Int), TbE.s { f := 21, s := sIdx, r := Rs.of (Rs1.one i64) } [AV.ptr (some (r, 0)), AV.int .i64 n] h' = some (AV.int .i64 n_10) ∧ askB (Prod.fst a_2 != n_9) (K AExit.ret (envOf 104 [(3, AV.ptr (some (Prod.fst a, 0))), (4, AV.ptr (some (r, 0)))], h')) (K AExit.ret (envOf 104 [(3, AV.ptr (some (Prod.fst a, 0))), (4, AV.ptr (some (r, 0)))], h'))) (∃ (n : Int), (Option.bind (cellsAt h' (List.length h)) fun (x : List AV) => partR none x 2) = some (AV.int .i64 n) ∧ ∃ (n_10 : Int), TbE.s { f := 21, s := sIdx, r := Rs.of (Rs1.one i64) } [AV.ptr (some (r, 0)), AV.int .i64 n] h' = some (AV.int .i64 n_10) ∧ askB (Prod.fst a_2 != n_9) (K AExit.ret (envOf 104 [(3, AV.ptr (some (Prod.fst a, 0))), (4, AV.ptr (some (r, 0)))], h')) (K AExit.ret (envOf 104 [(3, AV.ptr (some (Prod.fst a, 0))), (4, AV.ptr (some (r, 0)))], h')))) (TbE.s { f := 20, s := sAt, r := Rs.tup [Rs1.one i64, Rs1.one K1.bool] } [AV.ptr (some (r, 0)), AV.int .i64 n_8] h'_1 = some (AV.tup [AV.int .i64 n_9, AV.bool false]) ∧ ∃ (n_10 : Int), (Option.bind (cellsAt h'_1 (List.length h)) fun (x : List AV) => partR none x 2) = some (AV.int .i64 n_10) ∧ ComesTo Try.prog 14 VIB P14 ([] ++ List.reverse [AV.int .i64 n_10, AV.ptr (some (Prod.fst a, 0))] ++ []) h'_1 ∧ ∀ (a_4 : Int × Bool) (h' : AHeap), P14 [AV.ptr (some (Prod.fst a, 0)), AV.int .i64 n_10] h'_1 a_4 h' → askB (Prod.snd a_4) (∃ (n_11 : Int), (Option.bind (cellsAt h' (List.length h)) fun (x : List AV) => partR none x 2) = some (AV.int .i64 n_11) ∧ ∃ (n_12 : Int), TbE.s { f := 21, s := sIdx, r := Rs.of (Rs1.one i64) } [AV.ptr (some (r, 0)), AV.int .i64 n_11] h' = some (AV.int .i64 n_12) ∧ askB (Prod.fst a_2 != n_9) (K AExit.ret (envOf 104 [(3, AV.ptr (some (Prod.fst a, 0))), (4, AV.ptr (some (r, 0)))], h')) (askB (decide (n_12 ≥ 0)) (askB (Prod.fst a_4 != if true = true then if n_12 > 0 then n_12 else 0 else if n_12 < 0 then n_12 else 0) (K AExit.ret (envOf 104 [(3, AV.ptr (some (Prod.fst a, 0))), (4, AV.ptr (some (r, 0)))], h')) (∃ (n_13 : Int), TbE.s { f := 10, s := sLen, r := Rs.of (Rs1.one i64) } [AV.ptr (some (Prod.fst a, 0))] h' = some (AV.int .i64 n_13) ∧ ∃ (q : Option (Nat × Nat)), ∃ (n_14 : Nat), ∃ (c : ACap), (Option.bind (cellsAt h' r) fun (x : List AV) => partR none x 0) = some (AV.sl q n_14 c) ∧ askB (n_13 != (↑n_14 : Int)) (K AExit.ret (envOf 104 [(3, AV.ptr (some (Prod.fst a, 0))), (4, AV.ptr (some (r, 0)))], h')) (K AExit.normal (envOf 104 [(3, AV.ptr (some (Prod.fst a, 0))), (4, AV.ptr (some (r, 0))), (24, AV.sl (some (0, 0)) n cc), (25, AV.int .i64 (↑n : Int)), (26, AV.int .i64 (IntKind.wrap .i64 (i + 1)))], h')))) (K AExit.ret (envOf 104 [(3, AV.ptr (some (Prod.fst a, 0))), (4, AV.ptr (some (r, 0)))], h')))) (∃ (n_11 : Int), (Option.bind (cellsAt h' (List.length h)) fun (x : List AV) => partR none x 2) = some (AV.int .i64 n_11) ∧ ∃ (n_12 : Int), TbE.s { f := 21, s := sIdx, r := Rs.of (Rs1.one i64) } [AV.ptr (some (r, 0)), AV.int .i64 n_11] h' = some (AV.int .i64 n_12) ∧ askB (Prod.fst a_2 != n_9) (K AExit.ret (envOf 104 [(3, AV.ptr (some (Prod.fst a, 0))), (4, AV.ptr (some (r, 0)))], h')) (askB (decide (n_12 ≥ 0)) (K AExit.ret (envOf 104 [(3, AV.ptr (some (Prod.fst a, 0))), (4, AV.ptr (some (r, 0)))], h')) (askB (Prod.fst a_4 != if true = true then if n_12 > 0 then n_12 else 0 else if n_12 < 0 then n_12 else 0) (K AExit.ret (envOf 104 [(3, AV.ptr (some (Prod.fst a, 0))), (4, AV.ptr (some (r, 0)))], h')) (∃ (n_13 : Int), TbE.s { f := 10, s := sLen, r := Rs.of (Rs1.one i64) } [AV.ptr (some (Prod.fst a, 0))] h' = some (AV.int .i64 n_13) ∧ ∃ (q : Option (Nat × Nat)), ∃ (n_14 : Nat), ∃ (c : ACap), (Option.bind (cellsAt h' r) fun (x : List AV) => partR none x 0) = some (AV.sl q n_14 c) ∧ askB (n_13 != (↑n_14 : Int)) (K AExit.ret (envOf 104 [(3, AV.ptr (some (Prod.fst a, 0))), (4, AV.ptr (some (r, 0)))], h')) (K AExit.normal (envOf 104 [(3, AV.ptr (some (Prod.fst a, 0))), (4, AV.ptr (some (r, 0))), (24, AV.sl (some (0, 0)) n cc), (25, AV.int .i64 (↑n : Int)), (26, AV.int .i64 (IntKind.wrap .i64 (i + 1)))], h'))))))))) (∃ (n : Int), (Option.bind (cellsAt h' (List.length h)) fun (x : List AV) => partR none x 1) = some (AV.int .i64 n) ∧ ComesTo Try.prog 13 VIB P13 ([] ++ List.reverse [AV.int .i64 n, AV.ptr (some (Prod.fst a, 0))] ++ []) h' ∧ ∀ (a_2 : Int × Bool) (h'_1 : AHeap), P13 [AV.ptr (some (Prod.fst a, 0)), AV.int .i64 n] h' a_2 h'_1 → askB (Prod.snd a_2) (∃ (n : Int), (Option.bind (cellsAt h'_1 (List.length h)) fun (x : List AV) => partR none x 1) = some (AV.int .i64 n) ∧ ∃ (n_7 : Int), ∃ (b : Bool), askB b (TbE.s { f := 20, s := sAt, r := Rs.tup [Rs1.one i64, Rs1.one K1.bool] } [AV.ptr (some (r, 0)), AV.int .i64 n] h'_1 = some (AV.tup [AV.int .i64 n_7, AV.bool true]) ∧ ∃ (n : Int), (Option.bind (cellsAt h'_1 (List.length h)) fun (x : List AV) => partR none x 2) = some (AV.int .i64 n) ∧ ComesTo Try.prog 14 VIB P14 ([] ++ List.reverse [AV.int .i64 n, AV.ptr (some (Prod.fst a, 0))] ++ []) h'_1 ∧ ∀ (a_4 : Int × Bool) (h' : AHeap), P14 [AV.ptr (some (Prod.fst a, 0)), AV.int .i64 n] h'_1 a_4 h' → askB (Prod.snd a_4) (∃ (n : Int), (Option.bind (cellsAt h' (List.length h)) fun (x : List AV) => partR none x 2) = some (AV.int .i64 n) ∧ ∃ (n_8 : Int), TbE.s { f := 21, s := sIdx, r := Rs.of (Rs1.one i64) } [AV.ptr (some (r, 0)), AV.int .i64 n] h' = some (AV.int .i64 n_8) ∧ K AExit.ret (envOf 104 [(3, AV.ptr (some (Prod.fst a, 0))), (4, AV.ptr (some (r, 0)))], h')) (∃ (n : Int), (Option.bind (cellsAt h' (List.length h)) fun (x : List AV) => partR none x 2) = some (AV.int .i64 n) ∧ ∃ (n_8 : Int), TbE.s { f := 21, s := sIdx, r := Rs.of (Rs1.one i64) } [AV.ptr (some (r, 0)), AV.int .i64 n] h' = some (AV.int .i64 n_8) ∧ K AExit.ret (envOf 104 [(3, AV.ptr (some (Prod.fst a, 0))), (4, AV.ptr (some (r, 0)))], h'))) (TbE.s { f := 20, s := sAt, r := Rs.tup [Rs1.one i64, Rs1.one K1.bool] } [AV.ptr (some (r, 0)), AV.int .i64 n] h'_1 = some (AV.tup [AV.int .i64 n_7, AV.bool false]) ∧ ∃ (n : Int), (Option.bind (cellsAt h'_1 (List.length h)) fun (x : List AV) => partR none x 2) = some (AV.int .i64 n) ∧ ComesTo Try.prog 14 VIB P14 ([] ++ List.reverse [AV.int .i64 n, AV.ptr (some (Prod.fst a, 0))] ++ []) h'_1 ∧ ∀ (a_4 : Int × Bool) (h' : AHeap), P14 [AV.ptr (some (Prod.fst a, 0)), AV.int .i64 n] h'_1 a_4 h' → askB (Prod.snd a_4) (∃ (n : Int), (Option.bind (cellsAt h' (List.length h)) fun (x : List AV) => partR none x 2) = some (AV.int .i64 n) ∧ ∃ (n_8 : Int), TbE.s { f := 21, s := sIdx, r := Rs.of (Rs1.one i64) } [AV.ptr (some (r, 0)), AV.int .i64 n] h' = some (AV.int .i64 n_8) ∧ K AExit.ret (envOf 104 [(3, AV.ptr (some (Prod.fst a, 0))), (4, AV.ptr (some (r, 0)))], h')) (∃ (n : Int), (Option.bind (cellsAt h' (List.length h)) fun (x : List AV) => partR none x 2) = some (AV.int .i64 n) ∧ ∃ (n_8 : Int), TbE.s { f := 21, s := sIdx, r := Rs.of (Rs1.one i64) } [AV.ptr (some (r, 0)), AV.int .i64 n] h' = some (AV.int .i64 n_8) ∧ K AExit.ret (envOf 104 [(3, AV.ptr (some (Prod.fst a, 0))), (4, AV.ptr (some (r, 0)))], h')))) (∃ (n : Int), (Option.bind (cellsAt h'_1 (List.length h)) fun (x : List AV) => partR none x 1) = some (AV.int .i64 n) ∧ ∃ (n_7 : Int), ∃ (b : Bool), askB b (TbE.s { f := 20, s := sAt, r := Rs.tup [Rs1.one i64, Rs1.one K1.bool] } [AV.ptr (some (r, 0)), AV.int .i64 n] h'_1 = some (AV.tup [AV.int .i64 n_7, AV.bool true]) ∧ ∃ (n : Int), (Option.bind (cellsAt h'_1 (List.length h)) fun (x : List AV) => partR none x 2) = some (AV.int .i64 n) ∧ ComesTo Try.prog 14 VIB P14 ([] ++ List.reverse [AV.int .i64 n, AV.ptr (some (Prod.fst a, 0))] ++ []) h'_1 ∧ ∀ (a_4 : Int × Bool) (h' : AHeap), P14 [AV.ptr (some (Prod.fst a, 0)), AV.int .i64 n] h'_1 a_4 h' → askB (Prod.snd a_4) (∃ (n : Int), (Option.bind (cellsAt h' (List.length h)) fun (x : List AV) => partR none x 2) = some (AV.int .i64 n) ∧ ∃ (n_8 : Int), TbE.s { f := 21, s := sIdx, r := Rs.of (Rs1.one i64) } [AV.ptr (some (r, 0)), AV.int .i64 n] h' = some (AV.int .i64 n_8) ∧ K AExit.ret (envOf 104 [(3, AV.ptr (some (Prod.fst a, 0))), (4, AV.ptr (some (r, 0)))], h')) (∃ (n : Int), (Option.bind (cellsAt h' (List.length h)) fun (x : List AV) => partR none x 2) = some (AV.int .i64 n) ∧ ∃ (n_8 : Int), TbE.s { f := 21, s := sIdx, r := Rs.of (Rs1.one i64) } [AV.ptr (some (r, 0)), AV.int .i64 n] h' = some (AV.int .i64 n_8) ∧ K AExit.ret (envOf 104 [(3, AV.ptr (some (Prod.fst a, 0))), (4, AV.ptr (some (r, 0)))], h'))) (TbE.s { f := 20, s := sAt, r := Rs.tup [Rs1.one i64, Rs1.one K1.bool] } [AV.ptr (some (r, 0)), AV.int .i64 n] h'_1 = some (AV.tup [AV.int .i64 n_7, AV.bool false]) ∧ ∃ (n : Int), (Option.bind (cellsAt h'_1 (List.length h)) fun (x : List AV) => partR none x 2) = some (AV.int .i64 n) ∧ ComesTo Try.prog 14 VIB P14 ([] ++ List.reverse [AV.int .i64 n, AV.ptr (some (Prod.fst a, 0))] ++ []) h'_1 ∧ ∀ (a_4 : Int × Bool) (h' : AHeap), P14 [AV.ptr (some (Prod.fst a, 0)), AV.int .i64 n] h'_1 a_4 h' → askB (Prod.snd a_4) (∃ (n : Int), (Option.bind (cellsAt h' (List.length h)) fun (x : List AV) => partR none x 2) = some (AV.int .i64 n) ∧ ∃ (n_8 : Int), TbE.s { f := 21, s := sIdx, r := Rs.of (Rs1.one i64) } [AV.ptr (some (r, 0)), AV.int .i64 n] h' = some (AV.int .i64 n_8) ∧ K AExit.ret (envOf 104 [(3, AV.ptr (some (Prod.fst a, 0))), (4, AV.ptr (some (r, 0)))], h')) (∃ (n : Int), (Option.bind (cellsAt h' (List.length h)) fun (x : List AV) => partR none x 2) = some (AV.int .i64 n) ∧ ∃ (n_8 : Int), TbE.s { f := 21, s := sIdx, r := Rs.of (Rs1.one i64) } [AV.ptr (some (r, 0)), AV.int .i64 n] h' = some (AV.int .i64 n_8) ∧ K AExit.ret (envOf 104 [(3, AV.ptr (some (Prod.fst a, 0))), (4, AV.ptr (some (r, 0)))], h')))))))))) (K (AExit.exit 0) (envOf 104 [(3, AV.ptr (some (t, 0))), (4, AV.ptr (some (r, 0)))], h))) = (wpP Try.prog (B5 b) 80 (.inl p5_l0) (e5 (.sl (some (0, 0)) n cc) n t r i, h) (postW (B5 b) n5 y5 K)) := by kernel_rfl
theorem law5_loopn (h : AHeap) (t r : Nat) (b : Nat) (K : AExit → St → Prop) : (K (AExit.exit 0) (envOf 104 [(3, AV.ptr (some (t, 0))), (4, AV.ptr (some (r, 0)))], h)) = (wpP Try.prog (B5 b) 80 (.inl p5_l0) (e5 (.sl none 0 (.fix 0)) 0 t r 0, h) (postW (B5 b) n5 y5 K)) := by kernel_rfl
/-- A tree and the reference's list stand, beside these rows. -/
def J5 (F : Rws) (H : AHeap) (t r : Nat) : Prop := ∃ m lk T qs l, Good T qs ∧ wG l T.ids ∧ Maps H (rB t m lk T qs r l ++ F)
theorem loop5 {cs : List AV} {n : Nat} {cc : ACap} {r b : Nat} (hcs : Ops3 cs n) (hn : n ≤ 9223372036854775807) (s : AHeap × Nat × Nat × Nat) (hs : J5 [(0, .ro cs)] s.1 s.2.1 r ∧ s.2.2.1 ≤ n ∧ s.2.2.2 = n - s.2.2.1) :
    W Try.prog (B5 b).S b (.inl (.loop p5_l0)) (e5 (.sl (some (0, 0)) n cc) n s.2.1 r (s.2.2.1 : Nat), s.1) fun e st => e = .exit 0 ∧ ∃ H t, st = (x5 t r, H) ∧ J5 [] H t r := by
  refine W_rounds (C := B5 b) (CU_cw (ks := []) tabs5) (a := p5_l0) (no_parts rfl) (fun s : AHeap × Nat × Nat × Nat => (e5 (.sl (some (0, 0)) n cc) n s.2.1 r (s.2.2.1 : Nat), s.1)) (fun s => J5 [(0, .ro cs)] s.1 s.2.1 r ∧ s.2.2.1 ≤ n ∧ s.2.2.2 = n - s.2.2.1) (fun s => s.2.2.2) (fun _ e st => e = .exit 0 ∧ ∃ H t, st = (x5 t r, H) ∧ J5 [] H t r) n5 y5 ?_ s hs
  rintro ⟨h, t, i, mm⟩ ⟨⟨m, lk, T, qs, l, g, hl, hM⟩, hi, hmm⟩
  refine ⟨80, ?_⟩
  dsimp only at hM hi hmm ⊢
  subst hmm
  rw [← law5_loop]
  refine askI (fun hc => ?_) (fun hc => ?_)
  · simp only [decide_eq_true_eq] at hc
    have hlt : i < n := by omega
    obtain ⟨n1, n2, n3, hp⟩ := hcs i hlt
    have g0 := Grow.app h (List.replicate (0 + 1) AObj.hole)
    have r0 := hM.row 0 _ (List.mem_append_right _ List.mem_cons_self)
    have sl : ∀ x : AObj, (h ++ List.replicate (0 + 1) AObj.hole).set h.length x = h ++ [x] := fun x => by rw [repl1, set_b0]; rfl
    have hole : isHole (h ++ List.replicate (0 + 1) AObj.hole) h.length = true := by unfold isHole; rw [repl1, get_b0]; rfl
    have rowx : ∀ x : AObj, (h ++ [x])[h.length]? = some x := fun x => by rw [get_b0]; rfl
    have sl2 : ∀ x y : AObj, (h ++ [x]).set h.length y = h ++ [y] := fun x y => by rw [set_b0]; rfl
    refine chkI (by simp) (chkI (by simpa using hlt) ⟨n1, n2, n3, ?_, chkI hole ⟨38, 3, [.int .i64 0, .int .i64 0, .int .i64 0], by rw [sl]; exact rowx _, chkI rfl ?_⟩⟩)
    · simp only [cellsAt, g0 _ _ r0, Option.bind_some, objCells, Int.toNat_natCast]
      exact hp
    · rw [sl, sl2]
      have N := new_tr hM (AObj.row 38 3 (spliceA [.int .i64 0, .int .i64 0, .int .i64 0] 0 (AV.cells (AV.agg [AV.int .i64 n1, AV.int .i64 n2, AV.int .i64 n3]))))
      obtain ⟨O, hO⟩ : ∃ O : Rws, O = [(h.length, AObj.row 38 3 [AV.int .i64 n1, AV.int .i64 n2, AV.int .i64 n3])] := ⟨_, rfl⟩
      generalize h ++ [AObj.row 38 3 (spliceA [.int .i64 0, .int .i64 0, .int .i64 0] 0 (AV.cells (AV.agg [AV.int .i64 n1, AV.int .i64 n2, AV.int .i64 n3])))] = h1 at N
      have N1 : Tr h h1 (rB t m lk T qs r l ++ [(0, .ro cs)]) (O ++ (rB t m lk T qs r l ++ [(0, .ro cs)])) := by rw [hO]; exact N
      have ho : ∀ {H : AHeap} {X : Rws}, Maps H (O ++ X) → H[h.length]? = some (AObj.row 38 3 [AV.int .i64 n1, AV.int .i64 n2, AV.int .i64 n3]) := fun {H X} hX => hX.row _ _ (List.mem_append_left _ (by rw [hO]; exact List.mem_cons_self))
      have f1 : ∀ {H : AHeap} {X : Rws}, Maps H (O ++ X) → (Option.bind (cellsAt H h.length) fun (x : List AV) => partR none x 1) = some (AV.int .i64 n2) := fun hX => fld (ho hX) rfl
      have f2 : ∀ {H : AHeap} {X : Rws}, Maps H (O ++ X) → (Option.bind (cellsAt H h.length) fun (x : List AV) => partR none x 2) = some (AV.int .i64 n3) := fun hX => fld (ho hX) rfl
      have M1 := N1.b
      refine ⟨n1, n2, n3, ?_, step_can g hl M1.right.left, fun x h2 hp2 => ?_⟩
      · simp only [cellsAt, ho M1, Option.bind_some, objCells]
        rfl
      obtain ⟨hx, m2, lk2, T2, qs2, l2, g2, hl2, Tr2⟩ := hp2 t r T m lk qs l n1 n2 n3 rfl g hl M1.right.left
      have U2 := Tr.use (M' := O ++ (rB x.1 m2 lk2 T2 qs2 r l2 ++ [(0, .ro cs)])) (O ++ [(0, .ro cs)]) Tr2 M1 (perm_of fun a => by simp only [cnt_append]; omega) (perm_of fun a => by simp only [cnt_append]; omega)
      have gn2 := g2.n
      have hlen2 := TT.n_ids T2
      have hz2 : T2.ids.length ≤ 1024 := by omega
      -- one of the tree's readers
      have onA : ∀ {H H' : AHeap} {lk' lk'' : Int}, Maps H (O ++ (rB x.1 m2 lk' T2 qs2 r l2 ++ [(0, .ro cs)])) → Tr H H' (rA x.1 m2 lk' T2 qs2) (rA x.1 m2 lk'' T2 qs2) → Maps H' (O ++ (rB x.1 m2 lk'' T2 qs2 r l2 ++ [(0, .ro cs)])) := fun {H H' lk' lk''} hT hA =>
        (Tr.use (M' := O ++ (rB x.1 m2 lk'' T2 qs2 r l2 ++ [(0, .ro cs)])) (O ++ (rR r l2 T2.ids ++ [(0, .ro cs)])) hA hT (perm_of fun a => by simp only [rB, cnt_append]; omega) (perm_of fun a => by simp only [rB, cnt_append]; omega)).b
      refine askT hx ⟨n2, f1 U2.b, at_can g2 U2.b.right.left.left, fun a2 h3 hp3 => ?_⟩
      obtain ⟨rfl, lk3, Tr3⟩ := hp3 x.1 T2 m2 lk2 qs2 n2 rfl g2 U2.b.right.left.left
      have M3 := onA U2.b Tr3
      have hat : sAt [.ptr (some (r, 0)), .int .i64 n2] h3 = some (VIB (atR T2.ids n2)) := lat_at hl2 hz2 M3.right.left.right
      generalize hv : atR T2.ids n2 = v at hat
      obtain ⟨z, bz⟩ := v
      have ew : IntKind.wrap .i64 ((i : Int) + 1) = ((i + 1 : Nat) : Int) := by rw [IntKind.wrap_i64]; omega
      have next : ∀ {H lk'}, Maps H (O ++ (rB x.1 m2 lk' T2 qs2 r l2 ++ [(0, .ro cs)])) → ∃ s' : AHeap × Nat × Nat × Nat, ((envOf 104 [(3, AV.ptr (some (x.1, 0))), (4, AV.ptr (some (r, 0))), (24, AV.sl (some (0, 0)) n cc), (25, AV.int .i64 n), (26, AV.int .i64 (IntKind.wrap .i64 ((i : Int) + 1)))], H) : St) = (e5 (.sl (some (0, 0)) n cc) n s'.2.1 r (s'.2.2.1 : Nat), s'.1) ∧ (J5 [(0, .ro cs)] s'.1 s'.2.1 r ∧ s'.2.2.1 ≤ n ∧ s'.2.2.2 = n - s'.2.2.1) ∧ s'.2.2.2 < n - i ∧ ∀ (e : AExit) (st : St), (e = .exit 0 ∧ ∃ H t, st = (x5 t r, H) ∧ J5 [] H t r) → (e = .exit 0 ∧ ∃ H t, st = (x5 t r, H) ∧ J5 [] H t r) := fun {H lk'} hX => by
        rw [ew]
        exact ⟨(H, x.1, i + 1, n - (i + 1)), rfl, ⟨⟨m2, lk', T2, qs2, l2, g2, hl2, hX.right⟩, hlt, rfl⟩, by dsimp only; omega, fun _ _ h => h⟩
      cases bz
      · refine askF rfl ⟨n2, f1 M3, z, false, hat, ?_⟩
        refine ⟨n3, f2 M3, index_can g2 M3.right.left.left, fun a4 h4 hp4 => ?_⟩
        obtain ⟨rfl, lk4, Tr4⟩ := hp4 x.1 T2 m2 lk3 qs2 n3 rfl g2 M3.right.left.left
        have M4 := onA M3 Tr4
        have hix := lidx_at (id := n3) hl2 hz2 M4.right.left.right
        obtain ⟨q, c, el⟩ := wG_sl hl2
        have hf : (Option.bind (cellsAt h4 r) fun (x : List AV) => partR none x 0) = some (AV.sl q T2.ids.length c) := by rw [← el]; exact fld (M4.right.left.right.row r _ List.mem_cons_self) rfl
        by_cases hm : n3 ∈ T2.ids
        · rw [idxZ_mem hm] at hix
          have e4 : idxR T2.ids n3 = (((T2.ids.idxOf n3 : Nat) : Int), true) := by unfold idxR; rw [if_pos hm]
          rw [e4]
          refine askT rfl ⟨n3, f2 M4, _, hix, askF (by simp) (askT (by simp) (askF ?_ ⟨_, rA_len g2 M4.right.left.left, q, _, c, hf, askF (by simp [hlen2]) (next M4)⟩))⟩
          simp only [if_true]
          split <;> simp <;> omega
        · rw [idxZ_not hm] at hix
          have e4 : idxR T2.ids n3 = (0, false) := by unfold idxR; rw [if_neg hm]
          rw [e4]
          exact askF rfl ⟨n3, f2 M4, _, hix, askF (by simp) (askF (by decide) (askF (by decide) ⟨_, rA_len g2 M4.right.left.left, q, _, c, hf, askF (by simp [hlen2]) (next M4)⟩))⟩
      · refine askT rfl ⟨n2, f1 M3, z, true, hat, ?_⟩
        refine ⟨n3, f2 M3, index_can g2 M3.right.left.left, fun a4 h4 hp4 => ?_⟩
        obtain ⟨rfl, lk4, Tr4⟩ := hp4 x.1 T2 m2 lk3 qs2 n3 rfl g2 M3.right.left.left
        have M4 := onA M3 Tr4
        have hix := lidx_at (id := n3) hl2 hz2 M4.right.left.right
        obtain ⟨q, c, el⟩ := wG_sl hl2
        have hf : (Option.bind (cellsAt h4 r) fun (x : List AV) => partR none x 0) = some (AV.sl q T2.ids.length c) := by rw [← el]; exact fld (M4.right.left.right.row r _ List.mem_cons_self) rfl
        by_cases hm : n3 ∈ T2.ids
        · rw [idxZ_mem hm] at hix
          have e4 : idxR T2.ids n3 = (((T2.ids.idxOf n3 : Nat) : Int), true) := by unfold idxR; rw [if_pos hm]
          rw [e4]
          refine askT rfl ⟨n3, f2 M4, _, hix, askF (by simp) (askT (by simp) (askF ?_ ⟨_, rA_len g2 M4.right.left.left, q, _, c, hf, askF (by simp [hlen2]) (next M4)⟩))⟩
          simp only [if_true]
          split <;> simp <;> omega
        · rw [idxZ_not hm] at hix
          have e4 : idxR T2.ids n3 = (0, false) := by unfold idxR; rw [if_neg hm]
          rw [e4]
          exact askF rfl ⟨n3, f2 M4, _, hix, askF (by simp) (askF (by decide) (askF (by decide) ⟨_, rA_len g2 M4.right.left.left, q, _, c, hf, askF (by simp [hlen2]) (next M4)⟩))⟩
  · exact ⟨rfl, h, t, rfl, m, lk, T, qs, l, g, hl, by rw [List.append_nil]; exact hM.left⟩
theorem loop5n {t r b : Nat} {H : AHeap} (hs : J5 [] H t r) : W Try.prog (B5 b).S b (.inl (.loop p5_l0)) (e5 (.sl none 0 (.fix 0)) 0 t r 0, H) fun e st => e = .exit 0 ∧ ∃ H t, st = (x5 t r, H) ∧ J5 [] H t r := by
  refine W_loop (W_postW (C := B5 b) (tn := n5) (tx := y5) ((wpP_ok (C := B5 b) (CU_cw (ks := []) tabs5) 80).1 p5_l0 _ _ (no_parts rfl) ?_))
  rw [← law5_loopn]
  exact ⟨rfl, H, t, rfl, hs⟩
theorem parts5 : partsIn p5.body = [.loop p5_l0] := rfl
theorem sem5 {h : AHeap} {q : Option (Nat × Nat)} {n : Nat} {cc : ACap} (hn : n ≤ 9223372036854775807)
    (hx : (q = none ∧ n = 0 ∧ cc = .fix 0 ∧ h = []) ∨ ∃ cs, q = some (0, 0) ∧ h = [.ro cs] ∧ Ops3 cs n) : ∃ v h', v = AV.bool true ∧ CallSem Try.prog 5 [.sl q n cc] h v h' := by
  refine sem_vc mixed (C := C5 (.sl q n cc) n (fun H t r => (q = none ∧ n = 0 ∧ cc = .fix 0 ∧ J5 [] H t r) ∨ ∃ cs, q = some (0, 0) ∧ Ops3 cs n ∧ J5 [(0, .ro cs)] H t r) (J5 [])) (SU_ok tabs5) (CU_q (ks := [])) (CU_cw (ks := []) tabs5) ht5 c5 ?_ (law5_vc h q n cc _ _ _) ?_
  · refine one_part parts5 (part_loop (id := 5) rfl rfl fun st K hT => ?_)
    obtain ⟨H, t, r, rfl, hX, hk⟩ := hT
    rcases hX with ⟨rfl, rfl, rfl, hX⟩ | ⟨cs, rfl, hcs, hX⟩
    · refine W_mono (loop5n hX) fun e st hq => ?_
      obtain ⟨rfl, H', t', rfl, hY⟩ := hq
      exact hk H' t' hY
    · refine W_mono (loop5 hcs hn (H, t, 0, n) ⟨hX, Nat.zero_le _, by simp⟩) fun e st hq => ?_
      obtain ⟨rfl, H', t', rfl, hY⟩ := hq
      exact hk H' t' hY
  · have hT0 : ∀ F, Maps h F → J5 F (h ++ [AObj.row 50 1 [.sl none 0 (.fix 0)], AObj.map [], AObj.row 58 3 [AV.ptr none, AV.map (some (h.length + 1)), AV.int .i64 0]]) (h.length + 2) h.length := fun F hF => by
      have N0 := new_tr hF (AObj.row 50 1 [.sl none 0 (.fix 0)])
      have N1 := new_tr N0.b (AObj.map [])
      rw [len_b1, List.append_assoc] at N1
      have N2 := new_tr N1.b (trow none (h.length + 1) 0)
      rw [List.length_append, List.append_assoc, show ([AObj.row 50 1 [AV.sl none 0 (ACap.fix 0)]] ++ [AObj.map []]).length = 2 from rfl] at N2
      exact ⟨h.length + 1, 0, .nil, [], .sl none 0 (.fix 0), good_nil, .inl ⟨rfl, rfl⟩, N2.b.perm (perm_of fun a => by simp only [rB, rR, rA, rW, rC, rT, pt_nil, List.map_nil, cnt_cons, cnt_append, cnt_nil]; omega)⟩
    simp only [repl1, repl2, repl3, List.append_assoc, List.cons_append, List.nil_append, List.append_nil, len_b1, Nat.add_zero, hs0, hs1, hs2, hs3, hg0, hg1, hg2, hg3, ho0, ho1, ho2, ho3, chkW_true, bs1, ints_app, ints_one, ints_len]
    refine ⟨rfl, rfl, _, _, h.length, rfl, ?_, fun H' t' hY => ?_⟩
    · rcases hx with ⟨rfl, rfl, rfl, rfl⟩ | ⟨cs, rfl, rfl, hcs⟩
      · exact .inl ⟨rfl, rfl, rfl, hT0 [] ⟨List.nodup_nil, fun k o ho => by cases ho⟩⟩
      · exact .inr ⟨cs, rfl, hcs, hT0 [(0, .ro cs)] ⟨by simp [keys], fun k o ho => by
          simp only [List.mem_singleton, Prod.mk.injEq] at ho
          obtain ⟨rfl, rfl⟩ := ho
          rfl⟩⟩
    · obtain ⟨m, lk, T, qs, l, g, hl, hM⟩ := hY
      rw [List.append_nil] at hM
      have gn := g.n
      have hlen := TT.n_ids T
      have hr := hM.right.row h.length _ List.mem_cons_self
      have hids := ids_at g hM.left
      have hs : SlI H' l T.ids := by
        rcases hl with ⟨rfl, hz⟩ | ⟨_, k, rfl⟩
        · exact .inl ⟨rfl, hz⟩
        · exact .inr ⟨k, rfl, hM.right.row k _ (List.mem_cons_of_mem _ List.mem_cons_self)⟩
      obtain ⟨q, c, rfl⟩ := wG_sl hl
      refine ⟨q, _, c, fld hr rfl, all_can hids, fun a h2 hp => ?_⟩
      obtain ⟨ha, hg, -⟩ := hp _ _ rfl hids
      have e1 : loadZ h2 none (.ptr (some (h.length, 0))) = some (AV.sl q T.ids.length c) := fld (hg _ _ hr) rfl
      have e2 : loadZ H' none (.ptr (some (h.length, 0))) = some (AV.sl q T.ids.length c) := fld hr rfl
      refine ⟨e1.trans e2.symm, told_can ha (hs.mono fun j o _ ho => hg j o ho) (by omega), fun b h3 hp2 => ?_⟩
      obtain ⟨rfl, hg2⟩ := hp2 a _ _ _ rfl ha (hs.mono fun j o _ ho => hg j o ho)
      exact askT (by simp) trivial

end Go.Proofs.Ytncmgbbbekabdaa
