/- Written by merging: Tw Tx Ty Tz Ua. -/
import Derived.Test.YtncmgbbbekabdaaMh
namespace Go.Proofs.Ytncmgbbbekabdaa
open Go Go.Am Go.RowKit
set_option maxRecDepth 100000
set_option linter.unusedVariables false
set_option linter.unusedSimpArgs false

def P35n (vs : List AV) (h : AHeap) (u : Unit) (h' : AHeap) : Prop := P35 vs h u h' ∧ ∀ t, vs = [.ptr (some (t, 0)), .ptr none] → h' = h
theorem mend_nil {h : AHeap} {t : Nat} : ComesTo Try.prog 35 V0 P35n [.ptr (some (t, 0)), .ptr none] h := by
  suffices hs : ∃ v h', (v = AV.tup [] ∧ h' = h) ∧ CallSem Try.prog 35 [.ptr (some (t, 0)), .ptr none] h v h' by
    obtain ⟨v, h', ⟨rfl, rfl⟩, hs⟩ := hs
    refine ⟨(), h', ⟨fun t' m lk ctx sz T e hn hb hM => ?_, fun _ _ => rfl⟩, hs⟩
    simp only [List.cons.injEq, AV.ptr.injEq, Option.some.injEq, Prod.mk.injEq, and_true] at e
    obtain ⟨rfl, ep⟩ := e
    have h2 : T = .nil := by cases T with | nil => rfl | node => cases ep
    subst h2
    have c1 : ctx = [] := hn.resolve_left (by simp [TT.pt])
    subst c1
    exact ⟨lk, Tr.refl hM⟩
  refine sem_of_W mixed (SU_ok tabsM) (CU_q (ks := [])) ht35 c35 ?_
  refine W_block (W_loop (W_postW (C := C35 h.length) (tn := n35) (tx := x35) ((wpP_ok (C := C35 h.length) (CU_cw (ks := []) tabsM) 40).1 p35_l0 _ _ (no_parts rfl) (by
    rw [show startP p35 [.ptr (some (t, 0)), .ptr none] h = (e35 t none, h) from rfl, ← mend_vcn]
    exact ⟨rfl, rfl⟩))))
theorem mend_can' {h : AHeap} {t m : Nat} {lk : Int} {ctx : List Fr} {sz : Int} {T : TT} (hn : T.pt ≠ none) (hb : T.n + ctxN ctx ≤ 800000) (hM : Maps h (rZ t m lk ctx sz T)) : ComesTo Try.prog 35 V0 P35n [.ptr (some (t, 0)), .ptr T.pt] h := by
  obtain ⟨u, h', hp, hs⟩ := mend_can (.inl hn) hb hM
  refine ⟨u, h', ⟨hp, fun t' e => ?_⟩, hs⟩
  simp only [List.cons.injEq, AV.ptr.injEq, and_true] at e
  exact absurd e.2 hn
/-- The first node of a tree: what is around it, its place, its id, what hangs at its right. -/
def minC : TT → List Fr → List Fr × Nat × Int × TT
  | .nil, c => (c, 0, 0, .nil)
  | .node k id .nil r, c => (c, k, id, r)
  | .node k id (.node lk lid ll lr) r, c => minC (.node lk lid ll lr) (⟨k, id, true, r, ((TT.node lk lid ll lr).n + r.n + 1 : Nat)⟩ :: c)
noncomputable def tC : List TbG := [TC Try.prog 36 V0 P36, TC Try.prog 35 V0 P35n]
theorem tabsC : TabsOK tbQ tC [] := by
  refine ⟨tabsQ.q, tabsQ.qq, fun x hx => ?_, fun x hx => ?_, fun _ h => (by cases h), rfl⟩
  · simp only [tC, List.mem_cons, List.not_mem_nil, or_false] at hx
    rcases hx with rfl | rfl
    · exact csem_full ht36 V0 P36
    · exact csem_full ht35 V0 P35n
  · simp only [tC, List.mem_cons, List.not_mem_nil, or_false] at hx
    rcases hx with rfl | rfl <;> exact TC_ok _ _ _ _
def e31 (t x n : Nat) : List AV := envOf 90 [(0, .ptr (some (t, 0))), (1, .ptr (some (x, 0))), (4, .ptr (some (n, 0)))]
def n31 : Tidy := ⟨dropT 90 [0, 1, 4], .all⟩
def T31 (t : Nat) (X Y : AHeap → Nat → Nat → Prop) (st : St) (K : AExit → St → Prop) : Prop := ∃ H x n, st = (e31 t x n, H) ∧ X H x n ∧ ∀ H' n', Y H' x n' → K (.exit 0) (e31 t x n', H')
def k31 : List (Nat × K1) := [(9, .ptr), (15, .ptr), (21, .ptrS), (25, .ptr), (37, .ptrS), (30, i64), (43, i64), (47, i64), (55, .mapS), (59, i64), (66, .ptr), (72, .ptrV), (76, i64), (88, .ptrV)]
noncomputable def C31 (t : Nat) (X Y : AHeap → Nat → Nat → Prop) : Cfg := { CT tbQ tC k31 with
  lw := fun id => if id = 2 then some (T31 t X Y) else none
  F := fun id => if id = 2 then n31 else ⟨[], .all⟩ }
noncomputable def B31 (b : Nat) : Cfg := { CT tbQ tC k31 with b0 := b }
theorem cut_vc (h : AHeap) (t x : Nat) (X Y : AHeap → Nat → Nat → Prop) (R : AV → AHeap → Prop) : (∃ (b : Bool), askB b (∃ (k : Nat), ∃ (o : Nat), (Option.bind (cellsAt h x) fun (x : List AV) => partR none x 3) = some (AV.ptr (some (k, o))) ∧ ∃ (b : Bool), askB b (∃ (k : Nat), ∃ (o : Nat), (Option.bind (cellsAt h x) fun (x : List AV) => partR none x 4) = some (AV.ptr (some (k, o))) ∧ ∃ (k : Nat), ∃ (o : Nat), (Option.bind (cellsAt h x) fun (x : List AV) => partR none x 4) = some (AV.ptr (some (k, o))) ∧ ∃ (H : AHeap), ∃ (x_1 : Nat), ∃ (n : Nat), (envOf 90 [(0, AV.ptr (some (t, 0))), (1, AV.ptr (some (x, 0))), (4, AV.ptr (some (k, o)))], h) = (envOf 90 [(0, AV.ptr (some (t, 0))), (1, AV.ptr (some (x_1, 0))), (4, AV.ptr (some (n, 0)))], H) ∧ X H x_1 n ∧ ∀ (H' : AHeap) (n' : Nat), Y H' x_1 n' → ∃ (n : Int), (Option.bind (cellsAt H' n') fun (x : List AV) => partR none x 0) = some (AV.int .i64 n) ∧ ∃ (n_1 : Int), (Option.bind (cellsAt H' x_1) fun (x : List AV) => partR none x 0) = some (AV.int .i64 n_1) ∧ ∃ (t_1 : TypeId), ∃ (s : Nat), ∃ (cs : List AV), H'[x_1]? = some (AObj.row t_1 s cs) ∧ chkW (decide (1 ≤ List.length cs)) (chkW (logOk [none, none, none, none, none, none, none, none, none, none, none, none, some (true, x_1, 0, 1), none, none, none] (true, n', 0, 1)) (∃ (t_2 : TypeId), ∃ (s_1 : Nat), ∃ (cs_1 : List AV), (List.set H' x_1 (AObj.row t_1 s (spliceA cs 0 (AV.cells (AV.int .i64 n)))))[n']? = some (AObj.row t_2 s_1 cs_1) ∧ chkW (decide (1 ≤ List.length cs_1)) (∃ (m : Nat), (Option.bind (cellsAt (List.set (List.set H' x_1 (AObj.row t_1 s (spliceA cs 0 (AV.cells (AV.int .i64 n))))) n' (AObj.row t_2 s_1 (spliceA cs_1 0 (AV.cells (AV.int .i64 n_1))))) t) fun (x : List AV) => partR none x 1) = some (AV.map (some m)) ∧ ∃ (n_2 : Int), (Option.bind (cellsAt (List.set (List.set H' x_1 (AObj.row t_1 s (spliceA cs 0 (AV.cells (AV.int .i64 n))))) n' (AObj.row t_2 s_1 (spliceA cs_1 0 (AV.cells (AV.int .i64 n_1))))) x_1) fun (x : List AV) => partR none x 0) = some (AV.int .i64 n_2) ∧ ∃ (es : List (AV × AV)), ∃ (es' : List (AV × AV)), (List.set (List.set H' x_1 (AObj.row t_1 s (spliceA cs 0 (AV.cells (AV.int .i64 n))))) n' (AObj.row t_2 s_1 (spliceA cs_1 0 (AV.cells (AV.int .i64 n_1)))))[m]? = some (AObj.map es) ∧ putA (AV.int .i64 n_2) (AV.agg [AV.ptr (some (x_1, 0))]) es = some es' ∧ ∃ (b : Bool), askB b (∃ (k : Nat), ∃ (o : Nat), (Option.bind (cellsAt (List.set (List.set (List.set H' x_1 (AObj.row t_1 s (spliceA cs 0 (AV.cells (AV.int .i64 n))))) n' (AObj.row t_2 s_1 (spliceA cs_1 0 (AV.cells (AV.int .i64 n_1))))) m (AObj.map es')) n') fun (x : List AV) => partR none x 3) = some (AV.ptr (some (k, o))) ∧ ∃ (n_3 : Int), (Option.bind (cellsAt (List.set (List.set (List.set H' x_1 (AObj.row t_1 s (spliceA cs 0 (AV.cells (AV.int .i64 n))))) n' (AObj.row t_2 s_1 (spliceA cs_1 0 (AV.cells (AV.int .i64 n_1))))) m (AObj.map es')) t) fun (x : List AV) => partR none x 2) = some (AV.int .i64 n_3) ∧ ∃ (t_3 : TypeId), ∃ (s_2 : Nat), ∃ (cs_2 : List AV), (List.set (List.set (List.set H' x_1 (AObj.row t_1 s (spliceA cs 0 (AV.cells (AV.int .i64 n))))) n' (AObj.row t_2 s_1 (spliceA cs_1 0 (AV.cells (AV.int .i64 n_1))))) m (AObj.map es'))[t]? = some (AObj.row t_3 s_2 cs_2) ∧ chkW (decide (3 ≤ List.length cs_2)) (ComesTo Try.prog 36 V0 P36 ([] ++ List.reverse [AV.ptr (some (k, o)), AV.ptr (some (n', 0)), AV.ptr (some (t, 0))] ++ []) (List.set (List.set (List.set (List.set H' x_1 (AObj.row t_1 s (spliceA cs 0 (AV.cells (AV.int .i64 n))))) n' (AObj.row t_2 s_1 (spliceA cs_1 0 (AV.cells (AV.int .i64 n_1))))) m (AObj.map es')) t (AObj.row t_3 s_2 (spliceA cs_2 2 (AV.cells (AV.int .i64 (IntKind.wrap .i64 (n_3 + 1))))))) ∧ ∀ (a : Unit) (h' : AHeap), P36 [AV.ptr (some (t, 0)), AV.ptr (some (n', 0)), AV.ptr (some (k, o))] (List.set (List.set (List.set (List.set H' x_1 (AObj.row t_1 s (spliceA cs 0 (AV.cells (AV.int .i64 n))))) n' (AObj.row t_2 s_1 (spliceA cs_1 0 (AV.cells (AV.int .i64 n_1))))) m (AObj.map es')) t (AObj.row t_3 s_2 (spliceA cs_2 2 (AV.cells (AV.int .i64 (IntKind.wrap .i64 (n_3 + 1))))))) a h' → ∃ (p : Option (Nat × Nat)), (Option.bind (cellsAt h' n') fun (x : List AV) => partR none x 2) = some (AV.ptr p) ∧ ComesTo Try.prog 35 V0 P35n ([] ++ List.reverse [AV.ptr p, AV.ptr (some (t, 0))] ++ []) h' ∧ ∀ (a : Unit) (h'_1 : AHeap), P35n [AV.ptr (some (t, 0)), AV.ptr p] h' a h'_1 → R (AV.tup []) h'_1)) ((Option.bind (cellsAt (List.set (List.set (List.set H' x_1 (AObj.row t_1 s (spliceA cs 0 (AV.cells (AV.int .i64 n))))) n' (AObj.row t_2 s_1 (spliceA cs_1 0 (AV.cells (AV.int .i64 n_1))))) m (AObj.map es')) n') fun (x : List AV) => partR none x 3) = some (AV.ptr none) ∧ ∃ (p : Option (Nat × Nat)), (Option.bind (cellsAt (List.set (List.set (List.set H' x_1 (AObj.row t_1 s (spliceA cs 0 (AV.cells (AV.int .i64 n))))) n' (AObj.row t_2 s_1 (spliceA cs_1 0 (AV.cells (AV.int .i64 n_1))))) m (AObj.map es')) n') fun (x : List AV) => partR none x 4) = some (AV.ptr p) ∧ ∃ (n_3 : Int), (Option.bind (cellsAt (List.set (List.set (List.set H' x_1 (AObj.row t_1 s (spliceA cs 0 (AV.cells (AV.int .i64 n))))) n' (AObj.row t_2 s_1 (spliceA cs_1 0 (AV.cells (AV.int .i64 n_1))))) m (AObj.map es')) t) fun (x : List AV) => partR none x 2) = some (AV.int .i64 n_3) ∧ ∃ (t_3 : TypeId), ∃ (s_2 : Nat), ∃ (cs_2 : List AV), (List.set (List.set (List.set H' x_1 (AObj.row t_1 s (spliceA cs 0 (AV.cells (AV.int .i64 n))))) n' (AObj.row t_2 s_1 (spliceA cs_1 0 (AV.cells (AV.int .i64 n_1))))) m (AObj.map es'))[t]? = some (AObj.row t_3 s_2 cs_2) ∧ chkW (decide (3 ≤ List.length cs_2)) (ComesTo Try.prog 36 V0 P36 ([] ++ List.reverse [AV.ptr p, AV.ptr (some (n', 0)), AV.ptr (some (t, 0))] ++ []) (List.set (List.set (List.set (List.set H' x_1 (AObj.row t_1 s (spliceA cs 0 (AV.cells (AV.int .i64 n))))) n' (AObj.row t_2 s_1 (spliceA cs_1 0 (AV.cells (AV.int .i64 n_1))))) m (AObj.map es')) t (AObj.row t_3 s_2 (spliceA cs_2 2 (AV.cells (AV.int .i64 (IntKind.wrap .i64 (n_3 + 1))))))) ∧ ∀ (a : Unit) (h' : AHeap), P36 [AV.ptr (some (t, 0)), AV.ptr (some (n', 0)), AV.ptr p] (List.set (List.set (List.set (List.set H' x_1 (AObj.row t_1 s (spliceA cs 0 (AV.cells (AV.int .i64 n))))) n' (AObj.row t_2 s_1 (spliceA cs_1 0 (AV.cells (AV.int .i64 n_1))))) m (AObj.map es')) t (AObj.row t_3 s_2 (spliceA cs_2 2 (AV.cells (AV.int .i64 (IntKind.wrap .i64 (n_3 + 1))))))) a h' → ∃ (p : Option (Nat × Nat)), (Option.bind (cellsAt h' n') fun (x : List AV) => partR none x 2) = some (AV.ptr p) ∧ ComesTo Try.prog 35 V0 P35n ([] ++ List.reverse [AV.ptr p, AV.ptr (some (t, 0))] ++ []) h' ∧ ∀ (a : Unit) (h'_1 : AHeap), P35n [AV.ptr (some (t, 0)), AV.ptr p] h' a h'_1 → R (AV.tup []) h'_1)))))) ((Option.bind (cellsAt h x) fun (x : List AV) => partR none x 4) = some (AV.ptr none) ∧ ∃ (b : Bool), askB b (∃ (k : Nat), ∃ (o : Nat), (Option.bind (cellsAt h x) fun (x : List AV) => partR none x 3) = some (AV.ptr (some (k, o))) ∧ ∃ (n : Int), (Option.bind (cellsAt h t) fun (x : List AV) => partR none x 2) = some (AV.int .i64 n) ∧ ∃ (t_1 : TypeId), ∃ (s : Nat), ∃ (cs : List AV), h[t]? = some (AObj.row t_1 s cs) ∧ chkW (decide (3 ≤ List.length cs)) (ComesTo Try.prog 36 V0 P36 ([] ++ List.reverse [AV.ptr (some (k, o)), AV.ptr (some (x, 0)), AV.ptr (some (t, 0))] ++ []) (List.set h t (AObj.row t_1 s (spliceA cs 2 (AV.cells (AV.int .i64 (IntKind.wrap .i64 (n + 1))))))) ∧ ∀ (a : Unit) (h' : AHeap), P36 [AV.ptr (some (t, 0)), AV.ptr (some (x, 0)), AV.ptr (some (k, o))] (List.set h t (AObj.row t_1 s (spliceA cs 2 (AV.cells (AV.int .i64 (IntKind.wrap .i64 (n + 1))))))) a h' → ∃ (p : Option (Nat × Nat)), (Option.bind (cellsAt h' x) fun (x : List AV) => partR none x 2) = some (AV.ptr p) ∧ ComesTo Try.prog 35 V0 P35n ([] ++ List.reverse [AV.ptr p, AV.ptr (some (t, 0))] ++ []) h' ∧ ∀ (a : Unit) (h'_1 : AHeap), P35n [AV.ptr (some (t, 0)), AV.ptr p] h' a h'_1 → R (AV.tup []) h'_1)) ((Option.bind (cellsAt h x) fun (x : List AV) => partR none x 3) = some (AV.ptr none) ∧ ∃ (p : Option (Nat × Nat)), (Option.bind (cellsAt h x) fun (x : List AV) => partR none x 4) = some (AV.ptr p) ∧ ∃ (n : Int), (Option.bind (cellsAt h t) fun (x : List AV) => partR none x 2) = some (AV.int .i64 n) ∧ ∃ (t_1 : TypeId), ∃ (s : Nat), ∃ (cs : List AV), h[t]? = some (AObj.row t_1 s cs) ∧ chkW (decide (3 ≤ List.length cs)) (ComesTo Try.prog 36 V0 P36 ([] ++ List.reverse [AV.ptr p, AV.ptr (some (x, 0)), AV.ptr (some (t, 0))] ++ []) (List.set h t (AObj.row t_1 s (spliceA cs 2 (AV.cells (AV.int .i64 (IntKind.wrap .i64 (n + 1))))))) ∧ ∀ (a : Unit) (h' : AHeap), P36 [AV.ptr (some (t, 0)), AV.ptr (some (x, 0)), AV.ptr p] (List.set h t (AObj.row t_1 s (spliceA cs 2 (AV.cells (AV.int .i64 (IntKind.wrap .i64 (n + 1))))))) a h' → ∃ (p : Option (Nat × Nat)), (Option.bind (cellsAt h' x) fun (x : List AV) => partR none x 2) = some (AV.ptr p) ∧ ComesTo Try.prog 35 V0 P35n ([] ++ List.reverse [AV.ptr p, AV.ptr (some (t, 0))] ++ []) h' ∧ ∀ (a : Unit) (h'_1 : AHeap), P35n [AV.ptr (some (t, 0)), AV.ptr p] h' a h'_1 → R (AV.tup []) h'_1)))) ((Option.bind (cellsAt h x) fun (x : List AV) => partR none x 3) = some (AV.ptr none) ∧ ∃ (b : Bool), askB b (∃ (k : Nat), ∃ (o : Nat), (Option.bind (cellsAt h x) fun (x : List AV) => partR none x 3) = some (AV.ptr (some (k, o))) ∧ ∃ (n : Int), (Option.bind (cellsAt h t) fun (x : List AV) => partR none x 2) = some (AV.int .i64 n) ∧ ∃ (t_1 : TypeId), ∃ (s : Nat), ∃ (cs : List AV), h[t]? = some (AObj.row t_1 s cs) ∧ chkW (decide (3 ≤ List.length cs)) (ComesTo Try.prog 36 V0 P36 ([] ++ List.reverse [AV.ptr (some (k, o)), AV.ptr (some (x, 0)), AV.ptr (some (t, 0))] ++ []) (List.set h t (AObj.row t_1 s (spliceA cs 2 (AV.cells (AV.int .i64 (IntKind.wrap .i64 (n + 1))))))) ∧ ∀ (a : Unit) (h' : AHeap), P36 [AV.ptr (some (t, 0)), AV.ptr (some (x, 0)), AV.ptr (some (k, o))] (List.set h t (AObj.row t_1 s (spliceA cs 2 (AV.cells (AV.int .i64 (IntKind.wrap .i64 (n + 1))))))) a h' → ∃ (p : Option (Nat × Nat)), (Option.bind (cellsAt h' x) fun (x : List AV) => partR none x 2) = some (AV.ptr p) ∧ ComesTo Try.prog 35 V0 P35n ([] ++ List.reverse [AV.ptr p, AV.ptr (some (t, 0))] ++ []) h' ∧ ∀ (a : Unit) (h'_1 : AHeap), P35n [AV.ptr (some (t, 0)), AV.ptr p] h' a h'_1 → R (AV.tup []) h'_1)) ((Option.bind (cellsAt h x) fun (x : List AV) => partR none x 3) = some (AV.ptr none) ∧ ∃ (p : Option (Nat × Nat)), (Option.bind (cellsAt h x) fun (x : List AV) => partR none x 4) = some (AV.ptr p) ∧ ∃ (n : Int), (Option.bind (cellsAt h t) fun (x : List AV) => partR none x 2) = some (AV.int .i64 n) ∧ ∃ (t_1 : TypeId), ∃ (s : Nat), ∃ (cs : List AV), h[t]? = some (AObj.row t_1 s cs) ∧ chkW (decide (3 ≤ List.length cs)) (ComesTo Try.prog 36 V0 P36 ([] ++ List.reverse [AV.ptr p, AV.ptr (some (x, 0)), AV.ptr (some (t, 0))] ++ []) (List.set h t (AObj.row t_1 s (spliceA cs 2 (AV.cells (AV.int .i64 (IntKind.wrap .i64 (n + 1))))))) ∧ ∀ (a : Unit) (h' : AHeap), P36 [AV.ptr (some (t, 0)), AV.ptr (some (x, 0)), AV.ptr p] (List.set h t (AObj.row t_1 s (spliceA cs 2 (AV.cells (AV.int .i64 (IntKind.wrap .i64 (n + 1))))))) a h' → ∃ (p : Option (Nat × Nat)), (Option.bind (cellsAt h' x) fun (x : List AV) => partR none x 2) = some (AV.ptr p) ∧ ComesTo Try.prog 35 V0 P35n ([] ++ List.reverse [AV.ptr p, AV.ptr (some (t, 0))] ++ []) h' ∧ ∀ (a : Unit) (h'_1 : AHeap), P35n [AV.ptr (some (t, 0)), AV.ptr p] h' a h'_1 → R (AV.tup []) h'_1)))) = (wpF Try.prog (C31 t X Y) 60 p31 [(.ptr (some (t, 0))), (.ptr (some (x, 0)))] h R) := by kernel_rfl
theorem cut_body (h : AHeap) (t x n b : Nat) (K : AExit → St → Prop) : (∃ (b : Bool), askB b (∃ (k : Nat), ∃ (o : Nat), (Option.bind (cellsAt h n) fun (x : List AV) => partR none x 3) = some (AV.ptr (some (k, o))) ∧ ∃ (n_1 : Int), (Option.bind (cellsAt h t) fun (x : List AV) => partR none x 2) = some (AV.int .i64 n_1) ∧ ∃ (t_1 : TypeId), ∃ (s : Nat), ∃ (cs : List AV), h[t]? = some (AObj.row t_1 s cs) ∧ chkW (decide (3 ≤ List.length cs)) (∃ (k : Nat), ∃ (o : Nat), (Option.bind (cellsAt (List.set h t (AObj.row t_1 s (spliceA cs 2 (AV.cells (AV.int .i64 (IntKind.wrap .i64 (n_1 + 1))))))) n) fun (x : List AV) => partR none x 3) = some (AV.ptr (some (k, o))) ∧ K AExit.normal (envOf 90 [(0, AV.ptr (some (t, 0))), (1, AV.ptr (some (x, 0))), (4, AV.ptr (some (k, o)))], List.set h t (AObj.row t_1 s (spliceA cs 2 (AV.cells (AV.int .i64 (IntKind.wrap .i64 (n_1 + 1))))))))) ((Option.bind (cellsAt h n) fun (x : List AV) => partR none x 3) = some (AV.ptr none) ∧ K (AExit.exit 0) (envOf 90 [(0, AV.ptr (some (t, 0))), (1, AV.ptr (some (x, 0))), (4, AV.ptr (some (n, 0)))], h))) = (wpP Try.prog (B31 b) 40 (.inl p31_l0) (e31 t x n, h) (postW (B31 b) n31 n31 K)) := by kernel_rfl
theorem Tr.drop {h h' : AHeap} {L A B : Rws} (ht : Tr h h' L (A ++ B)) : Tr h h' L B :=
  ⟨ht.a, ht.b.right, fun j hj => ht.c j (by rw [keys_append]; exact List.mem_append_right _ hj), ht.d, ht.e⟩
def TailV (h : AHeap) (t x : Nat) (p : Pt) (R : AV → AHeap → Prop) : Prop :=
  ∃ (n : Int), (Option.bind (cellsAt h t) fun (x : List AV) => partR none x 2) = some (AV.int .i64 n) ∧ ∃ (t_1 : TypeId), ∃ (s : Nat), ∃ (cs : List AV), h[t]? = some (AObj.row t_1 s cs) ∧ chkW (decide (3 ≤ List.length cs)) (ComesTo Try.prog 36 V0 P36 [AV.ptr (some (t, 0)), AV.ptr (some (x, 0)), AV.ptr p] (List.set h t (AObj.row t_1 s (spliceA cs 2 (AV.cells (AV.int .i64 (IntKind.wrap .i64 (n + 1))))))) ∧ ∀ (a : Unit) (h' : AHeap), P36 [AV.ptr (some (t, 0)), AV.ptr (some (x, 0)), AV.ptr p] (List.set h t (AObj.row t_1 s (spliceA cs 2 (AV.cells (AV.int .i64 (IntKind.wrap .i64 (n + 1))))))) a h' → ∃ (p : Option (Nat × Nat)), (Option.bind (cellsAt h' x) fun (x : List AV) => partR none x 2) = some (AV.ptr p) ∧ ComesTo Try.prog 35 V0 P35n [AV.ptr (some (t, 0)), AV.ptr p] h' ∧ ∀ (a : Unit) (h'_1 : AHeap), P35n [AV.ptr (some (t, 0)), AV.ptr p] h' a h'_1 → R (AV.tup []) h'_1)
theorem cut_tail {h : AHeap} {t m : Nat} {lk : Int} {ctx : List Fr} {x : Nat} {id sz : Int} {lp rp : Pt} {kid : TT} {F : Rws} {R : AV → AHeap → Prop} (hb : kid.n + ctxN ctx ≤ 700000)
    (hM : Maps h (((x, nd id sz (upC ctx) lp rp) :: (rC t m lk (some (x, 0)) ctx ++ rT (some (x, 0)) kid)) ++ F))
    (hR : ∀ h' lk', Tr h h' (((x, nd id sz (upC ctx) lp rp) :: (rC t m lk (some (x, 0)) ctx ++ rT (some (x, 0)) kid)) ++ F) (rW t m lk' (upF ctx kid) ++ F) → R (.tup []) h') : TailV h t x kid.pt R := by
  have hM0 : Maps h (rC t m lk (some (x, 0)) ctx ++ ((x, nd id sz (upC ctx) lp rp) :: (rT (some (x, 0)) kid ++ F))) := hM.perm (perm_of fun a => by simp only [cnt_cons, cnt_append, cnt_nil, pt_nil, rT, rTs, rC, rZ, pt_node, Fr.row, upC_cons, upC_nil, TT.n, Bool.false_eq_true, if_false, if_true]; omega)
  obtain ⟨p0, ht, hl⟩ := look_tr hM0
  have T1 := hl (IntKind.wrap .i64 (lk + 1))
  have M1 : Maps _ (((x, nd id sz (upC ctx) lp rp) :: (rC t m (IntKind.wrap .i64 (lk + 1)) (some (x, 0)) ctx ++ rT (some (x, 0)) kid)) ++ F) := T1.b.perm (perm_of fun a => by simp only [cnt_cons, cnt_append, cnt_nil, pt_nil, rT, rTs, rC, rZ, pt_node, Fr.row, upC_cons, upC_nil, TT.n, Bool.false_eq_true, if_false, if_true]; omega)
  refine ⟨lk, fld ht rfl, 58, 3, _, ht, chkI rfl ⟨repl_can M1.left, fun _ h2 hp => ?_⟩⟩
  have T2 := (hp t m _ ctx x id sz lp rp kid (some (x, 0)) rfl M1.left).frame M1
  have rx := T2.b.row x _ List.mem_cons_self
  have TT2 := (T1.perm (M := ((x, nd id sz (upC ctx) lp rp) :: (rC t m lk (some (x, 0)) ctx ++ rT (some (x, 0)) kid)) ++ F) (perm_of fun a => by simp only [cnt_cons, cnt_append, cnt_nil, pt_nil, rT, rTs, rC, rZ, pt_node, Fr.row, upC_cons, upC_nil, TT.n, Bool.false_eq_true, if_false, if_true]; omega) (perm_of fun a => by simp only [cnt_cons, cnt_append, cnt_nil, pt_nil, rT, rTs, rC, rZ, pt_node, Fr.row, upC_cons, upC_nil, TT.n, Bool.false_eq_true, if_false, if_true]; omega)).trans T2
  refine ⟨upC ctx, fld rx rfl, ?_⟩
  cases ctx with
  | nil =>
    refine ⟨mend_nil, fun _ h3 hq => ?_⟩
    have e := hq.2 t rfl
    subst e
    exact hR _ (IntKind.wrap .i64 (lk + 1)) ((TT2.perm (.refl _) (M' := [(x, nd id sz (upC []) lp rp)] ++ (rW t m (IntKind.wrap .i64 (lk + 1)) kid ++ F)) (by unfold rW; exact (perm_of fun a => by simp only [cnt_cons, cnt_append, cnt_nil, pt_nil, rT, rTs, rC, rZ, pt_node, Fr.row, upC_cons, upC_nil, TT.n, Bool.false_eq_true, if_false, if_true]; omega))).drop)
  | cons f fs =>
    have T3 := (TT2.perm (.refl _) (M' := [(x, nd id sz (upC (f :: fs)) lp rp)] ++ ((rC t m (IntKind.wrap .i64 (lk + 1)) kid.pt (f :: fs) ++ rT (some (f.k, 0)) kid) ++ F)) (perm_of fun a => by simp only [cnt_cons, cnt_append, cnt_nil, upC_cons]; omega)).drop
    have T4 := T3.perm (.refl _) (rZ_up.append_right F)
    have hfp : (f.fill kid).pt = some (f.k, 0) := fill_some _ _
    have hfb : (f.fill kid).n + ctxN fs ≤ 800000 := by
      rw [fill_n]; simp only [ctxN] at hb; omega
    have hcan := mend_can' (T := f.fill kid) (by rw [hfp]; simp) hfb T4.b.left
    rw [hfp] at hcan
    refine ⟨hcan, fun _ h3 hq => ?_⟩
    obtain ⟨lk3, T5⟩ := hq.1 t m _ fs f.sz (f.fill kid) (by rw [hfp]; rfl) (.inl (by rw [hfp]; simp)) hfb T4.b.left
    exact hR _ lk3 (T4.trans (T5.frame T4.b))
/-- A node above the place, its id another. -/
theorem rC_mid (t m : Nat) (lk : Int) (fx : Fr) (ctx : List Fr) : ∀ (path : List Fr) (p : Pt), ∃ p' R', ∀ id', (rC t m lk p (path ++ { fx with id := id' } :: ctx)).Perm ((fx.k, { fx with id := id' }.row (upC ctx) p') :: R')
  | [], p => ⟨p, rT (some (fx.k, 0)) fx.sib ++ rC t m lk (some (fx.k, 0)) ctx, fun id' => .refl _⟩
  | f :: path, p => by
    obtain ⟨p', R', h⟩ := rC_mid t m lk fx ctx path (some (f.k, 0))
    have hu : ∀ id', upC (path ++ { fx with id := id' } :: ctx) = upC (path ++ fx :: ctx) := fun id' => by cases path <;> rfl
    refine ⟨p', (f.k, f.row (upC (path ++ fx :: ctx)) p) :: (rT (some (f.k, 0)) f.sib ++ R'), fun id' => ?_⟩
    have h1 := h id'
    refine perm_of fun a => ?_
    have h2 := cnt_perm h1 a
    simp only [List.cons_append, cnt_cons, cnt_append, rC, hu id'] at h2 ⊢
    omega
open Classical in
noncomputable def on2 {α : Type} (a x : α) : Nat := if x = a then 1 else 0
noncomputable def ct2 {α : Type} (a : α) : List α → Nat
  | [] => 0
  | x :: l => on2 a x + ct2 a l
theorem ct2_nil {α : Type} (a : α) : ct2 a [] = 0 := rfl
theorem ct2_cons {α : Type} (a x : α) (l : List α) : ct2 a (x :: l) = on2 a x + ct2 a l := rfl
theorem ct2_append {α : Type} (a : α) : ∀ l r : List α, ct2 a (l ++ r) = ct2 a l + ct2 a r
  | [], r => by simp [ct2]
  | x :: l, r => by rw [List.cons_append, ct2_cons, ct2_cons, ct2_append a l r, Nat.add_assoc]
theorem ct2_mem {α : Type} {a : α} : ∀ {l : List α}, 0 < ct2 a l → a ∈ l
  | [], h => by simp [ct2] at h
  | x :: l, h => by
    rw [ct2_cons] at h
    by_cases hx : x = a
    · subst hx; exact List.mem_cons_self
    · have : on2 a x = 0 := by unfold on2; rw [if_neg hx]
      exact List.mem_cons_of_mem _ (ct2_mem (by omega))
theorem ct2_perm {α : Type} {l l' : List α} (h : l.Perm l') (a : α) : ct2 a l = ct2 a l' := by
  induction h with
  | nil => rfl
  | cons x _ ih => rw [ct2_cons, ct2_cons, ih]
  | swap x y l => simp only [ct2_cons]; omega
  | trans _ _ i1 i2 => exact i1.trans i2
theorem perm2_of {α : Type} : ∀ {l l' : List α}, (∀ a, ct2 a l = ct2 a l') → l.Perm l'
  | [], [], _ => .refl _
  | [], x :: l', h => by
    have := h x
    rw [ct2_nil, ct2_cons] at this
    have : on2 x x = 1 := by unfold on2; rw [if_pos rfl]
    omega
  | x :: l, l', h => by
    have h1 := h x
    rw [ct2_cons] at h1
    have h2 : on2 x x = 1 := by unfold on2; rw [if_pos rfl]
    have hm : x ∈ l' := ct2_mem (by omega)
    obtain ⟨a, b, rfl⟩ := List.append_of_mem hm
    refine (List.Perm.cons x (perm2_of (l' := a ++ b) fun y => ?_)).trans List.perm_middle.symm
    have h3 := h y
    rw [ct2_cons, ct2_append, ct2_cons] at h3
    rw [ct2_append]
    omega
theorem minC_spec : ∀ T : TT, T.pt ≠ none → ∃ path nk nid nr q, (∀ c, minC T c = (path ++ c, nk, nid, nr)) ∧ T.pairs = (nk, nid) :: (nr.pairs ++ q) ∧ (∀ c, pL (path ++ c) = pL c ∧ pR (path ++ c) = q ++ pR c ∧ nr.n + 1 + ctxN (path ++ c) = T.n + ctxN c)
  | .nil, h => absurd rfl h
  | .node k id .nil r, _ => ⟨[], k, id, r, [], fun c => rfl, by simp [TT.pairs], fun c => ⟨rfl, rfl, by simp [TT.n]⟩⟩
  | .node k id (.node lk lid ll lr) r, _ => by
    obtain ⟨path, nk, nid, nr, q, h1, h2, h3⟩ := minC_spec (.node lk lid ll lr) (by simp [TT.pt])
    refine ⟨path ++ [⟨k, id, true, r, ((TT.node lk lid ll lr).n + r.n + 1 : Nat)⟩], nk, nid, nr, q ++ (k, id) :: r.pairs, fun c => ?_, ?_, fun c => ?_⟩
    · rw [minC, h1]; simp
    · rw [TT.pairs, h2]; simp
    · obtain ⟨g1, g2, g3⟩ := h3 (⟨k, id, true, r, ((TT.node lk lid ll lr).n + r.n + 1 : Nat)⟩ :: c)
      rw [List.append_assoc, List.singleton_append]
      refine ⟨by rw [g1]; simp [pL], by rw [g2]; simp [pR], ?_⟩
      rw [g3]
      simp only [ctxN, TT.n]
      omega
def Y31 (t m : Nat) (L : Int → Rws) (F : Rws) (h0 : AHeap) (L0 : Rws) (M0 : List Fr × Nat × Int × TT) (H : AHeap) (n : Nat) : Prop :=
  ∃ lk c nid r', M0 = (c, n, nid, r') ∧ (L lk).Perm (rC t m lk (some (n, 0)) c ++ (rT (upC c) (.node n nid .nil r') ++ F)) ∧ Tr h0 H L0 (L lk)
def J31 (t m : Nat) (L : Int → Rws) (F : Rws) (h0 : AHeap) (L0 : Rws) (M0 : List Fr × Nat × Int × TT) (s : AHeap × Nat × Nat) : Prop :=
  ∃ lk c nid l' r', minC (.node s.2.1 nid l' r') c = M0 ∧ s.2.2 = l'.n ∧ (∀ lk, (L lk).Perm (rC t m lk (some (s.2.1, 0)) c ++ (rT (upC c) (.node s.2.1 nid l' r') ++ F))) ∧ Tr h0 s.1 L0 (L lk)
theorem cut_loop {t x m : Nat} {L : Int → Rws} {F : Rws} {h0 : AHeap} {L0 : Rws} {M0 : List Fr × Nat × Int × TT} {b : Nat} (s : AHeap × Nat × Nat) (hs : J31 t m L F h0 L0 M0 s) :
    W Try.prog (B31 b).S b (.inl (.loop p31_l0)) (e31 t x s.2.1, s.1) fun e st => e = .exit 0 ∧ ∃ H n, st = (e31 t x n, H) ∧ Y31 t m L F h0 L0 M0 H n := by
  refine W_rounds (C := B31 b) (CU_cw (ks := []) tabsC) (a := p31_l0) (no_parts rfl) (fun s : AHeap × Nat × Nat => (e31 t x s.2.1, s.1)) (J31 t m L F h0 L0 M0) (fun s => s.2.2) (fun _ e st => e = .exit 0 ∧ ∃ H n, st = (e31 t x n, H) ∧ Y31 t m L F h0 L0 M0 H n) n31 n31 ?_ s hs
  rintro ⟨h, n, mm⟩ ⟨lk, c, nid, l', r', hC, rfl, hp, hT⟩
  refine ⟨40, ?_⟩
  dsimp only at hp hT hC ⊢
  rw [← cut_body]
  have M := hT.b.perm (hp lk)
  have rN := M.row n _ (List.mem_append_right _ (List.mem_append_left _ List.mem_cons_self))
  cases l' with
  | nil => exact ⟨false, fld rN rfl, rfl, h, n, rfl, lk, c, nid, r', hC.symm, hp lk, hT⟩
  | node ak aid al ar =>
    obtain ⟨p0, ht, hl⟩ := look_tr M
    have T1 := hl (IntKind.wrap .i64 (lk + 1))
    have TT1 := hT.trans (T1.perm (hp lk).symm (hp _).symm)
    have rN1 := T1.b.row n _ (List.mem_append_right _ (List.mem_append_left _ List.mem_cons_self))
    refine ⟨true, ak, 0, fld rN rfl, lk, fld ht rfl, 58, 3, _, ht, chkI rfl ⟨ak, 0, fld rN1 rfl, ⟨(_, ak, al.n), rfl, ⟨_, _, aid, al, ar, hC, rfl, fun lk => (hp lk).trans (perm_of fun a => by simp only [cnt_cons, cnt_append, cnt_nil, pt_nil, rT, rTs, rC, rZ, pt_node, Fr.row, upC_cons, upC_nil, TT.n, Bool.false_eq_true, if_false, if_true]; omega), TT1⟩, ?_, fun _ _ h => h⟩⟩⟩
    show al.n < (TT.node ak aid al ar).n
    simp only [TT.n]; omega
def P31 (vs : List AV) (h : AHeap) (_ : Unit) (h' : AHeap) : Prop := ∀ t m lk ctx sz k id l r (qs : List (Nat × Int)), vs = [.ptr (some (t, 0)), .ptr (some (k, 0))] → l.n + r.n + ctxN ctx ≤ 600000 → Maps h (rZ t m lk ctx sz (.node k id l r) ++ [(m, .map (qs.map ent))]) →
  qs.Perm (pL ctx ++ (l.pairs ++ (k, id) :: r.pairs) ++ pR ctx) → (qs.map (·.2)).Nodup →
  ∃ (T' : TT) (lk' : Int) (qs' : List (Nat × Int)), T'.ids = (pL ctx ++ (l.pairs ++ r.pairs) ++ pR ctx).map (·.2) ∧ qs'.Perm ((k, id) :: T'.pairs) ∧ Tr h h' (rZ t m lk ctx sz (.node k id l r) ++ [(m, .map (qs.map ent))]) (rW t m lk' T' ++ [(m, .map (qs'.map ent))])
theorem log31 {a b : Nat} (h : a ≠ b) : logOk [none, none, none, none, none, none, none, none, none, none, none, none, some (true, a, 0, 1), none, none, none] (true, b, 0, 1) = true := by
  simp [logOk, clash, h, Ne.symm h]
theorem cut_can {h : AHeap} {t m : Nat} {lk : Int} {ctx : List Fr} {sz : Int} {k : Nat} {id : Int} {l r : TT} {qs : List (Nat × Int)} (hb : l.n + r.n + ctxN ctx ≤ 600000) (hM : Maps h (rZ t m lk ctx sz (.node k id l r) ++ [(m, .map (qs.map ent))]))
    (hq : qs.Perm (pL ctx ++ (l.pairs ++ (k, id) :: r.pairs) ++ pR ctx)) (hnd : (qs.map (·.2)).Nodup) : ComesTo Try.prog 31 V0 P31 [.ptr (some (t, 0)), .ptr (some (k, 0))] h := by
  suffices hs : ∃ v h', (v = AV.tup [] ∧ ∃ (T' : TT) (lk' : Int) (qs' : List (Nat × Int)), T'.ids = (pL ctx ++ (l.pairs ++ r.pairs) ++ pR ctx).map (·.2) ∧ qs'.Perm ((k, id) :: T'.pairs) ∧ Tr h h' (rZ t m lk ctx sz (.node k id l r) ++ [(m, .map (qs.map ent))]) (rW t m lk' T' ++ [(m, .map (qs'.map ent))])) ∧ CallSem Try.prog 31 [.ptr (some (t, 0)), .ptr (some (k, 0))] h v h' by
    obtain ⟨v, h', ⟨rfl, ht⟩, hs⟩ := hs
    refine ⟨(), h', fun t' m' lk' ctx' sz' k' id' l' r' qs' e hb' hM' hq' hnd' => ?_, hs⟩
    simp only [List.cons.injEq, AV.ptr.injEq, Option.some.injEq, Prod.mk.injEq, and_true] at e
    obtain ⟨rfl, rfl⟩ := e
    obtain ⟨rfl, rfl, rfl, rfl, e⟩ := zip_one hM.left hM'.left rfl (by simp [TT.pt])
    simp only [TT.node.injEq, true_and] at e
    obtain ⟨rfl, rfl, rfl⟩ := e
    have g1 := hM.row m _ (List.mem_append_right _ List.mem_cons_self)
    have g2 := hM'.row m _ (List.mem_append_right _ List.mem_cons_self)
    rw [g1] at g2
    simp only [Option.some.injEq, AObj.map.injEq] at g2
    obtain rfl := ent_inj g2
    exact ht
  have r0 := hM.row k _ (List.mem_append_left _ (List.mem_append_right _ List.mem_cons_self))
  -- a node with one kid at most
  have simple : ∀ kid : TT, (l = .nil ∧ kid = r) ∨ (r = .nil ∧ kid = l) → TailV h t k kid.pt (fun v h' => v = AV.tup [] ∧ ∃ (T' : TT) (lk' : Int) (qs' : List (Nat × Int)), T'.ids = (pL ctx ++ (l.pairs ++ r.pairs) ++ pR ctx).map (·.2) ∧ qs'.Perm ((k, id) :: T'.pairs) ∧ Tr h h' (rZ t m lk ctx sz (.node k id l r) ++ [(m, .map (qs.map ent))]) (rW t m lk' T' ++ [(m, .map (qs'.map ent))])) := fun kid hk => by
    have hp : (rZ t m lk ctx sz (.node k id l r) ++ [(m, AObj.map (qs.map ent))]).Perm (((k, nd id sz (upC ctx) l.pt r.pt) :: (rC t m lk (some (k, 0)) ctx ++ rT (some (k, 0)) kid)) ++ [(m, .map (qs.map ent))]) := by
      rcases hk with ⟨rfl, rfl⟩ | ⟨rfl, rfl⟩ <;> exact (perm_of fun a => by simp only [cnt_cons, cnt_append, cnt_nil, pt_nil, rT, rTs, rC, rZ, pt_node, Fr.row, upC_cons, upC_nil, TT.n, Bool.false_eq_true, if_false, if_true]; omega)
    refine cut_tail (by rcases hk with ⟨rfl, rfl⟩ | ⟨rfl, rfl⟩ <;> simp only [TT.n] at hb <;> omega) (hM.perm hp) fun h' lk' ht => ⟨rfl, upF ctx kid, lk', qs, ?_, ?_, ht.perm hp.symm (.refl _)⟩
    · rw [← TT.pairs_ids, upF_pairs]
      rcases hk with ⟨rfl, rfl⟩ | ⟨rfl, rfl⟩ <;> simp [TT.pairs]
    · rw [upF_pairs]
      refine hq.trans (perm2_of fun a => ?_)
      rcases hk with ⟨rfl, rfl⟩ | ⟨rfl, rfl⟩ <;> simp only [TT.pairs, ct2_cons, ct2_append, ct2_nil] <;> omega
  refine sem_vc mixed (C := C31 t (fun H x n => x = k ∧ ∃ mm, J31 t m (fun lk => rZ t m lk ctx sz (.node k id l r) ++ [(m, .map (qs.map ent))]) (rT (some (k, 0)) .nil ++ [(m, .map (qs.map ent))]) h (rZ t m lk ctx sz (.node k id l r) ++ [(m, .map (qs.map ent))]) (minC r (⟨k, id, false, l, sz⟩ :: ctx)) (H, n, mm))
    (fun H x n => x = k ∧ Y31 t m (fun lk => rZ t m lk ctx sz (.node k id l r) ++ [(m, .map (qs.map ent))]) (rT (some (k, 0)) .nil ++ [(m, .map (qs.map ent))]) h (rZ t m lk ctx sz (.node k id l r) ++ [(m, .map (qs.map ent))]) (minC r (⟨k, id, false, l, sz⟩ :: ctx)) H n)) (SU_ok tabsC) (CU_q (ks := [])) (CU_cw (ks := []) tabsC) ht31 c31 ?_ (cut_vc h t k _ _ _) ?_
  · refine one_part rfl (part_loop (id := 2) rfl rfl fun st K hT => ?_)
    obtain ⟨H, x, n, rfl, ⟨rfl, mm, hJ⟩, hk⟩ := hT
    refine W_mono (cut_loop _ hJ) fun e st hq => ?_
    obtain ⟨rfl, H', n', rfl, hY⟩ := hq
    exact hk H' n' ⟨rfl, hY⟩
  · cases l with
    | nil => exact ⟨false, fld r0 rfl, false, fld r0 rfl, r.pt, fld r0 rfl, simple r (.inl ⟨rfl, rfl⟩)⟩
    | node ak aid al ar =>
      cases r with
      | nil => exact ⟨true, ak, 0, fld r0 rfl, false, fld r0 rfl, true, ak, 0, fld r0 rfl, simple (.node ak aid al ar) (.inr ⟨rfl, rfl⟩)⟩
      | node bk bid bl br =>
        refine ⟨true, ak, 0, fld r0 rfl, true, bk, 0, fld r0 rfl, bk, 0, fld r0 rfl, h, k, bk, rfl, ⟨rfl, bl.n, lk, _, bid, bl, br, rfl, rfl, fun lk => (perm_of fun a => by simp only [cnt_cons, cnt_append, cnt_nil, pt_nil, rT, rTs, rC, rZ, pt_node, Fr.row, upC_cons, upC_nil, TT.n, Bool.false_eq_true, if_false, if_true]; omega), Tr.refl hM⟩, fun H' n' hY => ?_⟩
        obtain ⟨-, lk1, c, nid, r', hC, hpr, hT⟩ := hY
        obtain ⟨path, nk, nid', nr, q, s1, s2, s3⟩ := minC_spec (.node bk bid bl br) (by simp [TT.pt])
        rw [s1] at hC
        simp only [Prod.mk.injEq] at hC
        obtain ⟨rfl, rfl, rfl, rfl⟩ := hC
        obtain ⟨q1, q2, q3⟩ := s3 (⟨k, nid', false, .node ak aid al ar, sz⟩ :: ctx)
        obtain ⟨p', R', hmid⟩ := rC_mid t m lk1 ⟨k, id, false, .node ak aid al ar, sz⟩ ctx path (some (nk, 0))
        have hu : ∀ i, upC (path ++ (⟨k, i, false, .node ak aid al ar, sz⟩ : Fr) :: ctx) = upC (path ++ (⟨k, id, false, .node ak aid al ar, sz⟩ : Fr) :: ctx) := fun i => by cases path <;> rfl
        generalize hu0 : upC (path ++ (⟨k, id, false, .node ak aid al ar, sz⟩ : Fr) :: ctx) = u0 at hu hpr
        -- rows of the two
        have hA : (rZ t m lk1 ctx sz (.node k id (.node ak aid al ar) (.node bk bid bl br)) ++ [(m, AObj.map (qs.map ent))]).Perm ((k, nd id sz (upC ctx) (some (ak, 0)) p') :: (R' ++ ((nk, nd nid' (0 + nr.n + 1 : Nat) u0 none nr.pt) :: (rT (some (nk, 0)) nr ++ [(m, AObj.map (qs.map ent))])))) := by
          refine hpr.trans (perm_of fun a => ?_)
          have h1 := cnt_perm (hmid id) a
          simp only [cnt_cons, cnt_append, cnt_nil, rT, pt_nil, TT.n, Fr.row, Bool.false_eq_true, if_false, pt_node] at h1 ⊢
          omega
        have M1 := hT.b.perm hA
        have hne : k ≠ nk := fun e => by
          have := M1.nd
          rw [keys_cons, List.nodup_cons, keys_append, keys_cons] at this
          exact this.1 (by simp [e])
        have rk := M1.row k _ List.mem_cons_self
        have rn := M1.row nk _ (List.mem_cons_of_mem _ (List.mem_append_right _ List.mem_cons_self))
        have T1 := Tr.set M1 (.refl _) (nd nid' sz (upC ctx) (some (ak, 0)) p')
        have rn1 := T1.b.row nk _ (List.mem_cons_of_mem _ (List.mem_append_right _ List.mem_cons_self))
        have T2 := Tr.set (k := nk) (o := nd nid' (0 + nr.n + 1 : Nat) u0 none nr.pt) (R := (k, nd nid' sz (upC ctx) (some (ak, 0)) p') :: (R' ++ (rT (some (nk, 0)) nr ++ [(m, AObj.map (qs.map ent))]))) T1.b (perm_of fun a => by simp only [cnt_cons, cnt_append, cnt_nil]; omega) (nd id (0 + nr.n + 1 : Nat) u0 none nr.pt)
        have hmem : (nk, nid') ∈ qs := hq.mem_iff.2 (by rw [s2]; simp)
        obtain ⟨qa, qb, hqs, hput⟩ := put_old (k := k) hnd hmem
        have T3 := Tr.set (k := m) (o := .map (qs.map ent)) (R := (nk, nd id (0 + nr.n + 1 : Nat) u0 none nr.pt) :: (k, nd nid' sz (upC ctx) (some (ak, 0)) p') :: (R' ++ rT (some (nk, 0)) nr)) T2.b (perm_of fun a => by simp only [cnt_cons, cnt_append, cnt_nil]; omega) (.map ((qa ++ (k, nid') :: qb).map ent))
        have hB : ((m, AObj.map ((qa ++ (k, nid') :: qb).map ent)) :: (nk, nd id (0 + nr.n + 1 : Nat) u0 none nr.pt) :: (k, nd nid' sz (upC ctx) (some (ak, 0)) p') :: (R' ++ rT (some (nk, 0)) nr)).Perm
            (((nk, nd id (0 + nr.n + 1 : Nat) (upC (path ++ (⟨k, nid', false, .node ak aid al ar, sz⟩ : Fr) :: ctx)) none nr.pt) :: (rC t m lk1 (some (nk, 0)) (path ++ (⟨k, nid', false, .node ak aid al ar, sz⟩ : Fr) :: ctx) ++ rT (some (nk, 0)) nr)) ++ [(m, .map ((qa ++ (k, nid') :: qb).map ent))]) := by
          refine perm_of fun a => ?_
          have h1 := cnt_perm (hmid nid') a
          rw [hu]
          simp only [cnt_cons, cnt_append, cnt_nil, Fr.row, Bool.false_eq_true, if_false, pt_node] at h1 ⊢
          omega
        have M4 := T3.b.perm hB
        obtain ⟨p0, ht0, -⟩ := look_tr (hT.b.perm hpr)
        have tt : ∀ {h' : AHeap} {L'}, Tr H' h' ((k, nd id sz (upC ctx) (some (ak, 0)) p') :: (R' ++ ((nk, nd nid' (0 + nr.n + 1 : Nat) u0 none nr.pt) :: (rT (some (nk, 0)) nr ++ [(m, AObj.map (qs.map ent))])))) L' → Tr h h' _ L' := fun g => hT.trans (g.perm hA.symm (.refl _))
        have TT2 := tt (T1.trans T2)
        have TT3 := (tt (T1.trans (T2.trans T3))).perm (.refl _) hB
        obtain ⟨p1, ht1, -⟩ := look_tr (lk := lk1) (m := m) (t := t) (p := some (nk, 0)) (ctx := path ++ (⟨k, nid', false, .node ak aid al ar, sz⟩ : Fr) :: ctx) (F := (nk, nd id (0 + nr.n + 1 : Nat) u0 none nr.pt) :: (rT (some (nk, 0)) nr ++ [(m, AObj.map (qs.map ent))])) (TT2.b.perm (perm_of fun a => by
          have h1 := cnt_perm (hmid nid') a
          simp only [cnt_cons, cnt_append, cnt_nil, Fr.row, Bool.false_eq_true, if_false, pt_node] at h1 ⊢
          omega))
        have rk2 := TT2.b.row k _ (List.mem_cons_of_mem _ List.mem_cons_self)
        have rm2 := TT2.b.row m _ (List.mem_cons_of_mem _ (List.mem_cons_of_mem _ (List.mem_append_right _ (List.mem_append_right _ List.mem_cons_self))))
        have rn4 := M4.row nk _ (List.mem_append_left _ List.mem_cons_self)
        refine ⟨nid', fld rn rfl, id, fld rk rfl, 66, 5, _, rk, chkI rfl (chkI (log31 hne) ⟨66, 5, _, rn1, chkI rfl ⟨m, fld ht1 rfl, nid', fld rk2 rfl, _, _, rm2, hput, false, fld rn4 rfl, nr.pt, fld rn4 rfl, ?_⟩⟩)⟩
        have hbn : nr.n + ctxN (path ++ (⟨k, nid', false, .node ak aid al ar, sz⟩ : Fr) :: ctx) ≤ 700000 := by
          simp only [ctxN, TT.n] at q3 hb; omega
        have fin := cut_tail (R := fun v h' => v = AV.tup [] ∧ ∃ (T' : TT) (lk' : Int) (qs' : List (Nat × Int)), T'.ids = (pL ctx ++ ((TT.node ak aid al ar).pairs ++ (TT.node bk bid bl br).pairs) ++ pR ctx).map (·.2) ∧ qs'.Perm ((k, id) :: T'.pairs) ∧ Tr h h' (rZ t m lk ctx sz (.node k id (.node ak aid al ar) (.node bk bid bl br)) ++ [(m, .map (qs.map ent))]) (rW t m lk' T' ++ [(m, .map (qs'.map ent))])) hbn M4 fun h' lk' ht => ⟨rfl, upF (path ++ (⟨k, nid', false, .node ak aid al ar, sz⟩ : Fr) :: ctx) nr, lk', qa ++ (k, nid') :: qb, (by
            rw [← TT.pairs_ids, upF_pairs, q1, q2, s2]
            simp [pL, pR]), (by
            rw [upF_pairs, q1, q2]
            refine perm2_of fun a => ?_
            have h1 := ct2_perm hq a
            rw [hqs, s2] at h1
            simp only [pL, pR, Bool.false_eq_true, if_false, ct2_cons, ct2_append, ct2_nil, List.nil_append] at h1 ⊢
            omega), TT3.trans ht⟩
        exact fin

end Go.Proofs.Ytncmgbbbekabdaa
