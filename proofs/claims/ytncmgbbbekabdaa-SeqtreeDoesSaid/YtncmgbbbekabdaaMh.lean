/- Written by merging: Tq Tr Ts Tt Tu Tv. -/
import Derived.Test.YtncmgbbbekabdaaMg
import Derived.Test.YtncmgbbbekabdaaMc
namespace Go.Proofs.Ytncmgbbbekabdaa
open Go Go.Am Go.RowKit
set_option maxRecDepth 100000
set_option linter.unusedVariables false
set_option linter.unusedSimpArgs false

/-- Each node's place and id, in order. -/
def TT.pairs : TT → List (Nat × Int)
  | .nil => []
  | .node k id l r => l.pairs ++ (k, id) :: r.pairs
theorem TT.pairs_ids : ∀ T : TT, T.pairs.map (·.2) = T.ids
  | .nil => rfl
  | .node k id l r => by simp only [TT.pairs, TT.ids, List.map_append, List.map_cons, TT.pairs_ids l, TT.pairs_ids r]
theorem TT.pairs_n (T : TT) : T.pairs.length = T.n := by rw [← TT.n_ids, ← TT.pairs_ids, List.length_map]
theorem rotL_pairs (T : TT) : (rotL T).pairs = T.pairs := by
  unfold rotL; split <;> simp [TT.pairs]
theorem rotR_pairs (T : TT) : (rotR T).pairs = T.pairs := by
  unfold rotR; split <;> simp [TT.pairs]
theorem bal_pairs (T : TT) : (bal T).pairs = T.pairs := by
  cases T with
  | nil => rfl
  | node k id l r =>
    rcases bal_cases k id l r with e | e | e | e | e <;> rw [e]
    · rw [rotL_pairs]
    · rw [rotL_pairs]; simp only [TT.pairs, rotR_pairs]
    · rw [rotR_pairs]
    · rw [rotR_pairs]; simp only [TT.pairs, rotL_pairs]
def pL : List Fr → List (Nat × Int)
  | [] => []
  | f :: fs => pL fs ++ (if f.left then [] else f.sib.pairs ++ [(f.k, f.id)])
def pR : List Fr → List (Nat × Int)
  | [] => []
  | f :: fs => (if f.left then (f.k, f.id) :: f.sib.pairs else []) ++ pR fs
theorem fill_pairs (f : Fr) (T : TT) : (f.fill T).pairs = (if f.left then [] else f.sib.pairs ++ [(f.k, f.id)]) ++ T.pairs ++ (if f.left then (f.k, f.id) :: f.sib.pairs else []) := by
  unfold Fr.fill
  cases f.left <;> simp [TT.pairs]
theorem upF_pairs : ∀ (ctx : List Fr) (T : TT), (upF ctx T).pairs = pL ctx ++ T.pairs ++ pR ctx
  | [], T => by simp [upF, pL, pR]
  | f :: fs, T => by
    rw [upF, upF_pairs fs, bal_pairs, fill_pairs]
    simp [pL, pR]
theorem insC_P : ∀ (T : TT) (i : Nat) (ctx : List Fr), i ≤ T.n → pL (insC i T ctx) = pL ctx ++ T.pairs.take i ∧ pR (insC i T ctx) = T.pairs.drop i ++ pR ctx
  | .nil, i, ctx, h => by simp [insC, TT.pairs]
  | .node k id l r, i, ctx, h => by
    simp only [TT.n] at h
    have hl := TT.pairs_n l
    unfold insC
    split
    · rename_i hi
      obtain ⟨h1, h2⟩ := insC_P r (i - (l.n + 1)) (⟨k, id, false, l, (l.n + r.n + 1 : Nat)⟩ :: ctx) (by omega)
      rw [h1, h2]
      simp only [pL, pR, TT.pairs, Bool.false_eq_true, if_false, List.nil_append]
      have e : l.pairs ++ (k, id) :: r.pairs = (l.pairs ++ [(k, id)]) ++ r.pairs := by simp
      have hlen : (l.pairs ++ [(k, id)]).length = l.n + 1 := by simp [hl]
      obtain ⟨j, hj⟩ : ∃ j, i = (l.pairs ++ [(k, id)]).length + j := ⟨i - (l.n + 1), by omega⟩
      have hj2 : i - (l.n + 1) = j := by omega
      rw [hj2, e, hj, List.take_length_add_append, List.drop_length_add_append]
      simp
    · rename_i hi
      obtain ⟨h1, h2⟩ := insC_P l i (⟨k, id, true, r, (l.n + r.n + 1 : Nat)⟩ :: ctx) (by omega)
      rw [h1, h2]
      simp only [pL, pR, TT.pairs, if_true, List.append_nil]
      rw [List.take_append_of_le_length (by omega), List.drop_append_of_le_length (by omega)]
      simp
theorem insF_pairs {i : Nat} {T : TT} {x : Nat} {xid : Int} (h : i ≤ T.n) : (insF i T x xid).pairs = T.pairs.take i ++ (x, xid) :: T.pairs.drop i := by
  obtain ⟨h1, h2⟩ := insC_P T i [] h
  unfold insF
  rw [upF_pairs, h1, h2]
  simp [pL, pR, leaf, TT.pairs]
def ent (p : Nat × Int) : AV × AV := (.int .i64 p.2, .agg [.ptr (some (p.1, 0))])
theorem same_int (a b : Int) : sameKey (.int .i64 a) (.int .i64 b) = some (decide (a = b)) := by
  simp only [sameKey]
  by_cases h : a = b
  · subst h; simp
  · simp [h]
theorem find_none {id : Int} : ∀ {qs : List (Nat × Int)}, id ∉ qs.map (·.2) → findA (.int .i64 id) (qs.map ent) = some none
  | [], _ => rfl
  | (k, j) :: qs, h => by
    simp only [List.map_cons, List.mem_cons, not_or] at h
    simp only [List.map_cons, findA, ent, same_int, decide_eq_false h.1]
    exact find_none h.2
theorem find_some {id : Int} {k : Nat} : ∀ {qs : List (Nat × Int)}, (qs.map (·.2)).Nodup → (k, id) ∈ qs → findA (.int .i64 id) (qs.map ent) = some (some (.agg [.ptr (some (k, 0))]))
  | (k', j) :: qs, hn, hm => by
    simp only [List.map_cons, List.nodup_cons] at hn
    simp only [List.map_cons, findA, ent, same_int]
    rcases List.mem_cons.1 hm with e | hm
    · cases e; simp
    · have : id ≠ j := fun e => hn.1 (List.mem_map.2 ⟨(k, id), hm, e⟩)
      simp only [decide_eq_false this]
      exact find_some hn.2 hm
theorem put_new {id : Int} {k : Nat} : ∀ {qs : List (Nat × Int)}, id ∉ qs.map (·.2) → putA (.int .i64 id) (.agg [.ptr (some (k, 0))]) (qs.map ent) = some ((qs ++ [(k, id)]).map ent)
  | [], _ => rfl
  | (k', j) :: qs, h => by
    simp only [List.map_cons, List.mem_cons, not_or] at h
    simp only [List.map_cons, putA, ent, same_int, decide_eq_false h.1, List.cons_append]
    have := put_new (k := k) h.2
    rw [this]
    rfl
/-- One id stands elsewhere. -/
theorem put_old {id : Int} {k k0 : Nat} : ∀ {qs : List (Nat × Int)}, (qs.map (·.2)).Nodup → (k0, id) ∈ qs → ∃ a b, qs = a ++ (k0, id) :: b ∧ putA (.int .i64 id) (.agg [.ptr (some (k, 0))]) (qs.map ent) = some ((a ++ (k, id) :: b).map ent)
  | (k', j) :: qs, hn, hm => by
    simp only [List.map_cons, List.nodup_cons] at hn
    rcases List.mem_cons.1 hm with e | hm
    · cases e
      exact ⟨[], qs, rfl, by simp [putA, ent, same_int]⟩
    · have hne : id ≠ j := fun e => hn.1 (List.mem_map.2 ⟨(k0, id), hm, e⟩)
      obtain ⟨a, b, rfl, h⟩ := put_old (k := k) hn.2 hm
      refine ⟨(k', j) :: a, b, rfl, ?_⟩
      show putA _ _ (ent (k', j) :: (a ++ (k0, id) :: b).map ent) = _
      simp only [putA]
      rw [show sameKey (.int .i64 id) (ent (k', j)).1 = some false from by rw [show (ent (k', j)).1 = .int .i64 j from rfl, same_int, decide_eq_false hne], h]
      rfl
theorem drop_old {id : Int} {k0 : Nat} : ∀ {qs : List (Nat × Int)}, (qs.map (·.2)).Nodup → (k0, id) ∈ qs → ∃ a b, qs = a ++ (k0, id) :: b ∧ dropA (.int .i64 id) (qs.map ent) = some ((a ++ b).map ent)
  | (k', j) :: qs, hn, hm => by
    simp only [List.map_cons, List.nodup_cons] at hn
    rcases List.mem_cons.1 hm with e | hm
    · cases e
      exact ⟨[], qs, rfl, by simp [dropA, ent, same_int]⟩
    · have hne : id ≠ j := fun e => hn.1 (List.mem_map.2 ⟨(k0, id), hm, e⟩)
      obtain ⟨a, b, rfl, h⟩ := drop_old hn.2 hm
      refine ⟨(k', j) :: a, b, rfl, ?_⟩
      show dropA _ (ent (k', j) :: (a ++ (k0, id) :: b).map ent) = _
      simp only [dropA]
      rw [show sameKey (.int .i64 id) (ent (k', j)).1 = some false from by rw [show (ent (k', j)).1 = .int .i64 j from rfl, same_int, decide_eq_false hne], h]
      rfl
/-- A tree that can be: ids that may be, none twice; its map. -/
structure Good (T : TT) (qs : List (Nat × Int)) : Prop where
  p : qs.Perm T.pairs
  nd : T.ids.Nodup
  rg : ∀ z ∈ T.ids, 1 ≤ z ∧ z ≤ 9007199254740992
  n : T.n ≤ 1024
theorem Good.nd2 {T : TT} {qs : List (Nat × Int)} (g : Good T qs) : (qs.map (·.2)).Nodup := by
  have := g.nd
  rw [← TT.pairs_ids] at this
  exact ((g.p.map _).nodup_iff).2 this
theorem Good.mem {T : TT} {qs : List (Nat × Int)} (g : Good T qs) {z : Int} : z ∈ qs.map (·.2) ↔ z ∈ T.ids := by
  rw [← TT.pairs_ids]; exact (g.p.map _).mem_iff
/-- All rows of a tree. -/
def rA (t m : Nat) (lk : Int) (T : TT) (qs : List (Nat × Int)) : Rws := rW t m lk T ++ [(m, .map (qs.map ent))]
/-- What Insert answers. -/
def insR (zs : List Int) (i id : Int) : Int × List Int :=
  if id < 1 ∨ 9007199254740992 < id then (1, zs) else if id ∈ zs then (5, zs) else if 1024 ≤ zs.length then (6, zs) else if i < 0 ∨ (zs.length : Int) < i then (1, zs) else (0, zs.take i.toNat ++ id :: zs.drop i.toNat)
noncomputable def tI : List TbG := [TC Try.prog 25 V0 P25]
noncomputable def CI (ks : List (Nat × K1)) (a : Nat) : Cfg := { CT tbQ tI ks with kd := fun t => if t = a then .agg [.ptrV] else kdOf ks t }
theorem ins_vc (h : AHeap) (t : Nat) (i id : Int) (R : AV → AHeap → Prop) : (∃ (b : Bool), askB b (TbE.s { f := 24, s := sNone, r := Rs.of (Rs1.one K1.bool) } [AV.ptr (some (t, 0))] h = some (AV.bool true) ∧ R (AV.int .i64 2) h) (TbE.s { f := 24, s := sNone, r := Rs.of (Rs1.one K1.bool) } [AV.ptr (some (t, 0))] h = some (AV.bool false) ∧ askB (decide (id < 1)) (R (AV.int .i64 1) h) (askB (decide (id > 9007199254740992)) (R (AV.int .i64 1) h) (∃ (m : Nat), (Option.bind (cellsAt (h ++ List.replicate (0 + 1) AObj.hole) t) fun (x : List AV) => partR none x 1) = some (AV.map (some m)) ∧ ∃ (es : List (AV × AV)), (h ++ List.replicate (0 + 1) AObj.hole)[m]? = some (AObj.map es) ∧ ∃ (b : Bool), askB b (∃ (p : Option (Nat × Nat)), findA (AV.int .i64 id) es = some (some (AV.agg [AV.ptr p])) ∧ chkW (isHole (h ++ List.replicate (0 + 1) AObj.hole) (List.length h)) (∃ (t : TypeId), ∃ (s : Nat), ∃ (cs : List AV), (List.set (h ++ List.replicate (0 + 1) AObj.hole) (List.length h) (AObj.row 63 (List.length (AV.cells (AV.agg [AV.ptr none]))) (AV.cells (AV.agg [AV.ptr none]))))[List.length h]? = some (AObj.row t s cs) ∧ chkW (decide (1 ≤ List.length cs)) (R (AV.int .i64 5) (List.set (List.set (h ++ List.replicate (0 + 1) AObj.hole) (List.length h) (AObj.row 63 (List.length (AV.cells (AV.agg [AV.ptr none]))) (AV.cells (AV.agg [AV.ptr none])))) (List.length h) (AObj.row t s (spliceA cs 0 (AV.cells (AV.agg [AV.ptr p])))))))) (findA (AV.int .i64 id) es = some none ∧ chkW (isHole (h ++ List.replicate (0 + 1) AObj.hole) (List.length h)) (∃ (t_1 : TypeId), ∃ (s : Nat), ∃ (cs : List AV), (List.set (h ++ List.replicate (0 + 1) AObj.hole) (List.length h) (AObj.row 63 (List.length (AV.cells (AV.agg [AV.ptr none]))) (AV.cells (AV.agg [AV.ptr none]))))[List.length h]? = some (AObj.row t_1 s cs) ∧ chkW (decide (1 ≤ List.length cs)) (∃ (n : Int), TbE.s { f := 10, s := sLen, r := Rs.of (Rs1.one i64) } [AV.ptr (some (t, 0))] (List.set (List.set (h ++ List.replicate (0 + 1) AObj.hole) (List.length h) (AObj.row 63 (List.length (AV.cells (AV.agg [AV.ptr none]))) (AV.cells (AV.agg [AV.ptr none])))) (List.length h) (AObj.row t_1 s (spliceA cs 0 (AV.cells (AV.agg [AV.ptr none]))))) = some (AV.int .i64 n) ∧ askB (decide (n ≥ 1024)) (R (AV.int .i64 6) (List.set (List.set (h ++ List.replicate (0 + 1) AObj.hole) (List.length h) (AObj.row 63 (List.length (AV.cells (AV.agg [AV.ptr none]))) (AV.cells (AV.agg [AV.ptr none])))) (List.length h) (AObj.row t_1 s (spliceA cs 0 (AV.cells (AV.agg [AV.ptr none])))))) (askB (decide (i < 0)) (R (AV.int .i64 1) (List.set (List.set (h ++ List.replicate (0 + 1) AObj.hole) (List.length h) (AObj.row 63 (List.length (AV.cells (AV.agg [AV.ptr none]))) (AV.cells (AV.agg [AV.ptr none])))) (List.length h) (AObj.row t_1 s (spliceA cs 0 (AV.cells (AV.agg [AV.ptr none])))))) (∃ (n : Int), TbE.s { f := 10, s := sLen, r := Rs.of (Rs1.one i64) } [AV.ptr (some (t, 0))] (List.set (List.set (h ++ List.replicate (0 + 1) AObj.hole) (List.length h) (AObj.row 63 (List.length (AV.cells (AV.agg [AV.ptr none]))) (AV.cells (AV.agg [AV.ptr none])))) (List.length h) (AObj.row t_1 s (spliceA cs 0 (AV.cells (AV.agg [AV.ptr none]))))) = some (AV.int .i64 n) ∧ askB (decide (i > n)) (R (AV.int .i64 1) (List.set (List.set (h ++ List.replicate (0 + 1) AObj.hole) (List.length h) (AObj.row 63 (List.length (AV.cells (AV.agg [AV.ptr none]))) (AV.cells (AV.agg [AV.ptr none])))) (List.length h) (AObj.row t_1 s (spliceA cs 0 (AV.cells (AV.agg [AV.ptr none])))))) (chkW (isHole (List.set (List.set (h ++ List.replicate (0 + 1) AObj.hole) (List.length h) (AObj.row 63 (List.length (AV.cells (AV.agg [AV.ptr none]))) (AV.cells (AV.agg [AV.ptr none])))) (List.length h) (AObj.row t_1 s (spliceA cs 0 (AV.cells (AV.agg [AV.ptr none])))) ++ List.replicate (0 + 1) AObj.hole) (List.length (List.set (List.set (h ++ List.replicate (0 + 1) AObj.hole) (List.length h) (AObj.row 63 (List.length (AV.cells (AV.agg [AV.ptr none]))) (AV.cells (AV.agg [AV.ptr none])))) (List.length h) (AObj.row t_1 s (spliceA cs 0 (AV.cells (AV.agg [AV.ptr none]))))))) (∃ (m : Nat), (Option.bind (cellsAt (List.set (List.set (List.set (h ++ List.replicate (0 + 1) AObj.hole) (List.length h) (AObj.row 63 (List.length (AV.cells (AV.agg [AV.ptr none]))) (AV.cells (AV.agg [AV.ptr none])))) (List.length h) (AObj.row t_1 s (spliceA cs 0 (AV.cells (AV.agg [AV.ptr none])))) ++ List.replicate (0 + 1) AObj.hole) (List.length (List.set (List.set (h ++ List.replicate (0 + 1) AObj.hole) (List.length h) (AObj.row 63 (List.length (AV.cells (AV.agg [AV.ptr none]))) (AV.cells (AV.agg [AV.ptr none])))) (List.length h) (AObj.row t_1 s (spliceA cs 0 (AV.cells (AV.agg [AV.ptr none])))))) (AObj.row 66 (List.length (AV.cells (AV.agg [AV.int .i64 id, AV.int .i64 1, AV.ptr none, AV.ptr none, AV.ptr none]))) (AV.cells (AV.agg [AV.int .i64 id, AV.int .i64 1, AV.ptr none, AV.ptr none, AV.ptr none])))) t) fun (x : List AV) => partR none x 1) = some (AV.map (some m)) ∧ ∃ (es : List (AV × AV)), ∃ (es' : List (AV × AV)), (List.set (List.set (List.set (h ++ List.replicate (0 + 1) AObj.hole) (List.length h) (AObj.row 63 (List.length (AV.cells (AV.agg [AV.ptr none]))) (AV.cells (AV.agg [AV.ptr none])))) (List.length h) (AObj.row t_1 s (spliceA cs 0 (AV.cells (AV.agg [AV.ptr none])))) ++ List.replicate (0 + 1) AObj.hole) (List.length (List.set (List.set (h ++ List.replicate (0 + 1) AObj.hole) (List.length h) (AObj.row 63 (List.length (AV.cells (AV.agg [AV.ptr none]))) (AV.cells (AV.agg [AV.ptr none])))) (List.length h) (AObj.row t_1 s (spliceA cs 0 (AV.cells (AV.agg [AV.ptr none])))))) (AObj.row 66 (List.length (AV.cells (AV.agg [AV.int .i64 id, AV.int .i64 1, AV.ptr none, AV.ptr none, AV.ptr none]))) (AV.cells (AV.agg [AV.int .i64 id, AV.int .i64 1, AV.ptr none, AV.ptr none, AV.ptr none]))))[m]? = some (AObj.map es) ∧ putA (AV.int .i64 id) (AV.agg [AV.ptr (some (List.length (List.set (List.set (h ++ List.replicate (0 + 1) AObj.hole) (List.length h) (AObj.row 63 (List.length (AV.cells (AV.agg [AV.ptr none]))) (AV.cells (AV.agg [AV.ptr none])))) (List.length h) (AObj.row t_1 s (spliceA cs 0 (AV.cells (AV.agg [AV.ptr none]))))), 0))]) es = some es' ∧ ComesTo Try.prog 25 V0 P25 ([] ++ List.reverse [AV.ptr (some (List.length (List.set (List.set (h ++ List.replicate (0 + 1) AObj.hole) (List.length h) (AObj.row 63 (List.length (AV.cells (AV.agg [AV.ptr none]))) (AV.cells (AV.agg [AV.ptr none])))) (List.length h) (AObj.row t_1 s (spliceA cs 0 (AV.cells (AV.agg [AV.ptr none]))))), 0)), AV.int .i64 i, AV.ptr (some (t, 0))] ++ []) (List.set (List.set (List.set (List.set (h ++ List.replicate (0 + 1) AObj.hole) (List.length h) (AObj.row 63 (List.length (AV.cells (AV.agg [AV.ptr none]))) (AV.cells (AV.agg [AV.ptr none])))) (List.length h) (AObj.row t_1 s (spliceA cs 0 (AV.cells (AV.agg [AV.ptr none])))) ++ List.replicate (0 + 1) AObj.hole) (List.length (List.set (List.set (h ++ List.replicate (0 + 1) AObj.hole) (List.length h) (AObj.row 63 (List.length (AV.cells (AV.agg [AV.ptr none]))) (AV.cells (AV.agg [AV.ptr none])))) (List.length h) (AObj.row t_1 s (spliceA cs 0 (AV.cells (AV.agg [AV.ptr none])))))) (AObj.row 66 (List.length (AV.cells (AV.agg [AV.int .i64 id, AV.int .i64 1, AV.ptr none, AV.ptr none, AV.ptr none]))) (AV.cells (AV.agg [AV.int .i64 id, AV.int .i64 1, AV.ptr none, AV.ptr none, AV.ptr none])))) m (AObj.map es')) ∧ ∀ (a : Unit) (h' : AHeap), P25 [AV.ptr (some (t, 0)), AV.int .i64 i, AV.ptr (some (List.length (List.set (List.set (h ++ List.replicate (0 + 1) AObj.hole) (List.length h) (AObj.row 63 (List.length (AV.cells (AV.agg [AV.ptr none]))) (AV.cells (AV.agg [AV.ptr none])))) (List.length h) (AObj.row t_1 s (spliceA cs 0 (AV.cells (AV.agg [AV.ptr none]))))), 0))] (List.set (List.set (List.set (List.set (h ++ List.replicate (0 + 1) AObj.hole) (List.length h) (AObj.row 63 (List.length (AV.cells (AV.agg [AV.ptr none]))) (AV.cells (AV.agg [AV.ptr none])))) (List.length h) (AObj.row t_1 s (spliceA cs 0 (AV.cells (AV.agg [AV.ptr none])))) ++ List.replicate (0 + 1) AObj.hole) (List.length (List.set (List.set (h ++ List.replicate (0 + 1) AObj.hole) (List.length h) (AObj.row 63 (List.length (AV.cells (AV.agg [AV.ptr none]))) (AV.cells (AV.agg [AV.ptr none])))) (List.length h) (AObj.row t_1 s (spliceA cs 0 (AV.cells (AV.agg [AV.ptr none])))))) (AObj.row 66 (List.length (AV.cells (AV.agg [AV.int .i64 id, AV.int .i64 1, AV.ptr none, AV.ptr none, AV.ptr none]))) (AV.cells (AV.agg [AV.int .i64 id, AV.int .i64 1, AV.ptr none, AV.ptr none, AV.ptr none])))) m (AObj.map es')) a h' → R (AV.int .i64 0) h'))))))))))) = (wpF Try.prog (CI [(24, .mapS), (49, .mapS)] 26) 60 p9 [(.ptr (some (t, 0))), .int .i64 i, .int .i64 id] h R) := by kernel_rfl
theorem junk_tr {h : AHeap} {L : Rws} (hM : Maps h L) (l : AHeap) : Tr h (h ++ l) L L :=
  ⟨hM, hM.grow (Grow.app h l), fun j hj => .inl hj, fun j o ho _ => Grow.app h l j o ho, by simp⟩
theorem new_tr {h : AHeap} {L : Rws} (hM : Maps h L) (o : AObj) : Tr h (h ++ [o]) L ((h.length, o) :: L) := by
  have hg := Grow.app h [o]
  refine ⟨hM, ⟨?_, fun k x hx => ?_⟩, fun j hj => ?_, fun j x hx _ => hg j x hx, by simp⟩
  · rw [keys_cons, List.nodup_cons]
    exact ⟨fun hk => by have := hM.lt hk; omega, hM.nd⟩
  · rcases List.mem_cons.1 hx with e | hx
    · cases e; rw [List.getElem?_append_right (Nat.le_refl _)]; simp
    · exact hg k x (hM.row k x hx)
  · rw [keys_cons, List.mem_cons] at hj
    rcases hj with rfl | hj
    · exact .inr (Nat.le_refl _)
    · exact .inl hj
theorem ent_inj : ∀ {a b : List (Nat × Int)}, a.map ent = b.map ent → a = b
  | [], [], _ => rfl
  | [], _ :: _, h => by simp at h
  | _ :: _, [], h => by simp at h
  | (k, i) :: a, (k', i') :: b, h => by
    simp only [List.map_cons, ent, List.cons.injEq, Prod.mk.injEq, AV.int.injEq, AV.agg.injEq, AV.ptr.injEq, Option.some.injEq, and_true, true_and] at h
    obtain ⟨⟨rfl, rfl⟩, h2⟩ := h
    rw [ent_inj h2]
theorem rA_one {h : AHeap} {t m m' : Nat} {lk lk' : Int} {T T' : TT} {qs qs' : List (Nat × Int)} (hM : Maps h (rA t m lk T qs)) (hM' : Maps h (rA t m' lk' T' qs')) : m = m' ∧ lk = lk' ∧ T = T' ∧ qs = qs' := by
  obtain ⟨rfl, rfl, rfl⟩ := rW_one hM hM'
  have g1 := hM.row m _ (List.mem_append_right _ List.mem_cons_self)
  have g2 := hM'.row m _ (List.mem_append_right _ List.mem_cons_self)
  rw [g1] at g2
  simp only [Option.some.injEq, AObj.map.injEq] at g2
  exact ⟨rfl, rfl, rfl, ent_inj g2⟩
theorem rA_t {h : AHeap} {t m : Nat} {lk : Int} {T : TT} {qs : List (Nat × Int)} (hM : Maps h (rA t m lk T qs)) : h[t]? = some (trow T.pt m lk) := hM.left.row t _ List.mem_cons_self
theorem rA_m {h : AHeap} {t m : Nat} {lk : Int} {T : TT} {qs : List (Nat × Int)} (hM : Maps h (rA t m lk T qs)) : h[m]? = some (.map (qs.map ent)) := hM.row m _ (List.mem_append_right _ List.mem_cons_self)
theorem rA_none {h : AHeap} {t m : Nat} {lk : Int} {T : TT} {qs : List (Nat × Int)} (hM : Maps h (rA t m lk T qs)) : sNone [.ptr (some (t, 0))] h = some (.bool false) := by
  have := rA_t hM
  simp only [trow] at this
  simp only [sNone, this]
theorem rA_len {h : AHeap} {t m : Nat} {lk : Int} {T : TT} {qs : List (Nat × Int)} (g : Good T qs) (hM : Maps h (rA t m lk T qs)) : sLen [.ptr (some (t, 0))] h = some (.int .i64 (T.n : Nat)) := by
  have h1 := rA_t hM
  have h2 := rA_m hM
  simp only [trow] at h1
  have : (qs.map ent).length = T.n := by rw [List.length_map, g.p.length_eq, TT.pairs_n]
  simp only [sLen, h1, h2, this]
theorem tabsI : TabsOK tbQ tI [] := by
  refine ⟨tabsQ.q, tabsQ.qq, fun x hx => ?_, fun x hx => ?_, fun _ h => (by cases h), rfl⟩
  · simp only [tI, List.mem_cons, List.not_mem_nil, or_false] at hx
    subst hx; exact csem_full ht25 V0 P25
  · simp only [tI, List.mem_cons, List.not_mem_nil, or_false] at hx
    subst hx; exact TC_ok _ _ _ _
theorem Good.ins {T : TT} {qs : List (Nat × Int)} (g : Good T qs) {i x : Nat} {id : Int} (hi : i ≤ T.n) (h1 : 1 ≤ id) (h2 : id ≤ 9007199254740992) (h3 : id ∉ T.ids) (h4 : T.n < 1024) : Good (insF i T x id) (qs ++ [(x, id)]) := by
  have e1 : (insF i T x id).ids = T.ids.take i ++ id :: T.ids.drop i := insF_ids hi
  have hp : (T.ids.take i ++ id :: T.ids.drop i).Perm (id :: T.ids) := List.perm_middle.trans (by rw [List.take_append_drop])
  refine ⟨?_, ?_, fun z hz => ?_, ?_⟩
  · rw [insF_pairs hi]
    refine List.perm_append_comm.trans ?_
    refine (List.Perm.cons _ g.p).trans ?_
    refine (List.Perm.trans ?_ List.perm_middle.symm)
    rw [List.take_append_drop]
  · rw [e1, hp.nodup_iff, List.nodup_cons]
    exact ⟨h3, g.nd⟩
  · rw [e1] at hz
    rcases List.mem_cons.1 (hp.mem_iff.1 hz) with rfl | hz
    · exact ⟨h1, h2⟩
    · exact g.rg z hz
  · rw [← TT.n_ids, e1, hp.length_eq, List.length_cons, TT.n_ids]; omega
def VI (c : Int) : AV := .int .i64 c
def P9 (vs : List AV) (h : AHeap) (c : Int) (h' : AHeap) : Prop := ∀ t T m lk qs (i id : Int), vs = [.ptr (some (t, 0)), .int .i64 i, .int .i64 id] → Good T qs → Maps h (rA t m lk T qs) →
  c = (insR T.ids i id).1 ∧ ∃ T' lk' qs', Good T' qs' ∧ T'.ids = (insR T.ids i id).2 ∧ ((c ≠ 0 ∧ T' = T) ∨ ∃ x, c = 0 ∧ T' = insF i.toNat T x id) ∧ Tr h h' (rA t m lk T qs) (rA t m lk' T' qs')
theorem ins_can {h : AHeap} {t m : Nat} {lk : Int} {T : TT} {qs : List (Nat × Int)} {i id : Int} (g : Good T qs) (hM : Maps h (rA t m lk T qs)) : ComesTo Try.prog 9 VI P9 [.ptr (some (t, 0)), .int .i64 i, .int .i64 id] h := by
  suffices hs : ∃ v h', (∃ c, v = AV.int .i64 c ∧ c = (insR T.ids i id).1 ∧ ∃ T' lk' qs', Good T' qs' ∧ T'.ids = (insR T.ids i id).2 ∧ ((c ≠ 0 ∧ T' = T) ∨ ∃ x, c = 0 ∧ T' = insF i.toNat T x id) ∧ Tr h h' (rA t m lk T qs) (rA t m lk' T' qs')) ∧ CallSem Try.prog 9 [.ptr (some (t, 0)), .int .i64 i, .int .i64 id] h v h' by
    obtain ⟨v, h', ⟨c, rfl, ht⟩, hs⟩ := hs
    refine ⟨c, h', fun t' T' m' lk' qs' i' id' e g' hM' => ?_, hs⟩
    simp only [List.cons.injEq, AV.ptr.injEq, AV.int.injEq, Option.some.injEq, Prod.mk.injEq, and_true, true_and] at e
    obtain ⟨rfl, rfl, rfl⟩ := e
    obtain ⟨rfl, rfl, rfl, rfl⟩ := rA_one hM hM'
    exact ht
  have hlen := TT.n_ids T
  have stay : ∀ c : Int, (insR T.ids i id) = (c, T.ids) → c ≠ 0 → ∀ l : AHeap, ∃ c', AV.int .i64 c = AV.int .i64 c' ∧ c' = (insR T.ids i id).1 ∧ ∃ T' lk' qs', Good T' qs' ∧ T'.ids = (insR T.ids i id).2 ∧ ((c' ≠ 0 ∧ T' = T) ∨ ∃ x, c' = 0 ∧ T' = insF i.toNat T x id) ∧ Tr h (h ++ l) (rA t m lk T qs) (rA t m lk' T' qs') := fun c hc h0 l => by
    refine ⟨c, rfl, by rw [hc], T, lk, qs, g, by rw [hc], .inl ⟨h0, rfl⟩, junk_tr hM l⟩
  have stay0 : ∀ c : Int, (insR T.ids i id) = (c, T.ids) → c ≠ 0 → ∃ c', AV.int .i64 c = AV.int .i64 c' ∧ c' = (insR T.ids i id).1 ∧ ∃ T' lk' qs', Good T' qs' ∧ T'.ids = (insR T.ids i id).2 ∧ ((c' ≠ 0 ∧ T' = T) ∨ ∃ x, c' = 0 ∧ T' = insF i.toNat T x id) ∧ Tr h h (rA t m lk T qs) (rA t m lk' T' qs') := fun c hc h0 => by
    have := stay c hc h0 []
    rw [List.append_nil] at this
    exact this
  refine sem_vc mixed (C := CI [(24, .mapS), (49, .mapS)] 26) (SU_ok tabsI) (CU_q (ks := [])) (CU_cw (ks := []) tabsI) ht9 c9 (no_parts rfl) (ins_vc h t i id _) ?_
  refine ⟨false, rA_none hM, askI (fun h1 => ?_) (fun h1 => askI (fun h2 => ?_) (fun h2 => ?_))⟩
  · simp only [decide_eq_true_eq] at h1
    exact stay0 1 (by unfold insR; rw [if_pos (.inl h1)]) (by decide)
  · simp only [decide_eq_true_eq] at h2
    exact stay0 1 (by unfold insR; rw [if_pos (.inr h2)]) (by decide)
  · simp only [decide_eq_false_iff_not] at h1 h2
    have hr : ¬ (id < 1 ∨ 9007199254740992 < id) := by omega
    have g0 := Grow.app h (List.replicate (0 + 1) AObj.hole)
    refine ⟨m, fld (g0 _ _ (rA_t hM)) rfl, _, g0 _ _ (rA_m hM), ?_⟩
    have sl : ∀ x : AObj, (h ++ List.replicate (0 + 1) AObj.hole).set h.length x = h ++ [x] := fun x => by rw [repl1, set_b0]; rfl
    have hole : isHole (h ++ List.replicate (0 + 1) AObj.hole) h.length = true := by unfold isHole; rw [repl1, get_b0]; rfl
    have rowx : ∀ x : AObj, (h ++ [x])[h.length]? = some x := fun x => by rw [get_b0]; rfl
    have sl2 : ∀ x y : AObj, (h ++ [x]).set h.length y = h ++ [y] := fun x y => by rw [set_b0]; rfl
    by_cases hm : id ∈ T.ids
    · obtain ⟨⟨k, id'⟩, hq, rfl⟩ := List.mem_map.1 (g.mem.2 hm)
      refine ⟨true, some (k, 0), find_some g.nd2 hq, chkI hole ⟨63, 1, [.ptr none], by rw [sl]; exact rowx _, chkI rfl ?_⟩⟩
      rw [sl, sl2]
      exact stay 5 (by unfold insR; rw [if_neg hr, if_pos hm]) (by decide) _
    · have hm2 : id ∉ qs.map (·.2) := fun e => hm (g.mem.1 e)
      refine ⟨false, find_none hm2, chkI hole ⟨63, 1, [.ptr none], by rw [sl]; exact rowx _, chkI rfl ?_⟩⟩
      rw [sl, sl2]
      have J := junk_tr hM [AObj.row 63 1 (spliceA [.ptr none] 0 (AV.cells (AV.agg [.ptr none])))]
      have hl := rA_len g J.b
      refine ⟨_, hl, askI (fun h3 => ?_) (fun h3 => askI (fun h4 => ?_) (fun h4 => ⟨_, hl, askI (fun h5 => ?_) (fun h5 => ?_)⟩))⟩
      · simp only [ge_iff_le, decide_eq_true_eq] at h3
        exact stay 6 (by unfold insR; rw [if_neg hr, if_neg hm, if_pos (by omega)]) (by decide) _
      · simp only [ge_iff_le, decide_eq_false_iff_not] at h3
        simp only [decide_eq_true_eq] at h4
        exact stay 1 (by unfold insR; rw [if_neg hr, if_neg hm, if_neg (by omega), if_pos (.inl h4)]) (by decide) _
      · simp only [ge_iff_le, decide_eq_false_iff_not] at h3
        simp only [gt_iff_lt, decide_eq_true_eq] at h5
        exact stay 1 (by unfold insR; rw [if_neg hr, if_neg hm, if_neg (by omega), if_pos (.inr (by omega))]) (by decide) _
      · simp only [ge_iff_le, gt_iff_lt, decide_eq_false_iff_not] at h3 h4 h5
        generalize hh1 : h ++ [AObj.row 63 1 (spliceA [.ptr none] 0 (AV.cells (AV.agg [.ptr none])))] = h1 at J
        have sl3 : ∀ x : AObj, (h1 ++ List.replicate (0 + 1) AObj.hole).set h1.length x = h1 ++ [x] := fun x => by rw [repl1, set_b0]; rfl
        have hole3 : isHole (h1 ++ List.replicate (0 + 1) AObj.hole) h1.length = true := by unfold isHole; rw [repl1, get_b0]; rfl
        obtain ⟨j, rfl⟩ : ∃ j : Nat, i = j := ⟨i.toNat, by omega⟩
        have N := new_tr J.b (nd id (0 + 0 + 1 : Nat) none none none)
        have U := Tr.set (k := m) (o := .map (qs.map ent)) (R := (h1.length, nd id (0 + 0 + 1 : Nat) none none none) :: rW t m lk T) N.b (by unfold rA rW; exact (perm_of fun a => by simp only [cnt_cons, cnt_append, cnt_nil, pt_nil, rT, rTs, rC, rZ, pt_node, Fr.row, upC_cons, upC_nil, TT.n, Bool.false_eq_true, if_false, if_true]; omega)) (.map ((qs ++ [(h1.length, id)]).map ent))
        have M2 : Maps _ ((rW t m lk T ++ [xrow h1.length id]) ++ [(m, .map ((qs ++ [(h1.length, id)]).map ent))]) := U.b.perm (by unfold xrow rW; exact (perm_of fun a => by simp only [cnt_cons, cnt_append, cnt_nil, pt_nil, rT, rTs, rC, rZ, pt_node, Fr.row, upC_cons, upC_nil, TT.n, Bool.false_eq_true, if_false, if_true]; omega))
        have rt := N.b.row t _ (List.mem_cons_of_mem _ (List.mem_append_left _ List.mem_cons_self))
        have rm := N.b.row m _ (List.mem_cons_of_mem _ (List.mem_append_right _ List.mem_cons_self))
        refine chkI hole3 ?_
        simp only [sl3]
        refine ⟨m, fld rt rfl, _, _, rm, put_new hm2, put_can (by omega) (by omega) M2.left, fun _ h3' hp => ?_⟩
        obtain ⟨lk2, T3⟩ := hp t m lk T h1.length id j rfl (by omega) (by omega) M2.left
        have eR : insR T.ids (j : Int) id = (0, T.ids.take j ++ id :: T.ids.drop j) := by
          unfold insR; rw [if_neg hr, if_neg hm, if_neg (by omega), if_neg (by omega)]; simp
        refine ⟨0, rfl, by rw [eR], insF j T h1.length id, lk2, qs ++ [(h1.length, id)], g.ins (by omega) (by omega) (by omega) hm (by omega), by rw [eR]; exact insF_ids (by omega), .inr ⟨h1.length, rfl, by simp⟩, ?_⟩
        exact ((J.trans (N.trans U)).perm (.refl _) (by unfold xrow rW; exact (perm_of fun a => by simp only [cnt_cons, cnt_append, cnt_nil, pt_nil, rT, rTs, rC, rZ, pt_node, Fr.row, upC_cons, upC_nil, TT.n, Bool.false_eq_true, if_false, if_true]; omega))).trans (T3.frame M2)
/-- A tree out of a place and what is around it. -/
def plug : List Fr → TT → TT
  | [], T => T
  | f :: fs, T => plug fs (f.fill T)
theorem plug_pairs : ∀ (ctx : List Fr) (T : TT), (plug ctx T).pairs = pL ctx ++ T.pairs ++ pR ctx
  | [], T => by simp [plug, pL, pR]
  | f :: fs, T => by
    rw [plug, plug_pairs fs, fill_pairs]
    simp [pL, pR]
theorem plug_n : ∀ (ctx : List Fr) (T : TT), (plug ctx T).n = T.n + ctxN ctx
  | [], T => by simp [plug, ctxN]
  | f :: fs, T => by rw [plug, plug_n fs, fill_n, ctxN]; omega
/-- A node's place. -/
theorem zip_of {t m : Nat} : ∀ (T : TT) (ctx : List Fr) {k : Nat} {id : Int}, (k, id) ∈ T.pairs → ∃ ctx' l r, plug ctx' (.node k id l r) = plug ctx T ∧
    ∀ lk, (rC t m lk (some (k, 0)) ctx' ++ rT (upC ctx') (.node k id l r)).Perm (rC t m lk T.pt ctx ++ rT (upC ctx) T)
  | .nil, ctx, k, id, h => by cases h
  | .node k' id' l r, ctx, k, id, h => by
    simp only [TT.pairs, List.mem_append, List.mem_cons, Prod.mk.injEq] at h
    rcases h with h | ⟨rfl, rfl⟩ | h
    · obtain ⟨c, l', r', h1, h2⟩ := zip_of (t := t) (m := m) l (⟨k', id', true, r, (l.n + r.n + 1 : Nat)⟩ :: ctx) h
      refine ⟨c, l', r', h1, fun lk => (h2 lk).trans (perm_of fun a => by simp only [cnt_cons, cnt_append, cnt_nil, pt_nil, rT, rTs, rC, rZ, pt_node, Fr.row, upC_cons, upC_nil, TT.n, Bool.false_eq_true, if_false, if_true]; omega)⟩
    · exact ⟨ctx, l, r, rfl, fun lk => .refl _⟩
    · obtain ⟨c, l', r', h1, h2⟩ := zip_of (t := t) (m := m) r (⟨k', id', false, l, (l.n + r.n + 1 : Nat)⟩ :: ctx) h
      refine ⟨c, l', r', h1, fun lk => (h2 lk).trans (perm_of fun a => by simp only [cnt_cons, cnt_append, cnt_nil, pt_nil, rT, rTs, rC, rZ, pt_node, Fr.row, upC_cons, upC_nil, TT.n, Bool.false_eq_true, if_false, if_true]; omega)⟩
def e28 (t n : Nat) (k : Int) : List AV := envOf 55 [(0, .ptr (some (t, 0))), (1, .ptr (some (n, 0))), (5, .int .i64 k)]
def o28 (k : Int) : List AV := envOf 55 [(5, .int .i64 k)]
def n28 : Tidy := ⟨dropT 55 [0, 1, 5], .all⟩
def x28 : Tidy := ⟨dropT 55 [5], .all⟩
def T28 (t : Nat) (X Y : AHeap → Nat → Int → Prop) (st : St) (K : AExit → St → Prop) : Prop := ∃ H n k, st = (e28 t n k, H) ∧ X H n k ∧ ∀ H' n' k', Y H' n' k' → K (.exit 0) (o28 k', H')
def k28 : List (Nat × K1) := [(9, .ptrV), (14, i64), (21, .ptr), (30, i64), (37, .ptrS), (40, .ptr), (47, .ptrS), (50, .ptrV), (26, .ptrS)]
noncomputable def C28 (t : Nat) (X Y : AHeap → Nat → Int → Prop) : Cfg := { CT tbQ [] k28 with
  lw := fun id => if id = 3 then some (T28 t X Y) else none
  F := fun id => if id = 3 then n28 else ⟨[], .all⟩ }
noncomputable def B28 (b : Nat) : Cfg := { CT tbQ [] k28 with b0 := b }
theorem place_vc (h : AHeap) (t n : Nat) (X Y : AHeap → Nat → Int → Prop) (R : AV → AHeap → Prop) : (∃ (p : Option (Nat × Nat)), (Option.bind (cellsAt h n) fun (x : List AV) => partR none x 3) = some (AV.ptr p) ∧ ∃ (n_1 : Int), TbE.s { f := 27, s := sSize, r := Rs.of (Rs1.one i64) } [AV.ptr p] h = some (AV.int .i64 n_1) ∧ ∃ (n_2 : Int), (Option.bind (cellsAt h t) fun (x : List AV) => partR none x 2) = some (AV.int .i64 n_2) ∧ ∃ (t_1 : TypeId), ∃ (s : Nat), ∃ (cs : List AV), h[t]? = some (AObj.row t_1 s cs) ∧ chkW (decide (3 ≤ List.length cs)) (∃ (H : AHeap), ∃ (n_3 : Nat), ∃ (k : Int), (envOf 55 [(0, AV.ptr (some (t, 0))), (1, AV.ptr (some (n, 0))), (5, AV.int .i64 n_1)], List.set h t (AObj.row t_1 s (spliceA cs 2 (AV.cells (AV.int .i64 (IntKind.wrap .i64 (n_2 + 1))))))) = (envOf 55 [(0, AV.ptr (some (t, 0))), (1, AV.ptr (some (n_3, 0))), (5, AV.int .i64 k)], H) ∧ X H n_3 k ∧ ∀ (H' : AHeap) (n' : Nat) (k' : Int), Y H' n' k' → R (AV.int .i64 k') H')) = (wpF Try.prog (C28 t X Y) 60 p28 [(.ptr (some (t, 0))), (.ptr (some (n, 0)))] h R) := by kernel_rfl
theorem place_body (h : AHeap) (t n : Nat) (k : Int) (b : Nat) (K : AExit → St → Prop) : (∃ (b : Bool), askB b (∃ (k_1 : Nat), ∃ (o : Nat), (Option.bind (cellsAt h n) fun (x : List AV) => partR none x 2) = some (AV.ptr (some (k_1, o))) ∧ ∃ (n_1 : Int), (Option.bind (cellsAt h t) fun (x : List AV) => partR none x 2) = some (AV.int .i64 n_1) ∧ ∃ (t_1 : TypeId), ∃ (s : Nat), ∃ (cs : List AV), h[t]? = some (AObj.row t_1 s cs) ∧ chkW (decide (3 ≤ List.length cs)) (∃ (k_2 : Nat), ∃ (o : Nat), (Option.bind (cellsAt (List.set h t (AObj.row t_1 s (spliceA cs 2 (AV.cells (AV.int .i64 (IntKind.wrap .i64 (n_1 + 1))))))) n) fun (x : List AV) => partR none x 2) = some (AV.ptr (some (k_2, o))) ∧ ∃ (b : Bool), askB b (∃ (k_3 : Nat), ∃ (o_1 : Nat), (Option.bind (cellsAt (List.set h t (AObj.row t_1 s (spliceA cs 2 (AV.cells (AV.int .i64 (IntKind.wrap .i64 (n_1 + 1))))))) k_2) fun (x : List AV) => partR none x (o + 4)) = some (AV.ptr (some (k_3, o_1))) ∧ askB (decide (k_3 = n)) (askB (decide (o_1 = 0)) (∃ (k_4 : Nat), ∃ (o : Nat), (Option.bind (cellsAt (List.set h t (AObj.row t_1 s (spliceA cs 2 (AV.cells (AV.int .i64 (IntKind.wrap .i64 (n_1 + 1))))))) n) fun (x : List AV) => partR none x 2) = some (AV.ptr (some (k_4, o))) ∧ ∃ (p : Option (Nat × Nat)), (Option.bind (cellsAt (List.set h t (AObj.row t_1 s (spliceA cs 2 (AV.cells (AV.int .i64 (IntKind.wrap .i64 (n_1 + 1))))))) k_4) fun (x : List AV) => partR none x (o + 3)) = some (AV.ptr p) ∧ ∃ (n_2 : Int), TbE.s { f := 27, s := sSize, r := Rs.of (Rs1.one i64) } [AV.ptr p] (List.set h t (AObj.row t_1 s (spliceA cs 2 (AV.cells (AV.int .i64 (IntKind.wrap .i64 (n_1 + 1))))))) = some (AV.int .i64 n_2) ∧ ∃ (k_5 : Nat), ∃ (o : Nat), (Option.bind (cellsAt (List.set h t (AObj.row t_1 s (spliceA cs 2 (AV.cells (AV.int .i64 (IntKind.wrap .i64 (n_1 + 1))))))) n) fun (x : List AV) => partR none x 2) = some (AV.ptr (some (k_5, o))) ∧ K AExit.normal (envOf 55 [(0, AV.ptr (some (t, 0))), (1, AV.ptr (some (k_5, o))), (5, AV.int .i64 (IntKind.wrap .i64 (k + IntKind.wrap .i64 (n_2 + 1))))], List.set h t (AObj.row t_1 s (spliceA cs 2 (AV.cells (AV.int .i64 (IntKind.wrap .i64 (n_1 + 1)))))))) (∃ (k_4 : Nat), ∃ (o : Nat), (Option.bind (cellsAt (List.set h t (AObj.row t_1 s (spliceA cs 2 (AV.cells (AV.int .i64 (IntKind.wrap .i64 (n_1 + 1))))))) n) fun (x : List AV) => partR none x 2) = some (AV.ptr (some (k_4, o))) ∧ K AExit.normal (envOf 55 [(0, AV.ptr (some (t, 0))), (1, AV.ptr (some (k_4, o))), (5, AV.int .i64 k)], List.set h t (AObj.row t_1 s (spliceA cs 2 (AV.cells (AV.int .i64 (IntKind.wrap .i64 (n_1 + 1))))))))) (chkW (ownRow (List.set h t (AObj.row t_1 s (spliceA cs 2 (AV.cells (AV.int .i64 (IntKind.wrap .i64 (n_1 + 1))))))) k_3 && ownRow (List.set h t (AObj.row t_1 s (spliceA cs 2 (AV.cells (AV.int .i64 (IntKind.wrap .i64 (n_1 + 1))))))) n) (∃ (k_4 : Nat), ∃ (o : Nat), (Option.bind (cellsAt (List.set h t (AObj.row t_1 s (spliceA cs 2 (AV.cells (AV.int .i64 (IntKind.wrap .i64 (n_1 + 1))))))) n) fun (x : List AV) => partR none x 2) = some (AV.ptr (some (k_4, o))) ∧ K AExit.normal (envOf 55 [(0, AV.ptr (some (t, 0))), (1, AV.ptr (some (k_4, o))), (5, AV.int .i64 k)], List.set h t (AObj.row t_1 s (spliceA cs 2 (AV.cells (AV.int .i64 (IntKind.wrap .i64 (n_1 + 1)))))))))) ((Option.bind (cellsAt (List.set h t (AObj.row t_1 s (spliceA cs 2 (AV.cells (AV.int .i64 (IntKind.wrap .i64 (n_1 + 1))))))) k_2) fun (x : List AV) => partR none x (o + 4)) = some (AV.ptr none) ∧ ∃ (k_3 : Nat), ∃ (o : Nat), (Option.bind (cellsAt (List.set h t (AObj.row t_1 s (spliceA cs 2 (AV.cells (AV.int .i64 (IntKind.wrap .i64 (n_1 + 1))))))) n) fun (x : List AV) => partR none x 2) = some (AV.ptr (some (k_3, o))) ∧ K AExit.normal (envOf 55 [(0, AV.ptr (some (t, 0))), (1, AV.ptr (some (k_3, o))), (5, AV.int .i64 k)], List.set h t (AObj.row t_1 s (spliceA cs 2 (AV.cells (AV.int .i64 (IntKind.wrap .i64 (n_1 + 1)))))))))) ((Option.bind (cellsAt h n) fun (x : List AV) => partR none x 2) = some (AV.ptr none) ∧ K (AExit.exit 0) (envOf 55 [(5, AV.int .i64 k)], h))) = (wpP Try.prog (B28 b) 40 (.inl p28_l0) (e28 t n k, h) (postW (B28 b) n28 x28 K)) := by kernel_rfl
def P28 (vs : List AV) (h : AHeap) (c : Int) (h' : AHeap) : Prop := ∀ t m lk ctx sz k id l r, vs = [.ptr (some (t, 0)), .ptr (some (k, 0))] → l.n + ctxN ctx ≤ 900000 → Maps h (rZ t m lk ctx sz (.node k id l r)) →
  c = ((pL ctx).length + l.n : Nat) ∧ ∃ lk', Tr h h' (rZ t m lk ctx sz (.node k id l r)) (rZ t m lk' ctx sz (.node k id l r))
theorem pL_le : ∀ ctx : List Fr, (pL ctx).length ≤ ctxN ctx
  | [] => Nat.le_refl _
  | f :: fs => by
    have := pL_le fs
    simp only [pL, ctxN, List.length_append]
    cases f.left <;> simp [TT.pairs_n] <;> omega
theorem own2 {h : AHeap} {a b : Nat} {t t' : TypeId} {s s' : Nat} {cs cs' : List AV} (ha : h[a]? = some (.row t s cs)) (hb : h[b]? = some (.row t' s' cs')) : (ownRow h a && ownRow h b) = true := by rw [own_at ha, own_at hb]; rfl
/-- Under way upwards: all rows, as they lie about the place where it is. -/
def J28 (t m : Nat) (L : Int → Rws) (c0 : Nat) (h0 : AHeap) (L0 : Rws) (s : AHeap × Nat × Int × Nat) : Prop :=
  ∃ lk suf Rn idn szn ln rn, (∀ lk, (L lk).Perm (rC t m lk (some (s.2.1, 0)) suf ++ ((s.2.1, nd idn szn (upC suf) ln rn) :: Rn))) ∧ s.2.2.1 + ((pL suf).length : Nat) = (c0 : Int) ∧ 0 ≤ s.2.2.1 ∧ s.2.2.2 = suf.length ∧ Tr h0 s.1 L0 (L lk)
theorem place_loop {t m : Nat} {L : Int → Rws} {c0 : Nat} {h0 : AHeap} {L0 : Rws} {b : Nat} (hc0 : c0 ≤ 1000000) (s : AHeap × Nat × Int × Nat) (hs : J28 t m L c0 h0 L0 s) :
    W Try.prog (B28 b).S b (.inl (.loop p28_l0)) (e28 t s.2.1 s.2.2.1, s.1) fun e st => e = .exit 0 ∧ ∃ H lk, st = (o28 c0, H) ∧ Tr h0 H L0 (L lk) := by
  refine W_rounds (C := B28 b) (CU_cw (ks := []) tabsQ) (a := p28_l0) (no_parts rfl) (fun s : AHeap × Nat × Int × Nat => (e28 t s.2.1 s.2.2.1, s.1)) (J28 t m L c0 h0 L0) (fun s => s.2.2.2) (fun _ e st => e = .exit 0 ∧ ∃ H lk, st = (o28 c0, H) ∧ Tr h0 H L0 (L lk)) n28 x28 ?_ s hs
  rintro ⟨h, n, k, mm⟩ ⟨lk, suf, Rn, idn, szn, ln, rn, hp, hk, hk0, rfl, hT⟩
  refine ⟨40, ?_⟩
  dsimp only at hp hk hk0 hT ⊢
  rw [← place_body]
  have M := hT.b.perm (hp lk)
  have rN := M.row n _ (List.mem_append_right _ List.mem_cons_self)
  cases suf with
  | nil =>
    simp only [pL, List.length_nil] at hk
    refine ⟨false, fld rN rfl, rfl, h, lk, ?_, hT⟩
    have : k = c0 := by omega
    rw [this]
    rfl
  | cons f fs =>
    obtain ⟨fk, fid, fl, fsb, fz⟩ := f
    obtain ⟨p0, ht, hl⟩ := look_tr (F := (n, nd idn szn (upC ((⟨fk, fid, fl, fsb, fz⟩ : Fr) :: fs)) ln rn) :: Rn) M
    have T1 := hl (IntKind.wrap .i64 (lk + 1))
    have TT1 : Tr h0 (h.set t (trow p0 m (IntKind.wrap .i64 (lk + 1)))) L0 (L (IntKind.wrap .i64 (lk + 1))) := hT.trans (T1.perm (hp lk).symm (hp _).symm)
    have M1 := T1.b
    have rN1 := M1.row n _ (List.mem_append_right _ List.mem_cons_self)
    have rF := M1.row fk _ (List.mem_append_left _ List.mem_cons_self)
    have hsib : ∀ x ∈ rT (some (fk, 0)) fsb, (h.set t (trow p0 m (IntKind.wrap .i64 (lk + 1))))[x.1]? = some x.2 := fun x hx => M1.row x.1 x.2 (List.mem_append_left _ (List.mem_cons_of_mem _ (List.mem_append_left _ hx)))
    have hnew : ∀ lk, (L lk).Perm (rC t m lk (some (fk, 0)) fs ++ ((fk, nd fid fz (upC fs) (if fl then some (n, 0) else fsb.pt) (if fl then fsb.pt else some (n, 0))) :: (rT (some (fk, 0)) fsb ++ ((n, nd idn szn (upC ((⟨fk, fid, fl, fsb, fz⟩ : Fr) :: fs)) ln rn) :: Rn)))) := fun lk => (hp lk).trans (by
      refine perm_of fun a => ?_
      simp only [cnt_cons, cnt_append, rC, Fr.row]
      omega)
    refine ⟨true, fk, 0, fld rN rfl, lk, fld ht rfl, 58, 3, _, ht, chkI rfl ⟨fk, 0, fld rN1 rfl, ?_⟩⟩
    cases fl with
    | false =>
      simp only [pL, Bool.false_eq_true, if_false, List.length_append, List.length_cons, List.length_nil, TT.pairs_n] at hk
      have sz := size_at hsib
      have ew : IntKind.wrap .i64 (k + IntKind.wrap .i64 (((fsb.n : Nat) : Int) + 1)) = k + ((fsb.n : Nat) : Int) + 1 := by
        rw [wrap_small (n := ((fsb.n : Nat) : Int) + 1) (by omega) (by omega), wrap_small (by omega) (by omega)]; omega
      refine ⟨true, n, 0, fld rF rfl, askT (by simp) (askT (by simp) ⟨fk, 0, fld rN1 rfl, fsb.pt, fld rF rfl, _, sz, fk, 0, fld rN1 rfl, ?_⟩)⟩
      rw [ew]
      refine ⟨(_, fk, k + ((fsb.n : Nat) : Int) + 1, fs.length), rfl, ⟨_, fs, _, fid, fz, _, _, hnew, ?_, ?_, rfl, TT1⟩, by simp, fun _ _ h => h⟩
      · dsimp only; omega
      · dsimp only; omega
    | true =>
      simp only [pL, if_true, List.append_nil] at hk
      have fin : J28 t m L c0 h0 L0 (h.set t (trow p0 m (IntKind.wrap .i64 (lk + 1))), fk, k, fs.length) := ⟨_, fs, _, fid, fz, _, _, hnew, hk, hk0, rfl, TT1⟩
      cases fsb with
      | nil => exact ⟨false, fld rF rfl, fk, 0, fld rN1 rfl, ⟨(_, fk, k, fs.length), rfl, fin, by simp, fun _ _ h => h⟩⟩
      | node b bid bl br =>
        have rb := hsib _ List.mem_cons_self
        have hb : b ≠ n := fun e => by
          subst e
          have := M1.nd
          rw [keys_append, List.nodup_append] at this
          exact this.2.2 b (by simp [rC, rT, keys]) b (by simp [keys]) rfl
        exact ⟨true, b, 0, fld rF rfl, askF (by simp [hb]) (chkI (own2 rb rN1) ⟨fk, 0, fld rN1 rfl, ⟨(_, fk, k, fs.length), rfl, fin, by simp, fun _ _ h => h⟩⟩)⟩
theorem place_can {h : AHeap} {t m : Nat} {lk : Int} {ctx : List Fr} {sz : Int} {k : Nat} {id : Int} {l r : TT} (hb : l.n + ctxN ctx ≤ 900000) (hM : Maps h (rZ t m lk ctx sz (.node k id l r))) : ComesTo Try.prog 28 VI P28 [.ptr (some (t, 0)), .ptr (some (k, 0))] h := by
  suffices hs : ∃ v h', (v = AV.int .i64 ((pL ctx).length + l.n : Nat) ∧ ∃ lk', Tr h h' (rZ t m lk ctx sz (.node k id l r)) (rZ t m lk' ctx sz (.node k id l r))) ∧ CallSem Try.prog 28 [.ptr (some (t, 0)), .ptr (some (k, 0))] h v h' by
    obtain ⟨v, h', ⟨rfl, ht⟩, hs⟩ := hs
    refine ⟨_, h', fun t' m' lk' ctx' sz' k' id' l' r' e hb' hM' => ?_, hs⟩
    simp only [List.cons.injEq, AV.ptr.injEq, Option.some.injEq, Prod.mk.injEq, and_true] at e
    obtain ⟨rfl, rfl⟩ := e
    obtain ⟨rfl, rfl, rfl, rfl, e⟩ := zip_one hM hM' rfl (by simp [TT.pt])
    simp only [TT.node.injEq, true_and] at e
    obtain ⟨rfl, rfl, rfl⟩ := e
    exact ⟨rfl, ht⟩
  have hpl := pL_le ctx
  have r0 := hM.row k _ (List.mem_append_right _ List.mem_cons_self)
  have s1 := size_at (u := some (k, 0)) (T := l) fun x hx => hM.row x.1 x.2 (List.mem_append_right _ (List.mem_cons_of_mem _ (List.mem_append_left _ hx)))
  obtain ⟨p0, ht, hl⟩ := look_tr hM
  have T1 := hl (IntKind.wrap .i64 (lk + 1))
  refine sem_vc mixed (C := C28 t (fun H n k' => ∃ mm, J28 t m (fun lk => rZ t m lk ctx sz (.node k id l r)) ((pL ctx).length + l.n) h (rZ t m lk ctx sz (.node k id l r)) (H, n, k', mm)) (fun H n k' => k' = ((pL ctx).length + l.n : Nat) ∧ ∃ lk', Tr h H (rZ t m lk ctx sz (.node k id l r)) (rZ t m lk' ctx sz (.node k id l r)))) (SU_ok tabsQ) (CU_q (ks := [])) (CU_cw (ks := []) tabsQ) ht28 c28 ?_ (place_vc h t k _ _ _) ?_
  · refine one_part rfl (part_loop (id := 3) rfl rfl fun st K hT => ?_)
    obtain ⟨H, n, k', rfl, ⟨mm, hJ⟩, hk⟩ := hT
    refine W_mono (place_loop (by omega) _ hJ) fun e st hq => ?_
    obtain ⟨rfl, H', lk', rfl, hY⟩ := hq
    exact hk H' 0 _ ⟨rfl, lk', hY⟩
  · refine ⟨l.pt, fld r0 rfl, _, s1, lk, fld ht rfl, 58, 3, _, ht, chkI rfl ⟨_, k, _, rfl, ⟨ctx.length, _, ctx, rT (some (k, 0)) l ++ rT (some (k, 0)) r, id, sz, l.pt, r.pt, fun lk => .refl _, ?_, ?_, rfl, T1⟩, fun H' n' k' hY => ?_⟩⟩
    · dsimp only; omega
    · dsimp only; omega
    · obtain ⟨rfl, hY⟩ := hY
      exact ⟨rfl, hY⟩

end Go.Proofs.Ytncmgbbbekabdaa
