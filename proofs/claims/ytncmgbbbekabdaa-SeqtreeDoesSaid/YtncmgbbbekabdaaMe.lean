/- Written by merging: Ta Tb Tc Td. -/
import Derived.Test.YtncmgbbbekabdaaMc
namespace Go.Proofs.Ytncmgbbbekabdaa
open Go Go.Am Go.RowKit
set_option maxRecDepth 100000
set_option linter.unusedVariables false
set_option linter.unusedSimpArgs false

abbrev Rws := List (Nat × AObj)
def keys (L : Rws) : List Nat := L.map (·.1)
theorem keys_append (A B : Rws) : keys (A ++ B) = keys A ++ keys B := by simp [keys]
theorem keys_cons (x : Nat × AObj) (B : Rws) : keys (x :: B) = x.1 :: keys B := rfl
theorem mem_keys {L : Rws} {k : Nat} {o : AObj} (h : (k, o) ∈ L) : k ∈ keys L := List.mem_map.2 ⟨_, h, rfl⟩
open Classical in
noncomputable def one (a x : Nat × AObj) : Nat := if x = a then 1 else 0
noncomputable def cnt (a : Nat × AObj) : Rws → Nat
  | [] => 0
  | x :: l => one a x + cnt a l
theorem cnt_nil (a : Nat × AObj) : cnt a [] = 0 := rfl
theorem cnt_cons (a x : Nat × AObj) (l : Rws) : cnt a (x :: l) = one a x + cnt a l := rfl
theorem cnt_append (a : Nat × AObj) : ∀ l r : Rws, cnt a (l ++ r) = cnt a l + cnt a r
  | [], r => by simp [cnt]
  | x :: l, r => by rw [List.cons_append, cnt_cons, cnt_cons, cnt_append a l r, Nat.add_assoc]
theorem cnt_mem {a : Nat × AObj} : ∀ {l : Rws}, 0 < cnt a l → a ∈ l
  | [], h => by simp [cnt] at h
  | x :: l, h => by
    rw [cnt_cons] at h
    by_cases hx : x = a
    · subst hx; exact List.mem_cons_self
    · have : one a x = 0 := by unfold one; rw [if_neg hx]
      exact List.mem_cons_of_mem _ (cnt_mem (by omega))
theorem cnt_perm {l l' : Rws} (h : l.Perm l') (a : Nat × AObj) : cnt a l = cnt a l' := by
  induction h with
  | nil => rfl
  | cons x _ ih => rw [cnt_cons, cnt_cons, ih]
  | swap x y l => simp only [cnt_cons]; omega
  | trans _ _ i1 i2 => exact i1.trans i2
theorem perm_of : ∀ {l l' : Rws}, (∀ a, cnt a l = cnt a l') → l.Perm l'
  | [], [], _ => .refl _
  | [], x :: l', h => by
    have := h x
    rw [cnt_nil, cnt_cons] at this
    have : one x x = 1 := by unfold one; rw [if_pos rfl]
    omega
  | x :: l, l', h => by
    have h1 := h x
    rw [cnt_cons] at h1
    have h2 : one x x = 1 := by unfold one; rw [if_pos rfl]
    have hm : x ∈ l' := cnt_mem (by omega)
    obtain ⟨a, b, rfl⟩ := List.append_of_mem hm
    refine (List.Perm.cons x (perm_of (l' := a ++ b) fun y => ?_)).trans List.perm_middle.symm
    have h3 := h y
    rw [cnt_cons, cnt_append, cnt_cons] at h3
    rw [cnt_append]
    omega
structure Maps (h : AHeap) (L : Rws) : Prop where
  nd : (keys L).Nodup
  row : ∀ k o, (k, o) ∈ L → h[k]? = some o
theorem Maps.perm {h : AHeap} {L L' : Rws} (hM : Maps h L) (hp : L.Perm L') : Maps h L' :=
  ⟨(hp.map _).nodup_iff.1 hM.nd, fun k o hk => hM.row k o (hp.mem_iff.2 hk)⟩
theorem Maps.left {h : AHeap} {A B : Rws} (hM : Maps h (A ++ B)) : Maps h A :=
  ⟨by have := hM.nd; rw [keys_append, List.nodup_append] at this; exact this.1, fun k o hk => hM.row k o (List.mem_append_left _ hk)⟩
theorem Maps.right {h : AHeap} {A B : Rws} (hM : Maps h (A ++ B)) : Maps h B :=
  ⟨by have := hM.nd; rw [keys_append, List.nodup_append] at this; exact this.2.1, fun k o hk => hM.row k o (List.mem_append_right _ hk)⟩
theorem Maps.lt {h : AHeap} {L : Rws} (hM : Maps h L) {k : Nat} (hk : k ∈ keys L) : k < h.length := by
  obtain ⟨⟨k', o⟩, h1, rfl⟩ := List.mem_map.1 hk
  exact lt_of_row (hM.row _ _ h1)
theorem Maps.set {h : AHeap} {k : Nat} {o : AObj} {R : Rws} (hM : Maps h ((k, o) :: R)) (o' : AObj) : Maps (h.set k o') ((k, o') :: R) := by
  have hn := hM.nd
  rw [keys_cons, List.nodup_cons] at hn
  refine ⟨by rw [keys_cons, List.nodup_cons]; exact hn, fun j x hx => ?_⟩
  rcases List.mem_cons.1 hx with he | hx
  · cases he
    exact List.getElem?_set_self (hM.lt (by rw [keys_cons]; exact List.mem_cons_self))
  · have : k ≠ j := fun e => by subst e; exact hn.1 (mem_keys hx)
    rw [List.getElem?_set_ne this]
    exact hM.row j x (List.mem_cons_of_mem _ hx)
theorem Maps.grow {h h' : AHeap} {L : Rws} (hM : Maps h L) (hg : Grow h h') : Maps h' L := ⟨hM.nd, fun k o hk => hg k o (hM.row k o hk)⟩
/-- From rows to rows; all other rows stay. -/
structure Tr (h h' : AHeap) (L L' : Rws) : Prop where
  a : Maps h L
  b : Maps h' L'
  c : ∀ j ∈ keys L', j ∈ keys L ∨ h.length ≤ j
  d : ∀ (j : Nat) (o : AObj), h[j]? = some o → j ∉ keys L → h'[j]? = some o
  e : h.length ≤ h'.length
theorem Tr.refl {h : AHeap} {L : Rws} (hM : Maps h L) : Tr h h L L := ⟨hM, hM, fun _ h => .inl h, fun _ _ h _ => h, Nat.le_refl _⟩
theorem keys_perm {L L' : Rws} (hp : L.Perm L') {j : Nat} : j ∈ keys L ↔ j ∈ keys L' := (hp.map _).mem_iff
theorem Tr.perm {h h' : AHeap} {L L' M M' : Rws} (ht : Tr h h' L L') (h1 : L.Perm M) (h2 : L'.Perm M') : Tr h h' M M' :=
  ⟨ht.a.perm h1, ht.b.perm h2, fun j hj => (ht.c j ((keys_perm h2).2 hj)).imp_left (keys_perm h1).1, fun j o ho hn => ht.d j o ho fun hj => hn ((keys_perm h1).1 hj), ht.e⟩
theorem Tr.trans {a b c : AHeap} {L M N : Rws} (h1 : Tr a b L M) (h2 : Tr b c M N) : Tr a c L N :=
  ⟨h1.a, h2.b, fun j hj => by
    rcases h2.c j hj with g | g
    · exact h1.c j g
    · right; have := h1.e; omega, fun j o ho hn => h2.d j o (h1.d j o ho hn) fun hj => by
      rcases h1.c j hj with g | g
      · exact hn g
      · have := lt_of_row ho; omega, Nat.le_trans h1.e h2.e⟩
theorem Tr.frame {h h' : AHeap} {L L' F : Rws} (ht : Tr h h' L L') (hM : Maps h (L ++ F)) : Tr h h' (L ++ F) (L' ++ F) := by
  have hn := hM.nd
  rw [keys_append, List.nodup_append] at hn
  refine ⟨hM, ⟨?_, fun k o hk => ?_⟩, fun j hj => ?_, fun j o ho hn' => ht.d j o ho fun hj => hn' (by rw [keys_append]; exact List.mem_append_left _ hj), ht.e⟩
  · rw [keys_append, List.nodup_append]
    refine ⟨ht.b.nd, hn.2.1, fun x hx y hy e => ?_⟩
    subst e
    rcases ht.c x hx with g | g
    · exact hn.2.2 x g x hy rfl
    · have := hM.right.lt hy; omega
  · rcases List.mem_append.1 hk with hk | hk
    · exact ht.b.row k o hk
    · exact ht.d k o (hM.row k o (List.mem_append_right _ hk)) fun hj => hn.2.2 k hj k (mem_keys hk) rfl
  · rw [keys_append, List.mem_append] at hj
    rcases hj with hj | hj
    · exact (ht.c j hj).imp_left fun g => by rw [keys_append]; exact List.mem_append_left _ g
    · exact .inl (by rw [keys_append]; exact List.mem_append_right _ hj)
theorem Tr.use {h h' : AHeap} {L L' M M' : Rws} (F : Rws) (ht : Tr h h' L L') (hM : Maps h M) (h1 : M.Perm (L ++ F)) (h2 : (L' ++ F).Perm M') : Tr h h' M M' :=
  (ht.frame (hM.perm h1)).perm h1.symm h2
theorem Tr.set {h : AHeap} {k : Nat} {o : AObj} {R M : Rws} (hM : Maps h M) (h1 : M.Perm ((k, o) :: R)) (o' : AObj) : Tr h (h.set k o') M ((k, o') :: R) := by
  have hM1 := hM.perm h1
  refine ⟨hM, hM1.set o', fun j hj => .inl ((keys_perm h1).2 hj), fun j x hx hn => ?_, by simp⟩
  have : k ≠ j := fun e => by subst e; exact hn ((keys_perm h1).2 (by rw [keys_cons]; exact List.mem_cons_self))
  rw [List.getElem?_set_ne this]; exact hx
def TT.pt : TT → Option (Nat × Nat)
  | .nil => none
  | .node k _ _ _ => some (k, 0)
theorem pt_node (k : Nat) (id : Int) (l r : TT) : (TT.node k id l r).pt = some (k, 0) := rfl
theorem pt_nil : TT.nil.pt = none := rfl
theorem TT.av_pt : ∀ T : TT, T.av = .ptr T.pt
  | .nil => rfl
  | .node .. => rfl
def TT.n : TT → Nat
  | .nil => 0
  | .node _ _ l r => l.n + r.n + 1
theorem TT.n_ids : ∀ T : TT, T.ids.length = T.n
  | .nil => rfl
  | .node k id l r => by simp only [TT.ids, List.length_append, List.length_cons, TT.n_ids l, TT.n_ids r, TT.n]; omega
abbrev Pt := Option (Nat × Nat)
def nd (id sz : Int) (up l r : Pt) : AObj := .row 66 5 [.int .i64 id, .int .i64 sz, .ptr up, .ptr l, .ptr r]
/-- A tree's rows. -/
def rT : Pt → TT → Rws
  | _, .nil => []
  | up, .node k id l r => (k, nd id (l.n + r.n + 1 : Nat) up l.pt r.pt) :: (rT (some (k, 0)) l ++ rT (some (k, 0)) r)
/-- The same, with another size at its top. -/
def rTs (sz : Int) : Pt → TT → Rws
  | _, .nil => []
  | up, .node k id l r => (k, nd id sz up l.pt r.pt) :: (rT (some (k, 0)) l ++ rT (some (k, 0)) r)
theorem rTs_n (up : Pt) (T : TT) : rTs (T.n : Nat) up T = rT up T := by cases T <;> rfl
/-- A node above the place that is looked at. -/
structure Fr where
  k : Nat
  id : Int
  left : Bool
  sib : TT
  sz : Int
def upC : List Fr → Pt
  | [] => none
  | f :: _ => some (f.k, 0)
theorem upC_nil : upC [] = none := rfl
theorem upC_cons (f : Fr) (fs : List Fr) : upC (f :: fs) = some (f.k, 0) := rfl
def Fr.row (f : Fr) (up p : Pt) : AObj := nd f.id f.sz up (if f.left then p else f.sib.pt) (if f.left then f.sib.pt else p)
def trow (p : Pt) (m : Nat) (lk : Int) : AObj := .row 58 3 [.ptr p, .map (some m), .int .i64 lk]
/-- What is around a place: the tree's own row; the nodes above, with what hangs at their other side. -/
def rC (t m : Nat) (lk : Int) : Pt → List Fr → Rws
  | p, [] => [(t, trow p m lk)]
  | p, f :: fs => (f.k, f.row (upC fs) p) :: (rT (some (f.k, 0)) f.sib ++ rC t m lk (some (f.k, 0)) fs)
def Fr.fill (f : Fr) (T : TT) : TT := if f.left then .node f.k f.id T f.sib else .node f.k f.id f.sib T
/-- A place in a tree, with what is around it. -/
def rZ (t m : Nat) (lk : Int) (ctx : List Fr) (sz : Int) (T : TT) : Rws := rC t m lk T.pt ctx ++ rTs sz (upC ctx) T
theorem rT_one {h : AHeap} : ∀ {T T' : TT} {u u' : Pt}, (∀ x ∈ rT u T, h[x.1]? = some x.2) → (∀ x ∈ rT u' T', h[x.1]? = some x.2) → T.pt = T'.pt → T = T' ∧ rT u T = rT u' T'
  | .nil, .nil, _, _, _, _, _ => ⟨rfl, rfl⟩
  | .nil, .node .., _, _, _, _, e => by cases e
  | .node .., .nil, _, _, _, _, e => by cases e
  | .node k id l r, .node k' id' l' r', u, u', h1, h2, e => by
    simp only [TT.pt, Option.some.injEq, Prod.mk.injEq, and_true] at e
    subst e
    have g1 := h1 _ List.mem_cons_self
    have g2 := h2 _ List.mem_cons_self
    rw [g1] at g2
    simp only [nd, Option.some.injEq, AObj.row.injEq, true_and, List.cons.injEq, AV.int.injEq, AV.ptr.injEq, and_true] at g2
    obtain ⟨rfl, -, rfl, e1, e2⟩ := g2
    obtain ⟨rfl, _⟩ := rT_one (T := l) (T' := l') (fun x hx => h1 x (List.mem_cons_of_mem _ (List.mem_append_left _ hx))) (fun x hx => h2 x (List.mem_cons_of_mem _ (List.mem_append_left _ hx))) e1
    obtain ⟨rfl, _⟩ := rT_one (T := r) (T' := r') (fun x hx => h1 x (List.mem_cons_of_mem _ (List.mem_append_right _ hx))) (fun x hx => h2 x (List.mem_cons_of_mem _ (List.mem_append_right _ hx))) e2
    exact ⟨rfl, rfl⟩
theorem rT_pt {u : Pt} {T : TT} {k : Nat} (h : T.pt = some (k, 0)) : k ∈ keys (rT u T) := by
  cases T with
  | nil => cases h
  | node k' id l r =>
    simp only [TT.pt, Option.some.injEq, Prod.mk.injEq, and_true] at h
    subst h
    exact List.mem_cons_self
theorem rC_one {h : AHeap} {t : Nat} : ∀ {ctx ctx' : List Fr} {k m m' : Nat} {lk lk' : Int}, Maps h (rC t m lk (some (k, 0)) ctx) → Maps h (rC t m' lk' (some (k, 0)) ctx') → k ∉ keys (rC t m lk (some (k, 0)) ctx) → k ∉ keys (rC t m' lk' (some (k, 0)) ctx') → upC ctx = upC ctx' → ctx = ctx' ∧ m = m' ∧ lk = lk'
  | [], [], k, m, m', lk, lk', h1, h2, _, _, _ => by
    have g1 := h1.row t _ List.mem_cons_self
    have g2 := h2.row t _ List.mem_cons_self
    rw [g1] at g2
    simp only [trow, Option.some.injEq, AObj.row.injEq, true_and, List.cons.injEq, AV.map.injEq, AV.int.injEq, and_true] at g2
    exact ⟨rfl, g2.1, g2.2⟩
  | [], _ :: _, _, _, _, _, _, _, _, _, _, e => by cases e
  | _ :: _, [], _, _, _, _, _, _, _, _, _, e => by cases e
  | f :: fs, f' :: fs', k, m, m', lk, lk', h1, h2, n1, n2, e => by
    obtain ⟨fk, fid, fl, fs1, fz⟩ := f
    obtain ⟨fk', fid', fl', fs1', fz'⟩ := f'
    simp only [upC, Option.some.injEq, Prod.mk.injEq, and_true] at e
    subst e
    have g1 := h1.row fk _ List.mem_cons_self
    have g2 := h2.row fk _ List.mem_cons_self
    rw [g1] at g2
    simp only [Fr.row, nd, Option.some.injEq, AObj.row.injEq, true_and, List.cons.injEq, AV.int.injEq, AV.ptr.injEq, and_true] at g2
    obtain ⟨rfl, rfl, eu, e1, e2⟩ := g2
    simp only [rC] at h1 h2 n1 n2
    rw [keys_cons, keys_append, List.mem_cons, List.mem_append, not_or, not_or] at n1 n2
    have hT1 : ∀ x ∈ rT (some (fk, 0)) fs1, h[x.1]? = some x.2 := fun x hx => h1.row x.1 x.2 (List.mem_cons_of_mem _ (List.mem_append_left _ hx))
    have hT2 : ∀ x ∈ rT (some (fk, 0)) fs1', h[x.1]? = some x.2 := fun x hx => h2.row x.1 x.2 (List.mem_cons_of_mem _ (List.mem_append_left _ hx))
    have hs : fl = fl' ∧ fs1.pt = fs1'.pt := by
      cases fl <;> cases fl' <;> simp only [if_true, Bool.false_eq_true, if_false] at e1 e2
      · exact ⟨rfl, e1⟩
      · exact absurd (rT_pt e1) n1.2.1
      · exact absurd (rT_pt e2) n1.2.1
      · exact ⟨rfl, e2⟩
    obtain ⟨rfl, hp⟩ := hs
    obtain ⟨rfl, _⟩ := rT_one hT1 hT2 hp
    have hm1 : Maps h (rC t m lk (some (fk, 0)) fs) := (Maps.right (A := [_]) h1).right
    have hm2 : Maps h (rC t m' lk' (some (fk, 0)) fs') := (Maps.right (A := [_]) h2).right
    have q1 := h1.nd
    have q2 := h2.nd
    rw [keys_cons, keys_append, List.nodup_cons, List.mem_append, not_or] at q1 q2
    obtain ⟨rfl, rfl, rfl⟩ := rC_one hm1 hm2 q1.1.2 q2.1.2 eu
    exact ⟨rfl, rfl, rfl⟩
/-- What reads a tree. -/
noncomputable def tbQ : List TbE := [⟨24, sNone, .of (.one .bool)⟩, ⟨27, sSize, .of (.one i64)⟩, ⟨40, sWeight, .of (.one i64)⟩, ⟨10, sLen, .of (.one i64)⟩]
theorem joins_nn (h : AHeap) (n : Nat) (R : AV → AHeap → Prop) : (∃ (t : TypeId), ∃ (s : Nat), ∃ (cs : List AV), h[n]? = some (AObj.row t s cs) ∧ chkW (decide (4 ≤ List.length cs)) (∃ (t_1 : TypeId), ∃ (s_1 : Nat), ∃ (cs_1 : List AV), (List.set h n (AObj.row t s (spliceA cs 3 (AV.cells (AV.ptr none)))))[n]? = some (AObj.row t_1 s_1 cs_1) ∧ chkW (decide (5 ≤ List.length cs_1)) (∃ (n_1 : Int), some (AV.int .i64 0) = some (AV.int .i64 n_1) ∧ ∃ (n_2 : Int), some (AV.int .i64 0) = some (AV.int .i64 n_2) ∧ ∃ (t_2 : TypeId), ∃ (s_2 : Nat), ∃ (cs_2 : List AV), (List.set (List.set h n (AObj.row t s (spliceA cs 3 (AV.cells (AV.ptr none))))) n (AObj.row t_1 s_1 (spliceA cs_1 4 (AV.cells (AV.ptr none)))))[n]? = some (AObj.row t_2 s_2 cs_2) ∧ chkW (decide (2 ≤ List.length cs_2)) (R (AV.tup []) (List.set (List.set (List.set h n (AObj.row t s (spliceA cs 3 (AV.cells (AV.ptr none))))) n (AObj.row t_1 s_1 (spliceA cs_1 4 (AV.cells (AV.ptr none))))) n (AObj.row t_2 s_2 (spliceA cs_2 1 (AV.cells (AV.int .i64 (IntKind.wrap .i64 (IntKind.wrap .i64 (n_1 + n_2) + 1))))))))))) = (wpF Try.prog (CT tbQ [] []) 30 p43 [(.ptr (some (n, 0))), .ptr none, .ptr none] h R) := by kernel_rfl
theorem joins_ns (h : AHeap) (n b : Nat) (R : AV → AHeap → Prop) : (∃ (t : TypeId), ∃ (s : Nat), ∃ (cs : List AV), h[n]? = some (AObj.row t s cs) ∧ chkW (decide (4 ≤ List.length cs)) (∃ (t_1 : TypeId), ∃ (s_1 : Nat), ∃ (cs_1 : List AV), (List.set h n (AObj.row t s (spliceA cs 3 (AV.cells (AV.ptr none)))))[n]? = some (AObj.row t_1 s_1 cs_1) ∧ chkW (decide (5 ≤ List.length cs_1)) (∃ (n_1 : Int), some (AV.int .i64 0) = some (AV.int .i64 n_1) ∧ ∃ (n_2 : Int), TbE.s { f := 27, s := sSize, r := Rs.of (Rs1.one i64) } [AV.ptr (some (b, 0))] (List.set (List.set h n (AObj.row t s (spliceA cs 3 (AV.cells (AV.ptr none))))) n (AObj.row t_1 s_1 (spliceA cs_1 4 (AV.cells (AV.ptr (some (b, 0))))))) = some (AV.int .i64 n_2) ∧ ∃ (t_2 : TypeId), ∃ (s_2 : Nat), ∃ (cs_2 : List AV), (List.set (List.set h n (AObj.row t s (spliceA cs 3 (AV.cells (AV.ptr none))))) n (AObj.row t_1 s_1 (spliceA cs_1 4 (AV.cells (AV.ptr (some (b, 0)))))))[n]? = some (AObj.row t_2 s_2 cs_2) ∧ chkW (decide (2 ≤ List.length cs_2)) (∃ (t_3 : TypeId), ∃ (s_3 : Nat), ∃ (cs_3 : List AV), (List.set (List.set (List.set h n (AObj.row t s (spliceA cs 3 (AV.cells (AV.ptr none))))) n (AObj.row t_1 s_1 (spliceA cs_1 4 (AV.cells (AV.ptr (some (b, 0))))))) n (AObj.row t_2 s_2 (spliceA cs_2 1 (AV.cells (AV.int .i64 (IntKind.wrap .i64 (IntKind.wrap .i64 (n_1 + n_2) + 1)))))))[b]? = some (AObj.row t_3 s_3 cs_3) ∧ chkW (decide (3 ≤ List.length cs_3)) (R (AV.tup []) (List.set (List.set (List.set (List.set h n (AObj.row t s (spliceA cs 3 (AV.cells (AV.ptr none))))) n (AObj.row t_1 s_1 (spliceA cs_1 4 (AV.cells (AV.ptr (some (b, 0))))))) n (AObj.row t_2 s_2 (spliceA cs_2 1 (AV.cells (AV.int .i64 (IntKind.wrap .i64 (IntKind.wrap .i64 (n_1 + n_2) + 1))))))) b (AObj.row t_3 s_3 (spliceA cs_3 2 (AV.cells (AV.ptr (some (n, 0)))))))))))) = (wpF Try.prog (CT tbQ [] []) 30 p43 [(.ptr (some (n, 0))), .ptr none, (.ptr (some (b, 0)))] h R) := by kernel_rfl
theorem joins_sn (h : AHeap) (n a : Nat) (R : AV → AHeap → Prop) : (∃ (t : TypeId), ∃ (s : Nat), ∃ (cs : List AV), h[n]? = some (AObj.row t s cs) ∧ chkW (decide (4 ≤ List.length cs)) (∃ (t_1 : TypeId), ∃ (s_1 : Nat), ∃ (cs_1 : List AV), (List.set h n (AObj.row t s (spliceA cs 3 (AV.cells (AV.ptr (some (a, 0)))))))[n]? = some (AObj.row t_1 s_1 cs_1) ∧ chkW (decide (5 ≤ List.length cs_1)) (∃ (n_1 : Int), TbE.s { f := 27, s := sSize, r := Rs.of (Rs1.one i64) } [AV.ptr (some (a, 0))] (List.set (List.set h n (AObj.row t s (spliceA cs 3 (AV.cells (AV.ptr (some (a, 0))))))) n (AObj.row t_1 s_1 (spliceA cs_1 4 (AV.cells (AV.ptr none))))) = some (AV.int .i64 n_1) ∧ ∃ (n_2 : Int), some (AV.int .i64 0) = some (AV.int .i64 n_2) ∧ ∃ (t_2 : TypeId), ∃ (s_2 : Nat), ∃ (cs_2 : List AV), (List.set (List.set h n (AObj.row t s (spliceA cs 3 (AV.cells (AV.ptr (some (a, 0))))))) n (AObj.row t_1 s_1 (spliceA cs_1 4 (AV.cells (AV.ptr none)))))[n]? = some (AObj.row t_2 s_2 cs_2) ∧ chkW (decide (2 ≤ List.length cs_2)) (∃ (t_3 : TypeId), ∃ (s_3 : Nat), ∃ (cs_3 : List AV), (List.set (List.set (List.set h n (AObj.row t s (spliceA cs 3 (AV.cells (AV.ptr (some (a, 0))))))) n (AObj.row t_1 s_1 (spliceA cs_1 4 (AV.cells (AV.ptr none))))) n (AObj.row t_2 s_2 (spliceA cs_2 1 (AV.cells (AV.int .i64 (IntKind.wrap .i64 (IntKind.wrap .i64 (n_1 + n_2) + 1)))))))[a]? = some (AObj.row t_3 s_3 cs_3) ∧ chkW (decide (3 ≤ List.length cs_3)) (R (AV.tup []) (List.set (List.set (List.set (List.set h n (AObj.row t s (spliceA cs 3 (AV.cells (AV.ptr (some (a, 0))))))) n (AObj.row t_1 s_1 (spliceA cs_1 4 (AV.cells (AV.ptr none))))) n (AObj.row t_2 s_2 (spliceA cs_2 1 (AV.cells (AV.int .i64 (IntKind.wrap .i64 (IntKind.wrap .i64 (n_1 + n_2) + 1))))))) a (AObj.row t_3 s_3 (spliceA cs_3 2 (AV.cells (AV.ptr (some (n, 0)))))))))))) = (wpF Try.prog (CT tbQ [] []) 30 p43 [(.ptr (some (n, 0))), (.ptr (some (a, 0))), .ptr none] h R) := by kernel_rfl
theorem joins_ss (h : AHeap) (n a b : Nat) (R : AV → AHeap → Prop) : (∃ (t : TypeId), ∃ (s : Nat), ∃ (cs : List AV), h[n]? = some (AObj.row t s cs) ∧ chkW (decide (4 ≤ List.length cs)) (∃ (t_1 : TypeId), ∃ (s_1 : Nat), ∃ (cs_1 : List AV), (List.set h n (AObj.row t s (spliceA cs 3 (AV.cells (AV.ptr (some (a, 0)))))))[n]? = some (AObj.row t_1 s_1 cs_1) ∧ chkW (decide (5 ≤ List.length cs_1)) (∃ (n_1 : Int), TbE.s { f := 27, s := sSize, r := Rs.of (Rs1.one i64) } [AV.ptr (some (a, 0))] (List.set (List.set h n (AObj.row t s (spliceA cs 3 (AV.cells (AV.ptr (some (a, 0))))))) n (AObj.row t_1 s_1 (spliceA cs_1 4 (AV.cells (AV.ptr (some (b, 0))))))) = some (AV.int .i64 n_1) ∧ ∃ (n_2 : Int), TbE.s { f := 27, s := sSize, r := Rs.of (Rs1.one i64) } [AV.ptr (some (b, 0))] (List.set (List.set h n (AObj.row t s (spliceA cs 3 (AV.cells (AV.ptr (some (a, 0))))))) n (AObj.row t_1 s_1 (spliceA cs_1 4 (AV.cells (AV.ptr (some (b, 0))))))) = some (AV.int .i64 n_2) ∧ ∃ (t_2 : TypeId), ∃ (s_2 : Nat), ∃ (cs_2 : List AV), (List.set (List.set h n (AObj.row t s (spliceA cs 3 (AV.cells (AV.ptr (some (a, 0))))))) n (AObj.row t_1 s_1 (spliceA cs_1 4 (AV.cells (AV.ptr (some (b, 0)))))))[n]? = some (AObj.row t_2 s_2 cs_2) ∧ chkW (decide (2 ≤ List.length cs_2)) (∃ (t_3 : TypeId), ∃ (s_3 : Nat), ∃ (cs_3 : List AV), (List.set (List.set (List.set h n (AObj.row t s (spliceA cs 3 (AV.cells (AV.ptr (some (a, 0))))))) n (AObj.row t_1 s_1 (spliceA cs_1 4 (AV.cells (AV.ptr (some (b, 0))))))) n (AObj.row t_2 s_2 (spliceA cs_2 1 (AV.cells (AV.int .i64 (IntKind.wrap .i64 (IntKind.wrap .i64 (n_1 + n_2) + 1)))))))[a]? = some (AObj.row t_3 s_3 cs_3) ∧ chkW (decide (3 ≤ List.length cs_3)) (∃ (t_4 : TypeId), ∃ (s_4 : Nat), ∃ (cs_4 : List AV), (List.set (List.set (List.set (List.set h n (AObj.row t s (spliceA cs 3 (AV.cells (AV.ptr (some (a, 0))))))) n (AObj.row t_1 s_1 (spliceA cs_1 4 (AV.cells (AV.ptr (some (b, 0))))))) n (AObj.row t_2 s_2 (spliceA cs_2 1 (AV.cells (AV.int .i64 (IntKind.wrap .i64 (IntKind.wrap .i64 (n_1 + n_2) + 1))))))) a (AObj.row t_3 s_3 (spliceA cs_3 2 (AV.cells (AV.ptr (some (n, 0)))))))[b]? = some (AObj.row t_4 s_4 cs_4) ∧ chkW (decide (3 ≤ List.length cs_4)) (R (AV.tup []) (List.set (List.set (List.set (List.set (List.set h n (AObj.row t s (spliceA cs 3 (AV.cells (AV.ptr (some (a, 0))))))) n (AObj.row t_1 s_1 (spliceA cs_1 4 (AV.cells (AV.ptr (some (b, 0))))))) n (AObj.row t_2 s_2 (spliceA cs_2 1 (AV.cells (AV.int .i64 (IntKind.wrap .i64 (IntKind.wrap .i64 (n_1 + n_2) + 1))))))) a (AObj.row t_3 s_3 (spliceA cs_3 2 (AV.cells (AV.ptr (some (n, 0))))))) b (AObj.row t_4 s_4 (spliceA cs_4 2 (AV.cells (AV.ptr (some (n, 0))))))))))))) = (wpF Try.prog (CT tbQ [] []) 30 p43 [(.ptr (some (n, 0))), (.ptr (some (a, 0))), (.ptr (some (b, 0)))] h R) := by kernel_rfl
theorem repl_n (h : AHeap) (t o : Nat) (R : AV → AHeap → Prop) : (∃ (b : Bool), askB b (∃ (k : Nat), ∃ (o_1 : Nat), (Option.bind (cellsAt h o) fun (x : List AV) => partR none x 2) = some (AV.ptr (some (k, o_1))) ∧ ∃ (b : Bool), askB b (∃ (k_1 : Nat), ∃ (o_2 : Nat), (Option.bind (cellsAt h k) fun (x : List AV) => partR none x (o_1 + 3)) = some (AV.ptr (some (k_1, o_2))) ∧ askB (decide (k_1 = o)) (askB (decide (o_2 = 0)) (∃ (t : TypeId), ∃ (s : Nat), ∃ (cs : List AV), h[k]? = some (AObj.row t s cs) ∧ chkW (decide (o_1 + 3 + 1 ≤ List.length cs)) (R (AV.tup []) (List.set h k (AObj.row t s (spliceA cs (o_1 + 3) (AV.cells (AV.ptr none))))))) (∃ (t : TypeId), ∃ (s : Nat), ∃ (cs : List AV), h[k]? = some (AObj.row t s cs) ∧ chkW (decide (o_1 + 4 + 1 ≤ List.length cs)) (R (AV.tup []) (List.set h k (AObj.row t s (spliceA cs (o_1 + 4) (AV.cells (AV.ptr none)))))))) (chkW (ownRow h k_1 && ownRow h o) (∃ (t : TypeId), ∃ (s : Nat), ∃ (cs : List AV), h[k]? = some (AObj.row t s cs) ∧ chkW (decide (o_1 + 4 + 1 ≤ List.length cs)) (R (AV.tup []) (List.set h k (AObj.row t s (spliceA cs (o_1 + 4) (AV.cells (AV.ptr none))))))))) ((Option.bind (cellsAt h k) fun (x : List AV) => partR none x (o_1 + 3)) = some (AV.ptr none) ∧ ∃ (t : TypeId), ∃ (s : Nat), ∃ (cs : List AV), h[k]? = some (AObj.row t s cs) ∧ chkW (decide (o_1 + 4 + 1 ≤ List.length cs)) (R (AV.tup []) (List.set h k (AObj.row t s (spliceA cs (o_1 + 4) (AV.cells (AV.ptr none)))))))) ((Option.bind (cellsAt h o) fun (x : List AV) => partR none x 2) = some (AV.ptr none) ∧ ∃ (t_1 : TypeId), ∃ (s : Nat), ∃ (cs : List AV), h[t]? = some (AObj.row t_1 s cs) ∧ chkW (decide (1 ≤ List.length cs)) (R (AV.tup []) (List.set h t (AObj.row t_1 s (spliceA cs 0 (AV.cells (AV.ptr none)))))))) = (wpF Try.prog (CT tbQ [] [(10, .ptr), (26, .ptr)]) 30 p36 [(.ptr (some (t, 0))), (.ptr (some (o, 0))), .ptr none] h R) := by kernel_rfl
theorem repl_s (h : AHeap) (t o a : Nat) (R : AV → AHeap → Prop) : (∃ (b : Bool), askB b (∃ (k : Nat), ∃ (o_1 : Nat), (Option.bind (cellsAt h o) fun (x : List AV) => partR none x 2) = some (AV.ptr (some (k, o_1))) ∧ ∃ (b : Bool), askB b (∃ (k_1 : Nat), ∃ (o_2 : Nat), (Option.bind (cellsAt h k) fun (x : List AV) => partR none x (o_1 + 3)) = some (AV.ptr (some (k_1, o_2))) ∧ askB (decide (k_1 = o)) (askB (decide (o_2 = 0)) (∃ (t : TypeId), ∃ (s : Nat), ∃ (cs : List AV), h[k]? = some (AObj.row t s cs) ∧ chkW (decide (o_1 + 3 + 1 ≤ List.length cs)) (∃ (t_1 : TypeId), ∃ (s_1 : Nat), ∃ (cs_1 : List AV), (List.set h k (AObj.row t s (spliceA cs (o_1 + 3) (AV.cells (AV.ptr (some (a, 0)))))))[a]? = some (AObj.row t_1 s_1 cs_1) ∧ chkW (decide (3 ≤ List.length cs_1)) (R (AV.tup []) (List.set (List.set h k (AObj.row t s (spliceA cs (o_1 + 3) (AV.cells (AV.ptr (some (a, 0))))))) a (AObj.row t_1 s_1 (spliceA cs_1 2 (AV.cells (AV.ptr (some (k, o_1)))))))))) (∃ (t : TypeId), ∃ (s : Nat), ∃ (cs : List AV), h[k]? = some (AObj.row t s cs) ∧ chkW (decide (o_1 + 4 + 1 ≤ List.length cs)) (∃ (t_1 : TypeId), ∃ (s_1 : Nat), ∃ (cs_1 : List AV), (List.set h k (AObj.row t s (spliceA cs (o_1 + 4) (AV.cells (AV.ptr (some (a, 0)))))))[a]? = some (AObj.row t_1 s_1 cs_1) ∧ chkW (decide (3 ≤ List.length cs_1)) (R (AV.tup []) (List.set (List.set h k (AObj.row t s (spliceA cs (o_1 + 4) (AV.cells (AV.ptr (some (a, 0))))))) a (AObj.row t_1 s_1 (spliceA cs_1 2 (AV.cells (AV.ptr (some (k, o_1))))))))))) (chkW (ownRow h k_1 && ownRow h o) (∃ (t : TypeId), ∃ (s : Nat), ∃ (cs : List AV), h[k]? = some (AObj.row t s cs) ∧ chkW (decide (o_1 + 4 + 1 ≤ List.length cs)) (∃ (t_1 : TypeId), ∃ (s_1 : Nat), ∃ (cs_1 : List AV), (List.set h k (AObj.row t s (spliceA cs (o_1 + 4) (AV.cells (AV.ptr (some (a, 0)))))))[a]? = some (AObj.row t_1 s_1 cs_1) ∧ chkW (decide (3 ≤ List.length cs_1)) (R (AV.tup []) (List.set (List.set h k (AObj.row t s (spliceA cs (o_1 + 4) (AV.cells (AV.ptr (some (a, 0))))))) a (AObj.row t_1 s_1 (spliceA cs_1 2 (AV.cells (AV.ptr (some (k, o_1)))))))))))) ((Option.bind (cellsAt h k) fun (x : List AV) => partR none x (o_1 + 3)) = some (AV.ptr none) ∧ ∃ (t : TypeId), ∃ (s : Nat), ∃ (cs : List AV), h[k]? = some (AObj.row t s cs) ∧ chkW (decide (o_1 + 4 + 1 ≤ List.length cs)) (∃ (t_1 : TypeId), ∃ (s_1 : Nat), ∃ (cs_1 : List AV), (List.set h k (AObj.row t s (spliceA cs (o_1 + 4) (AV.cells (AV.ptr (some (a, 0)))))))[a]? = some (AObj.row t_1 s_1 cs_1) ∧ chkW (decide (3 ≤ List.length cs_1)) (R (AV.tup []) (List.set (List.set h k (AObj.row t s (spliceA cs (o_1 + 4) (AV.cells (AV.ptr (some (a, 0))))))) a (AObj.row t_1 s_1 (spliceA cs_1 2 (AV.cells (AV.ptr (some (k, o_1))))))))))) ((Option.bind (cellsAt h o) fun (x : List AV) => partR none x 2) = some (AV.ptr none) ∧ ∃ (t_1 : TypeId), ∃ (s : Nat), ∃ (cs : List AV), h[t]? = some (AObj.row t_1 s cs) ∧ chkW (decide (1 ≤ List.length cs)) (∃ (t_2 : TypeId), ∃ (s_1 : Nat), ∃ (cs_1 : List AV), (List.set h t (AObj.row t_1 s (spliceA cs 0 (AV.cells (AV.ptr (some (a, 0)))))))[a]? = some (AObj.row t_2 s_1 cs_1) ∧ chkW (decide (3 ≤ List.length cs_1)) (R (AV.tup []) (List.set (List.set h t (AObj.row t_1 s (spliceA cs 0 (AV.cells (AV.ptr (some (a, 0))))))) a (AObj.row t_2 s_1 (spliceA cs_1 2 (AV.cells (AV.ptr none))))))))) = (wpF Try.prog (CT tbQ [] [(10, .ptr), (26, .ptr)]) 30 p36 [(.ptr (some (t, 0))), (.ptr (some (o, 0))), (.ptr (some (a, 0)))] h R) := by kernel_rfl
theorem tabsQ : TabsOK tbQ [] [] := by
  refine ⟨fun x hx => ?_, by kernel_rfl, fun _ h => (by cases h), fun _ h => (by cases h), fun _ h => (by cases h), rfl⟩
  simp only [tbQ, List.mem_cons, List.not_mem_nil, or_false] at hx
  rcases hx with rfl | rfl | rfl | rfl
  · exact none_ok
  · exact size_ok
  · exact weight_ok
  · exact len_ok
theorem size_at {h : AHeap} {u : Pt} {T : TT} (hx : ∀ x ∈ rT u T, h[x.1]? = some x.2) : sSize [.ptr T.pt] h = some (.int .i64 (T.n : Nat)) := by
  cases T with
  | nil => rfl
  | node k id l r =>
    have := hx _ List.mem_cons_self
    simp only [nd] at this
    simp only [TT.pt, sSize, this]
    rfl
/-- A tree's top hangs elsewhere. -/
def setUp (h : AHeap) (T : TT) (u : Pt) : AHeap := match T with
  | .nil => h
  | .node k id l r => h.set k (nd id (l.n + r.n + 1 : Nat) u l.pt r.pt)
theorem setUp_tr {h : AHeap} {u u' : Pt} {T : TT} {F : Rws} (hM : Maps h (rT u T ++ F)) : Tr h (setUp h T u') (rT u T ++ F) (rT u' T ++ F) := by
  cases T with
  | nil => exact Tr.refl hM
  | node k id l r => exact (Tr.set (o := nd id (l.n + r.n + 1 : Nat) u l.pt r.pt) (R := rT (some (k, 0)) l ++ rT (some (k, 0)) r ++ F) hM (perm_of fun a => by simp only [cnt_cons, cnt_append, cnt_nil, pt_nil, rT, rTs, rC, rZ, pt_node, Fr.row, upC_cons, upC_nil, TT.n, Bool.false_eq_true, if_false, if_true]; omega) (nd id (l.n + r.n + 1 : Nat) u' l.pt r.pt)).perm (.refl _) (perm_of fun a => by simp only [cnt_cons, cnt_append, cnt_nil, pt_nil, rT, rTs, rC, rZ, pt_node, Fr.row, upC_cons, upC_nil, TT.n, Bool.false_eq_true, if_false, if_true]; omega)
theorem wrap_small {n : Int} (h1 : 0 ≤ n) (h2 : n < 9000000000000000000) : IntKind.wrap .i64 n = n := by rw [IntKind.wrap_i64]; omega
def V0 (_ : Unit) : AV := .tup []
def P43 (vs : List AV) (h : AHeap) (_ : Unit) (h' : AHeap) : Prop := ∀ n id sz up l0 r0 L R ul ur, vs = [.ptr (some (n, 0)), .ptr L.pt, .ptr R.pt] → L.n + R.n ≤ 1000000 → Maps h ((n, nd id sz up l0 r0) :: (rT ul L ++ rT ur R)) →
  Tr h h' ((n, nd id sz up l0 r0) :: (rT ul L ++ rT ur R)) ((n, nd id (L.n + R.n + 1 : Nat) up L.pt R.pt) :: (rT (some (n, 0)) L ++ rT (some (n, 0)) R))
theorem joins_can {h : AHeap} {n : Nat} {id sz : Int} {up l0 r0 ul ur : Pt} {L R : TT} (hb : L.n + R.n ≤ 1000000) (hM : Maps h ((n, nd id sz up l0 r0) :: (rT ul L ++ rT ur R))) : ComesTo Try.prog 43 V0 P43 [.ptr (some (n, 0)), .ptr L.pt, .ptr R.pt] h := by
  suffices hs : ∃ v h', (v = AV.tup [] ∧ Tr h h' ((n, nd id sz up l0 r0) :: (rT ul L ++ rT ur R)) ((n, nd id (L.n + R.n + 1 : Nat) up L.pt R.pt) :: (rT (some (n, 0)) L ++ rT (some (n, 0)) R))) ∧ CallSem Try.prog 43 [.ptr (some (n, 0)), .ptr L.pt, .ptr R.pt] h v h' by
    obtain ⟨v, h', ⟨rfl, ht⟩, hs⟩ := hs
    refine ⟨(), h', fun n' id' sz' up' l0' r0' L' R' ul' ur' e hb' hM' => ?_, hs⟩
    simp only [List.cons.injEq, AV.ptr.injEq, Option.some.injEq, Prod.mk.injEq, and_true] at e
    obtain ⟨rfl, e1, e2⟩ := e
    have g1 := hM.row n _ List.mem_cons_self
    have g2 := hM'.row n _ List.mem_cons_self
    rw [g1] at g2
    simp only [nd, Option.some.injEq, AObj.row.injEq, true_and, List.cons.injEq, AV.int.injEq, AV.ptr.injEq, and_true] at g2
    obtain ⟨rfl, rfl, rfl, rfl, rfl⟩ := g2
    obtain ⟨rfl, q1⟩ := rT_one (fun x hx => hM.row x.1 x.2 (List.mem_cons_of_mem _ (List.mem_append_left _ hx))) (fun x hx => hM'.row x.1 x.2 (List.mem_cons_of_mem _ (List.mem_append_left _ hx))) e1
    obtain ⟨rfl, q2⟩ := rT_one (fun x hx => hM.row x.1 x.2 (List.mem_cons_of_mem _ (List.mem_append_right _ hx))) (fun x hx => hM'.row x.1 x.2 (List.mem_cons_of_mem _ (List.mem_append_right _ hx))) e2
    rw [← q1, ← q2]
    exact ht
  have T1 := Tr.set hM (.refl _) (nd id sz up L.pt r0)
  have T2 := Tr.set T1.b (.refl _) (nd id sz up L.pt R.pt)
  have T3 := Tr.set T2.b (.refl _) (nd id (L.n + R.n + 1 : Nat) up L.pt R.pt)
  have T4 := (setUp_tr (u := ul) (u' := some (n, 0)) (T := L) (F := (n, nd id (L.n + R.n + 1 : Nat) up L.pt R.pt) :: rT ur R) (T3.b.perm (perm_of fun a => by simp only [cnt_cons, cnt_append, cnt_nil, pt_nil, rT, rTs, rC, rZ, pt_node, Fr.row, upC_cons, upC_nil, TT.n, Bool.false_eq_true, if_false, if_true]; omega)))
  have T5 := (setUp_tr (u := ur) (u' := some (n, 0)) (T := R) (F := (n, nd id (L.n + R.n + 1 : Nat) up L.pt R.pt) :: rT (some (n, 0)) L) (T4.b.perm (perm_of fun a => by simp only [cnt_cons, cnt_append, cnt_nil, pt_nil, rT, rTs, rC, rZ, pt_node, Fr.row, upC_cons, upC_nil, TT.n, Bool.false_eq_true, if_false, if_true]; omega)))
  have TT1 := ((((T1.trans T2).trans T3).perm (.refl _) (perm_of fun a => by simp only [cnt_cons, cnt_append, cnt_nil, pt_nil, rT, rTs, rC, rZ, pt_node, Fr.row, upC_cons, upC_nil, TT.n, Bool.false_eq_true, if_false, if_true]; omega)).trans T4).perm (.refl _) (perm_of fun a => by simp only [cnt_cons, cnt_append, cnt_nil, pt_nil, rT, rTs, rC, rZ, pt_node, Fr.row, upC_cons, upC_nil, TT.n, Bool.false_eq_true, if_false, if_true]; omega) |>.trans T5 |>.perm (.refl _) (M' := (n, nd id (L.n + R.n + 1 : Nat) up L.pt R.pt) :: (rT (some (n, 0)) L ++ rT (some (n, 0)) R)) (perm_of fun a => by simp only [cnt_cons, cnt_append, cnt_nil, pt_nil, rT, rTs, rC, rZ, pt_node, Fr.row, upC_cons, upC_nil, TT.n, Bool.false_eq_true, if_false, if_true]; omega)
  have s1 := size_at (u := ul) (T := L) fun x hx => T2.b.row x.1 x.2 (List.mem_cons_of_mem _ (List.mem_append_left _ hx))
  have s2 := size_at (u := ur) (T := R) fun x hx => T2.b.row x.1 x.2 (List.mem_cons_of_mem _ (List.mem_append_right _ hx))
  have ew : IntKind.wrap .i64 (IntKind.wrap .i64 (((L.n : Nat) : Int) + ((R.n : Nat) : Int)) + 1) = ((L.n + R.n + 1 : Nat) : Int) := by
    rw [wrap_small (n := ((L.n : Nat) : Int) + ((R.n : Nat) : Int)) (by omega) (by omega), wrap_small (by omega) (by omega)]; omega
  have r0' := hM.row n _ List.mem_cons_self
  have r1' := T1.b.row n _ List.mem_cons_self
  have r2' := T2.b.row n _ List.mem_cons_self
  have r3 : ∀ x ∈ rT ul L, ((((h.set n (nd id sz up L.pt r0)).set n (nd id sz up L.pt R.pt)).set n (nd id (L.n + R.n + 1 : Nat) up L.pt R.pt)))[x.1]? = some x.2 := fun x hx => T3.b.row x.1 x.2 (List.mem_cons_of_mem _ (List.mem_append_left _ hx))
  have r4 : ∀ x ∈ rT ur R, (setUp ((((h.set n (nd id sz up L.pt r0)).set n (nd id sz up L.pt R.pt)).set n (nd id (L.n + R.n + 1 : Nat) up L.pt R.pt))) L (some (n, 0)))[x.1]? = some x.2 := fun x hx => T4.b.row x.1 x.2 (List.mem_append_right _ (List.mem_cons_of_mem _ hx))
  cases L with
  | nil =>
    cases R with
    | nil =>
      refine sem tabsQ ht43 c43 rfl (joins_nn h n _) ⟨66, 5, _, r0', chkI rfl ⟨66, 5, _, r1', chkI rfl ⟨_, s1, _, s2, 66, 5, _, r2', chkI rfl ⟨rfl, ?_⟩⟩⟩⟩
      rw [ew]; exact TT1
    | node b bid bl br =>
      refine sem tabsQ ht43 c43 rfl (joins_ns h n b _) ⟨66, 5, _, r0', chkI rfl ⟨66, 5, _, r1', chkI rfl ⟨_, s1, _, s2, 66, 5, _, r2', chkI rfl ?_⟩⟩⟩
      rw [ew]
      exact ⟨66, 5, _, r4 _ List.mem_cons_self, chkI rfl ⟨rfl, TT1⟩⟩
  | node a aid al ar =>
    cases R with
    | nil =>
      refine sem tabsQ ht43 c43 rfl (joins_sn h n a _) ⟨66, 5, _, r0', chkI rfl ⟨66, 5, _, r1', chkI rfl ⟨_, s1, _, s2, 66, 5, _, r2', chkI rfl ?_⟩⟩⟩
      rw [ew]
      exact ⟨66, 5, _, r3 _ List.mem_cons_self, chkI rfl ⟨rfl, TT1⟩⟩
    | node b bid bl br =>
      refine sem tabsQ ht43 c43 rfl (joins_ss h n a b _) ⟨66, 5, _, r0', chkI rfl ⟨66, 5, _, r1', chkI rfl ⟨_, s1, _, s2, 66, 5, _, r2', chkI rfl ?_⟩⟩⟩
      rw [ew]
      exact ⟨66, 5, _, r3 _ List.mem_cons_self, chkI rfl ⟨66, 5, _, r4 _ List.mem_cons_self, chkI rfl ⟨rfl, TT1⟩⟩⟩
/-- What hangs at a place is changed. -/
def setTop (h : AHeap) (t m : Nat) (lk : Int) (p : Pt) (ctx : List Fr) : AHeap := match ctx with
  | [] => h.set t (trow p m lk)
  | f :: fs => h.set f.k (f.row (upC fs) p)
theorem setTop_tr {h : AHeap} {t m : Nat} {lk : Int} {p p' : Pt} {ctx : List Fr} {F : Rws} (hM : Maps h (rC t m lk p ctx ++ F)) : Tr h (setTop h t m lk p' ctx) (rC t m lk p ctx ++ F) (rC t m lk p' ctx ++ F) := by
  cases ctx with
  | nil => exact Tr.set (R := F) hM (.refl _) (trow p' m lk)
  | cons f fs => exact Tr.set (R := rT (some (f.k, 0)) f.sib ++ rC t m lk (some (f.k, 0)) fs ++ F) hM (.refl _) (f.row (upC fs) p')
def P36 (vs : List AV) (h : AHeap) (_ : Unit) (h' : AHeap) : Prop := ∀ t m lk ctx o ido szo lo ro N un, vs = [.ptr (some (t, 0)), .ptr (some (o, 0)), .ptr N.pt] → Maps h ((o, nd ido szo (upC ctx) lo ro) :: (rC t m lk (some (o, 0)) ctx ++ rT un N)) →
  Tr h h' ((o, nd ido szo (upC ctx) lo ro) :: (rC t m lk (some (o, 0)) ctx ++ rT un N)) ((o, nd ido szo (upC ctx) lo ro) :: (rC t m lk N.pt ctx ++ rT (upC ctx) N))
theorem own_at {h : AHeap} {k : Nat} {t : TypeId} {s : Nat} {cs : List AV} (hk : h[k]? = some (.row t s cs)) : ownRow h k = true := by unfold ownRow; rw [hk]
theorem repl_can {h : AHeap} {t m : Nat} {lk : Int} {ctx : List Fr} {o : Nat} {ido szo : Int} {lo ro un : Pt} {N : TT} (hM : Maps h ((o, nd ido szo (upC ctx) lo ro) :: (rC t m lk (some (o, 0)) ctx ++ rT un N))) :
    ComesTo Try.prog 36 V0 P36 [.ptr (some (t, 0)), .ptr (some (o, 0)), .ptr N.pt] h := by
  suffices hs : ∃ v h', (v = AV.tup [] ∧ Tr h h' ((o, nd ido szo (upC ctx) lo ro) :: (rC t m lk (some (o, 0)) ctx ++ rT un N)) ((o, nd ido szo (upC ctx) lo ro) :: (rC t m lk N.pt ctx ++ rT (upC ctx) N))) ∧ CallSem Try.prog 36 [.ptr (some (t, 0)), .ptr (some (o, 0)), .ptr N.pt] h v h' by
    obtain ⟨v, h', ⟨rfl, ht⟩, hs⟩ := hs
    refine ⟨(), h', fun t' m' lk' ctx' o' ido' szo' lo' ro' N' un' e hM' => ?_, hs⟩
    simp only [List.cons.injEq, AV.ptr.injEq, Option.some.injEq, Prod.mk.injEq, and_true] at e
    obtain ⟨rfl, rfl, e1⟩ := e
    have g1 := hM.row o _ List.mem_cons_self
    have g2 := hM'.row o _ List.mem_cons_self
    rw [g1] at g2
    simp only [nd, Option.some.injEq, AObj.row.injEq, true_and, List.cons.injEq, AV.int.injEq, AV.ptr.injEq, and_true] at g2
    obtain ⟨rfl, rfl, eu, rfl, rfl⟩ := g2
    obtain ⟨rfl, q1⟩ := rT_one (fun x hx => hM.row x.1 x.2 (List.mem_cons_of_mem _ (List.mem_append_right _ hx))) (fun x hx => hM'.row x.1 x.2 (List.mem_cons_of_mem _ (List.mem_append_right _ hx))) e1
    have n1 := hM.nd
    have n2 := hM'.nd
    rw [keys_cons, keys_append, List.nodup_cons, List.mem_append, not_or] at n1 n2
    obtain ⟨rfl, rfl, rfl⟩ := rC_one (Maps.right (A := [_]) hM).left (Maps.right (A := [_]) hM').left n1.1.1 n2.1.1 eu
    rw [← q1]
    exact ht
  have T1 := setTop_tr (p' := N.pt) (F := (o, nd ido szo (upC ctx) lo ro) :: rT un N) (hM.perm (L' := rC t m lk (some (o, 0)) ctx ++ ((o, nd ido szo (upC ctx) lo ro) :: rT un N)) (perm_of fun a => by simp only [cnt_cons, cnt_append, cnt_nil, pt_nil, rT, rTs, rC, rZ, pt_node, Fr.row, upC_cons, upC_nil, TT.n, Bool.false_eq_true, if_false, if_true]; omega))
  have T2 := setUp_tr (u := un) (u' := upC ctx) (T := N) (F := (o, nd ido szo (upC ctx) lo ro) :: rC t m lk N.pt ctx) (T1.b.perm (perm_of fun a => by simp only [cnt_cons, cnt_append, cnt_nil, pt_nil, rT, rTs, rC, rZ, pt_node, Fr.row, upC_cons, upC_nil, TT.n, Bool.false_eq_true, if_false, if_true]; omega))
  have TT1 := ((T1.perm (M := (o, nd ido szo (upC ctx) lo ro) :: (rC t m lk (some (o, 0)) ctx ++ rT un N)) (perm_of fun a => by simp only [cnt_cons, cnt_append, cnt_nil, pt_nil, rT, rTs, rC, rZ, pt_node, Fr.row, upC_cons, upC_nil, TT.n, Bool.false_eq_true, if_false, if_true]; omega) (perm_of fun a => by simp only [cnt_cons, cnt_append, cnt_nil, pt_nil, rT, rTs, rC, rZ, pt_node, Fr.row, upC_cons, upC_nil, TT.n, Bool.false_eq_true, if_false, if_true]; omega)).trans T2).perm (.refl _) (M' := (o, nd ido szo (upC ctx) lo ro) :: (rC t m lk N.pt ctx ++ rT (upC ctx) N)) (perm_of fun a => by simp only [cnt_cons, cnt_append, cnt_nil, pt_nil, rT, rTs, rC, rZ, pt_node, Fr.row, upC_cons, upC_nil, TT.n, Bool.false_eq_true, if_false, if_true]; omega)
  have r0 := hM.row o _ List.mem_cons_self
  have rN : ∀ x ∈ rT un N, (setTop h t m lk N.pt ctx)[x.1]? = some x.2 := fun x hx => T1.b.row x.1 x.2 (List.mem_append_right _ (List.mem_cons_of_mem _ hx))
  cases ctx with
  | nil =>
    have rt := hM.row t _ (List.mem_cons_of_mem _ (List.mem_append_left _ List.mem_cons_self))
    cases N with
    | nil => exact sem tabsQ ht36 c36 rfl (repl_n h t o _) ⟨false, fld r0 rfl, 58, 3, _, rt, chkI rfl ⟨rfl, TT1⟩⟩
    | node a aid al ar => exact sem tabsQ ht36 c36 rfl (repl_s h t o a _) ⟨false, fld r0 rfl, 58, 3, _, rt, chkI rfl ⟨66, 5, _, rN _ List.mem_cons_self, chkI rfl ⟨rfl, TT1⟩⟩⟩
  | cons f fs =>
    obtain ⟨fk, fid, fl, fsb, fz⟩ := f
    have rf := hM.row fk _ (List.mem_cons_of_mem _ (List.mem_append_left _ List.mem_cons_self))
    have nk := hM.nd
    rw [keys_cons, List.nodup_cons, keys_append, List.mem_append, not_or] at nk
    cases fl with
    | true =>
      cases N with
      | nil => exact sem tabsQ ht36 c36 rfl (repl_n h t o _) ⟨true, fk, 0, fld r0 rfl, true, o, 0, fld rf rfl, askT (by simp) (askT (by simp) ⟨66, 5, _, rf, chkI rfl ⟨rfl, TT1⟩⟩)⟩
      | node a aid al ar => exact sem tabsQ ht36 c36 rfl (repl_s h t o a _) ⟨true, fk, 0, fld r0 rfl, true, o, 0, fld rf rfl, askT (by simp) (askT (by simp) ⟨66, 5, _, rf, chkI rfl ⟨66, 5, _, rN _ List.mem_cons_self, chkI rfl ⟨rfl, TT1⟩⟩⟩)⟩
    | false =>
      cases fsb with
      | nil =>
        cases N with
        | nil => exact sem tabsQ ht36 c36 rfl (repl_n h t o _) ⟨true, fk, 0, fld r0 rfl, false, fld rf rfl, 66, 5, _, rf, chkI rfl ⟨rfl, TT1⟩⟩
        | node a aid al ar => exact sem tabsQ ht36 c36 rfl (repl_s h t o a _) ⟨true, fk, 0, fld r0 rfl, false, fld rf rfl, 66, 5, _, rf, chkI rfl ⟨66, 5, _, rN _ List.mem_cons_self, chkI rfl ⟨rfl, TT1⟩⟩⟩
      | node b bid bl br =>
        have rb := hM.row b _ (List.mem_cons_of_mem _ (List.mem_append_left _ (List.mem_cons_of_mem _ (List.mem_append_left _ List.mem_cons_self))))
        have hb : b ≠ o := fun e => by
          subst e
          exact nk.1.1 (by simp [rC, rT, keys])
        cases N with
        | nil => exact sem tabsQ ht36 c36 rfl (repl_n h t o _) ⟨true, fk, 0, fld r0 rfl, true, b, 0, fld rf rfl, askF (by simp [hb]) (chkI (by rw [own_at rb, own_at r0]; rfl) ⟨66, 5, _, rf, chkI rfl ⟨rfl, TT1⟩⟩)⟩
        | node a aid al ar => exact sem tabsQ ht36 c36 rfl (repl_s h t o a _) ⟨true, fk, 0, fld r0 rfl, true, b, 0, fld rf rfl, askF (by simp [hb]) (chkI (by rw [own_at rb, own_at r0]; rfl) ⟨66, 5, _, rf, chkI rfl ⟨66, 5, _, rN _ List.mem_cons_self, chkI rfl ⟨rfl, TT1⟩⟩⟩)⟩

end Go.Proofs.Ytncmgbbbekabdaa
