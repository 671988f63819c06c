/- Written by merging: Sa Sb Sc. -/
import Derived.Test.YtncmgbbbekabdaaAmV
import Derived.Test.YtncmgbbbekabdaaAmHg
import Derived.RangeFuncBox
import Derived.RangeFuncLeaves
import Derived.Shelf.Abstract
import Derived.WalkKit
import Derived.OwnWalkIn
import Derived.TacticsInMore
import Derived.LoopNIn
import Derived.LoopIn
namespace Go.Proofs.Ytncmgbbbekabdaa
open Go Go.Am Go.RowKit Go.Shelf
set_option maxRecDepth 100000
set_option maxHeartbeats 2000000
set_option linter.unusedVariables false
set_option linter.unusedSimpArgs false
attribute [local go_sem] Oper.semAt_some
theorem iter30 : IterOK Try.prog 30 := by
  refine ⟨⟨_, Try.func30, by decide⟩, fun ba zs sl l J Jx W hlen hJ hY h0 => ?_⟩
  have hro : (fR none).round = none := rfl
  have h30 : (fR none).fn 30 := trivial
  have hdep : (fR none).depth = none := rfl
  generalize fR none = F at hY hro h30 hdep ⊢
  refine callsIn_of_wp Try.func30 rfl h30 ?_ hro
  simp only [Try.ntmps30, List.size_toArray, List.length_cons, List.length_nil, Nat.reduceAdd, Nat.reduceSub, Array.replicate_succ, Array.replicate_zero, List.push_toArray, List.append_toArray, List.nil_append, List.cons_append]
  obtain ⟨hb, hs⟩ := hJ 0 W h0
  rcases hs with ⟨rfl, rfl⟩ | ⟨b, off, cap, rfl, hcs⟩
  · gi_wp2
    gi_loopw [7] (fun i wr => i = .int .i64 0 ∧ J 0 wr) (fun _ _ => 0)
    case atStart => exact ⟨rfl, h0⟩
    case round =>
      obtain ⟨rfl, hJs⟩ := hrel
      gi_wp2
      go_end0
      exact ⟨⟨_, rfl⟩, .inl hJs⟩
  · gi_wp2
    gi_loopw [7] (fun i wr => ∃ k : Nat, k ≤ zs.length ∧ i = .int .i64 k ∧ J k wr)
      (fun i _ => zs.length - (intOf i).toNat)
    case atStart => exact ⟨0, Nat.zero_le _, rfl, h0⟩
    case round =>
      obtain ⟨k, hk, rfl, hJs⟩ := hrel
      by_cases hlt : k < zs.length
      · have hz : zs[k]? = some zs[k] := List.getElem?_eq_getElem hlt
        obtain ⟨-, hs⟩ := hJ k wr hJs
        obtain ⟨b', off', cap', he, hcs'⟩ := hs.resolve_left (by rintro ⟨h, -⟩; cases h)
        cases he
        have hcx := hcs' k _ hz
        obtain ⟨fn, tmps, assign, body, hy, hR⟩ := hY k _ wr hJs hz
        gi_wp2
        refine hR.mono ?_
        rintro e W3 (⟨rfl, hJ3⟩ | ⟨rfl, hJx3⟩)
        · gi_wp2
          go_roundw
          case rel => exact ⟨k + 1, by omega, by simp, hJ3⟩
          case measure => simp [intOf]; omega
        · gi_wp2
          refine bodyPost_ret (results_none rfl _ _ _) rfl ?_
          exact ⟨⟨_, rfl⟩, .inr hJx3⟩
      · obtain rfl : k = zs.length := by omega
        gi_wp2
        go_end0
        exact ⟨⟨_, rfl⟩, .inl hJs⟩
theorem mixed : Try.prog.follows .mixedOrders = true := by kernel_rfl
theorem quietText : ∀ g, Q g = true → ∃ fn, HasText Try.prog g fn := by
  intro g hg
  simp only [Q, quiet, List.contains_eq_mem, List.mem_cons, List.not_mem_nil, or_false, decide_eq_true_eq] at hg
  rcases hg with rfl | rfl | rfl | rfl | rfl | rfl | rfl | rfl | rfl | rfl
  · exact ⟨_, ht10⟩
  · exact ⟨_, ht11⟩
  · exact ⟨_, ht12⟩
  · exact ⟨_, ht20⟩
  · exact ⟨_, ht21⟩
  · exact ⟨_, ht22⟩
  · exact ⟨_, ht24⟩
  · exact ⟨_, ht26⟩
  · exact ⟨_, ht27⟩
  · exact ⟨_, ht40⟩
def i64 : K1 := .int .i64
/-- Kinds by places. -/
def kdOf (l : List (Nat × K1)) (t : Nat) : Kd := .one ((l.lookup t).getD .av)
/-- What is known: contracts by tables; the iterator; functions that do not mind a row that is not made. -/
noncomputable def SU (l : List TbE) (g : List TbG) (us : List FuncId) : Specs := { tbSG Q l g with rf := fun f => f == 30, u := fun f => us.contains f }
noncomputable def CU (l : List TbE) (g : List TbG) (us : List FuncId) (ks : List (Nat × K1)) : Cfg where
  S := SU l g us
  sy := fun _ => true
  kd := kdOf ks
  cw := tbWG Q l g
  lw := fun _ => none
  gw := fun _ => none
  F := fun _ => ⟨[], .all⟩
  b0 := 0
noncomputable def CT (l : List TbE) (g : List TbG) (ks : List (Nat × K1)) : Cfg := CU l g [] ks
/-- Tables whose contracts hold. -/
structure TabsOK (l : List TbE) (g : List TbG) (us : List FuncId) : Prop where
  q : ∀ x ∈ l, QuietOK Try.prog x.f x.s
  qq : l.all (fun x => Q x.f) = true
  f : ∀ x ∈ g, FullOK Try.prog x.f x.s
  t : ∀ x ∈ g, x.OK
  u : ∀ f ∈ us, ∀ s, (tbSG Q l g).f f = some s → Uni s
  uq : us.all (fun f => !Q f) = true
theorem SU_ok {l : List TbE} {g : List TbG} {us : List FuncId} (h : TabsOK l g us) : (SU l g us).OK Try.prog := by
  have h0 := tbSG_ok (P := Try.prog) (l := l) (lg := g) quietText h.q h.f
  refine ⟨h0.q, h0.f, fun f hf => ?_, fun f hf => ?_⟩
  · obtain rfl : f = 30 := by simpa [SU] using hf
    exact iter30
  · have hm : f ∈ us := by simpa [SU] using hf
    refine ⟨?_, fun s hs => h.u f hm s hs⟩
    have hq := List.all_eq_true.1 h.uq f hm
    have := tbSG_q Q l g f
    show (tbSG Q l g).q f = none
    cases hx : (tbSG Q l g).q f with
    | none => rfl
    | some s => rw [hx] at this; simp [← this] at hq
theorem CU_cw {l : List TbE} {g : List TbG} {us : List FuncId} {ks : List (Nat × K1)} (h : TabsOK l g us) : CwOK (CU l g us ks).S (CU l g us ks).cw := by
  intro f T vs hp K hg hT
  exact tbWG_ok (Q := Q) h.qq h.t f T vs hp K hg hT
theorem CU_q {l : List TbE} {g : List TbG} {us : List FuncId} {ks : List (Nat × K1)} : ∀ f, ((CU l g us ks).S.q f).isSome = Q f := fun f => tbSG_q Q l g f
/-- A contract by what must be met. -/
theorem sem {l : List TbE} {g : List TbG} {us : List FuncId} {ks : List (Nat × K1)} (h : TabsOK l g us) {f : FuncId} {fn : Func} {pf : PF} (hf : HasText Try.prog f fn) (hc : compF Try.prog Q fn = some pf) (hpt : partsIn pf.body = []) {n : Nat} {args : List AV} {hp : AHeap} {R : AV → AHeap → Prop} {A : Prop} (he : A = wpF Try.prog (CU l g us ks) n pf args hp R) (ha : A) : ∃ v h', R v h' ∧ CallSem Try.prog f args hp v h' :=
  sem_vc mixed (SU_ok h) CU_q (CU_cw h) hf hc (no_parts hpt) he ha
def sNone : List AV → AHeap → Option AV
  | [.ptr none], _ => some (.bool true)
  | [.ptr (some (k, 0))], h => match h[k]? with
    | some (.row 58 3 [_, .map none, .int .i64 _]) => some (.bool true)
    | some (.row 58 3 [_, .map (some _), .int .i64 _]) => some (.bool false)
    | _ => none
  | _, _ => none
def sSize : List AV → AHeap → Option AV
  | [.ptr none], _ => some (.int .i64 0)
  | [.ptr (some (k, 0))], h => match h[k]? with
    | some (.row 66 5 [_, .int .i64 n, _, _, _]) => some (.int .i64 n)
    | _ => none
  | _, _ => none
theorem none_vcn (h : AHeap) (R : AV → AHeap → Prop) : (R (AV.bool true) h) = wpF Try.prog (CT [] [] []) 30 p24 [.ptr none] h R := by kernel_rfl
theorem none_vc (h : AHeap) (k : Nat) (R : AV → AHeap → Prop) : (∃ (b : Bool), askB b (∃ (m : Nat), (Option.bind (cellsAt h k) fun (x : List AV) => partR none x 1) = some (AV.map (some m)) ∧ R (AV.bool false) h) ((Option.bind (cellsAt h k) fun (x : List AV) => partR none x 1) = some (AV.map none) ∧ R (AV.bool true) h)) = wpF Try.prog (CT [] [] [(9, .map)]) 30 p24 [.ptr (some (k, 0))] h R := by kernel_rfl
theorem size_vcn (h : AHeap) (R : AV → AHeap → Prop) : (R (AV.int .i64 0) h) = wpF Try.prog (CT [] [] []) 30 p27 [.ptr none] h R := by kernel_rfl
theorem size_vc (h : AHeap) (k : Nat) (R : AV → AHeap → Prop) : (∃ (n : Int), (Option.bind (cellsAt h k) fun (x : List AV) => partR none x 1) = some (AV.int .i64 n) ∧ R (AV.int .i64 n) h) = wpF Try.prog (CT [] [] [(8, i64)]) 30 p27 [.ptr (some (k, 0))] h R := by kernel_rfl
theorem tabs0 : TabsOK [] [] [] := ⟨fun _ h => (by cases h), rfl, fun _ h => (by cases h), fun _ h => (by cases h), fun _ h => (by cases h), rfl⟩
theorem fld {h : AHeap} {k i : Nat} {t : TypeId} {s : Nat} {cs : List AV} {v : AV} (hk : h[k]? = some (.row t s cs)) (hi : cs[i]? = some v) : (Option.bind (cellsAt h k) fun (x : List AV) => partR none x i) = some v := by
  simp only [cellsAt, hk, Option.bind_some, objCells, partR]
  exact hi
theorem none_ok : QuietOK Try.prog 24 sNone := by
  refine quiet_here ht24 (fun args h v hv => ?_) (fun args h k o hk ⟨ρ, ha, hw⟩ => ?_)
  · unfold sNone at hv
    split at hv
    · cases hv
      obtain ⟨v, h', ⟨rfl, rfl⟩, hs⟩ := sem (R := fun v h' => v = .bool true ∧ h' = h) tabs0 ht24 c24 rfl (none_vcn h _) ⟨rfl, rfl⟩
      exact ⟨rfl, hs⟩
    · rename_i k
      split at hv
      · rename_i hk
        cases hv
        obtain ⟨v, h', ⟨rfl, rfl⟩, hs⟩ := sem (R := fun v h' => v = .bool true ∧ h' = h) tabs0 ht24 c24 rfl (none_vc h k _) ⟨false, fld hk rfl, rfl, rfl⟩
        exact ⟨rfl, hs⟩
      · rename_i hk
        cases hv
        obtain ⟨v, h', ⟨rfl, rfl⟩, hs⟩ := sem (R := fun v h' => v = .bool false ∧ h' = h) tabs0 ht24 c24 rfl (none_vc h k _) ⟨true, _, fld hk rfl, rfl, rfl⟩
        exact ⟨rfl, hs⟩
      · cases hv
    · cases hv
  · unfold sNone
    split
    · rfl
    · simp only [named_row hk (ha _ List.mem_cons_self)]
    · rfl
theorem size_ok : QuietOK Try.prog 27 sSize := by
  refine quiet_here ht27 (fun args h v hv => ?_) (fun args h k o hk ⟨ρ, ha, hw⟩ => ?_)
  · unfold sSize at hv
    split at hv
    · cases hv
      obtain ⟨v, h', ⟨rfl, rfl⟩, hs⟩ := sem (R := fun v h' => v = .int .i64 0 ∧ h' = h) tabs0 ht27 c27 rfl (size_vcn h _) ⟨rfl, rfl⟩
      exact ⟨rfl, hs⟩
    · rename_i k
      split at hv
      · rename_i n _ _ _ hk
        cases hv
        obtain ⟨v, h', ⟨rfl, rfl⟩, hs⟩ := sem (R := fun v h' => v = .int .i64 n ∧ h' = h) tabs0 ht27 c27 rfl (size_vc h k _) ⟨n, fld hk rfl, rfl, rfl⟩
        exact ⟨rfl, hs⟩
      · cases hv
    · cases hv
  · unfold sSize
    split
    · rfl
    · simp only [named_row hk (ha _ List.mem_cons_self)]
    · rfl
/-- A tree, each node by the row where it stands. -/
inductive TT where
  | nil
  | node (k : Nat) (id : Int) (l r : TT)
def TT.av : TT → AV
  | .nil => .ptr none
  | .node k _ _ _ => .ptr (some (k, 0))
def TT.ids : TT → List Int
  | .nil => []
  | .node _ id l r => l.ids ++ id :: r.ids
def TT.depth : TT → Nat
  | .nil => 0
  | .node _ _ l r => 1 + max l.depth r.depth
def TT.nodes : TT → List Nat
  | .nil => []
  | .node k _ l r => l.nodes ++ k :: r.nodes
/-- The tree stands in memory. -/
def Rep (h : AHeap) : TT → Prop
  | .nil => True
  | .node k id l r => (∃ sz up, h[k]? = some (.row 66 5 [.int .i64 id, .int .i64 sz, .ptr up, l.av, r.av])) ∧ Rep h l ∧ Rep h r
theorem Rep.one {h : AHeap} : ∀ {T T' : TT}, Rep h T → Rep h T' → T.av = T'.av → T = T'
  | .nil, .nil, _, _, _ => rfl
  | .nil, .node .., _, _, e => by simp [TT.av] at e
  | .node .., .nil, _, _, e => by simp [TT.av] at e
  | .node k id l r, .node k' id' l' r', h1, h2, e => by
    simp only [TT.av, AV.ptr.injEq, Option.some.injEq, Prod.mk.injEq, and_true] at e
    subst e
    obtain ⟨⟨sz, up, a1⟩, a2, a3⟩ := h1
    obtain ⟨⟨sz', up', b1⟩, b2, b3⟩ := h2
    rw [a1] at b1
    simp only [Option.some.injEq, AObj.row.injEq, true_and, List.cons.injEq, AV.int.injEq, and_true] at b1
    obtain ⟨rfl, rfl, -, e1, e2⟩ := b1
    rw [Rep.one a2 b2 e1, Rep.one a3 b3 e2]
theorem Rep.mono {h h' : AHeap} : ∀ {T : TT}, Rep h T → (∀ j ∈ T.nodes, ∀ o, h[j]? = some o → h'[j]? = some o) → Rep h' T
  | .nil, _, _ => trivial
  | .node k id l r, ⟨⟨sz, up, a1⟩, a2, a3⟩, hm => ⟨⟨sz, up, hm k (by simp [TT.nodes]) _ a1⟩, a2.mono fun j hj => hm j (by simp [TT.nodes, hj]), a3.mono fun j hj => hm j (by simp [TT.nodes, hj])⟩
theorem Rep.rows {h : AHeap} : ∀ {T : TT}, Rep h T → ∀ j ∈ T.nodes, ∃ cs, h[j]? = some (.row 66 5 cs)
  | .nil, _, j, hj => by cases hj
  | .node k id l r, ⟨⟨sz, up, a1⟩, a2, a3⟩, j, hj => by
    simp only [TT.nodes, List.mem_append, List.mem_cons] at hj
    rcases hj with hj | rfl | hj
    · exact a2.rows j hj
    · exact ⟨_, a1⟩
    · exact a3.rows j hj
/-- A tree whose root is named stands there whatever is put where there was nothing. -/
theorem Rep.hole {h : AHeap} {c : Nat → Nat} {k : Nat} {o : AObj} (hk : h[k]? = some .hole) (hw : ∀ (j : Nat) (u : AObj), h[j]? = some u → u.refs (live h) c = true) : ∀ {T : TT}, T.av.refs (live h) c = true → Rep (h.set k o) T → Rep h T
  | .nil, _, _ => trivial
  | .node k' id l r, hr, ⟨⟨sz, up, a1⟩, a2, a3⟩ => by
    rw [named_row hk hr] at a1
    have h1 := hw _ _ a1
    simp only [AObj.refs, List.all_cons, List.all_nil, Bool.and_true, Bool.and_eq_true] at h1
    exact ⟨⟨sz, up, a1⟩, a2.hole hk hw h1.2.2.2.1, a3.hole hk hw h1.2.2.2.2⟩
theorem Rep.set {h : AHeap} {k : Nat} {o : AObj} (hk : h[k]? = some .hole) {T : TT} (hT : Rep h T) : Rep (h.set k o) T :=
  hT.mono fun j hj o' ho => by
    obtain ⟨cs, hc⟩ := hT.rows j hj
    have : k ≠ j := fun e => by subst e; rw [hk] at hc; cases hc
    rw [List.getElem?_set_ne this]; exact ho
open Classical in
/-- The tree at a pointer. -/
noncomputable def theT (h : AHeap) (p : AV) : Option TT := if hT : ∃ T : TT, T.av = p ∧ Rep h T then some hT.choose else none
theorem theT_eq {h : AHeap} {T : TT} (hT : Rep h T) : theT h T.av = some T := by
  unfold theT
  have hx : ∃ T' : TT, T'.av = T.av ∧ Rep h T' := ⟨T, rfl, hT⟩
  rw [dif_pos hx]
  exact congrArg some (Rep.one hx.choose_spec.2 hT hx.choose_spec.1)
theorem theT_some {h : AHeap} {p : AV} {T : TT} (he : theT h p = some T) : T.av = p ∧ Rep h T := by
  unfold theT at he
  split at he
  · rename_i hx; cases he; exact hx.choose_spec
  · cases he
def ints (zs : List Int) : List AV := zs.map fun z => AV.int .i64 z
def SlI (h : AHeap) (l : AV) (zs : List Int) : Prop := (l = .sl none 0 (.fix 0) ∧ zs = []) ∨ ∃ k, l = .sl (some (k, 0)) zs.length (.rel 0) ∧ h[k]? = some (.row 2 1 (ints zs))
/-- The row that a slice names. -/
def names1 (l : AV) (j : Nat) : Prop := ∃ n c, l = .sl (some (j, 0)) n c
theorem SlI.mono {h h' : AHeap} {l : AV} {zs : List Int} (hs : SlI h l zs) (hm : ∀ j o, names1 l j → h[j]? = some o → h'[j]? = some o) : SlI h' l zs := by
  rcases hs with hs | ⟨k, rfl, hk⟩
  · exact .inl hs
  · exact .inr ⟨k, rfl, hm k _ ⟨_, _, rfl⟩ hk⟩
def appH (h : AHeap) (l : AV) (slot : Nat) (id : Int) : Option (AV × AHeap) := match l with
  | .sl (some (k, 0)) n (.rel 0) => match h[k]? with
    | some (.row 2 1 cs) => some (.sl (some (slot, 0)) (n + 1) (.rel 0), (h.set k .dead).set slot (.row 2 1 (cs ++ [.int .i64 id])))
    | _ => none
  | .sl none 0 (.fix 0) => some (.sl (some (slot, 0)) 1 (.rel 0), h.set slot (.row 2 1 [.int .i64 id]))
  | _ => none
/-- What the list of a tree's ids comes to. -/
def listH : TT → AHeap → AV → Option (AV × AHeap)
  | .nil, h, l => some (l, h)
  | .node k id L R, h, l => (listH L (h ++ [.row 2 1 [.int .i64 id], .hole]) l).bind fun r => (appH r.2 r.1 (h.length + 1) id).bind fun r => listH R r.2 r.1
/-- Rows stay as they are, but this one. -/
def Same (l : AV) (h h' : AHeap) : Prop := h.length ≤ h'.length ∧ ∀ j o, h[j]? = some o → ¬ names1 l j → h'[j]? = some o
theorem app_spec {h : AHeap} {l : AV} {zs : List Int} {slot : Nat} {id : Int} (hs : SlI h l zs) (hh : h[slot]? = some .hole) :
    ∃ h', appH h l slot id = some (.sl (some (slot, 0)) (zs.length + 1) (.rel 0), h') ∧ h'[slot]? = some (.row 2 1 (ints (zs ++ [id]))) ∧ h'.length = h.length ∧ (∀ j o, j ≠ slot → h[j]? = some o → ¬ names1 l j → h'[j]? = some o) := by
  have hlt : slot < h.length := by
    rcases Nat.lt_or_ge slot h.length with h1 | h1
    · exact h1
    · rw [List.getElem?_eq_none_iff.2 h1] at hh; cases hh
  rcases hs with ⟨rfl, rfl⟩ | ⟨k, rfl, hk⟩
  · refine ⟨_, rfl, ?_, by simp, fun j o hj ho hn => ?_⟩
    · rw [List.getElem?_set_self hlt]; rfl
    · rw [List.getElem?_set_ne (Ne.symm hj)]; exact ho
  · have hne : k ≠ slot := fun e => by subst e; rw [hk] at hh; cases hh
    refine ⟨(h.set k .dead).set slot (.row 2 1 (ints zs ++ [.int .i64 id])), by simp only [appH, hk], ?_, by simp, fun j o hj ho hn => ?_⟩
    · rw [List.getElem?_set_self (by simpa using hlt)]
      simp [ints]
    · have hjk : k ≠ j := fun e => hn ⟨_, _, by rw [e]⟩
      rw [List.getElem?_set_ne (Ne.symm hj), List.getElem?_set_ne hjk]; exact ho
theorem list_spec : ∀ {T : TT} {h : AHeap} {l : AV} {zs : List Int}, Rep h T → SlI h l zs → ∃ v h', listH T h l = some (v, h') ∧ SlI h' v (zs ++ T.ids) ∧ Same l h h' ∧ (∀ j, names1 v j → names1 l j ∨ h.length ≤ j)
  | .nil, h, l, zs, _, hs => ⟨l, h, rfl, by simpa [TT.ids] using hs, ⟨Nat.le_refl _, fun j o ho _ => ho⟩, fun j hj => .inl hj⟩
  | .node k id L R, h, l, zs, ⟨⟨sz, up, a1⟩, a2, a3⟩, hs => by
    have up1 : ∀ j o, h[j]? = some o → (h ++ [AObj.row 2 1 [.int .i64 id], AObj.hole])[j]? = some o := fun j o ho => by
      have hj : j < h.length := by
        rcases Nat.lt_or_ge j h.length with h1 | h1
        · exact h1
        · rw [List.getElem?_eq_none_iff.2 h1] at ho; cases ho
      rw [List.getElem?_append_left hj]; exact ho
    have ltl : ∀ j, names1 l j → j < h.length := fun j ⟨n, c, e⟩ => by
      rcases hs with ⟨rfl, _⟩ | ⟨k', rfl, hk'⟩
      · cases e
      · cases e
        rcases Nat.lt_or_ge j h.length with h1 | h1
        · exact h1
        · rw [List.getElem?_eq_none_iff.2 h1] at hk'; cases hk'
    have nol : ∀ j cs, h[j]? = some (.row 66 5 cs) → ¬ names1 l j := fun j cs hj ⟨n, c, e⟩ => by
      rcases hs with ⟨rfl, _⟩ | ⟨k', rfl, hk'⟩
      · cases e
      · cases e; rw [hj] at hk'; cases hk'
    obtain ⟨v1, h1, b1, b2, ⟨b3, b4⟩, b5⟩ := list_spec (T := L) (h := h ++ [.row 2 1 [.int .i64 id], .hole]) (l := l) (zs := zs) (a2.mono fun j hj => up1 j) (hs.mono fun j o _ => up1 j o)
    have hole1 : h1[h.length + 1]? = some .hole := b4 _ _ (by simp) fun hn => by have := ltl _ hn; omega
    obtain ⟨h2, c1, c2, c3, c4⟩ := app_spec (id := id) b2 hole1
    have keep2 : ∀ j o, j < h.length → h[j]? = some o → ¬ names1 l j → h2[j]? = some o := fun j o hj ho hn => by
      refine c4 j o (by omega) (b4 _ _ (up1 _ _ ho) hn) fun hn' => ?_
      rcases b5 j hn' with g | g
      · exact hn g
      · simp at g; omega
    have a3' : Rep h2 R := a3.mono fun j hj o ho => by
      obtain ⟨cs, hc⟩ := a3.rows j hj
      have hjl : j < h.length := by
        rcases Nat.lt_or_ge j h.length with g | g
        · exact g
        · rw [List.getElem?_eq_none_iff.2 g] at ho; cases ho
      exact keep2 j o hjl ho (nol j cs hc)
    obtain ⟨v3, h3, d1, d2, ⟨d3, d4⟩, d5⟩ := list_spec (T := R) (h := h2) (l := .sl (some (h.length + 1, 0)) ((zs ++ L.ids).length + 1) (.rel 0)) (zs := (zs ++ L.ids) ++ [id]) a3' (.inr ⟨h.length + 1, by simp [Nat.add_assoc], c2⟩)
    refine ⟨v3, h3, ?_, ?_, ⟨?_, fun j o ho hn => ?_⟩, fun j hj => ?_⟩
    · simp only [listH, b1, Option.bind_some, c1, d1]
    · simpa [TT.ids] using d2
    · simp at b3; omega
    · have hjl : j < h.length := by
        rcases Nat.lt_or_ge j h.length with g | g
        · exact g
        · rw [List.getElem?_eq_none_iff.2 g] at ho; cases ho
      refine d4 j o (keep2 j o hjl ho hn) fun ⟨n, c, e⟩ => ?_
      simp only [AV.sl.injEq, Option.some.injEq, Prod.mk.injEq, and_true] at e
      omega
    · rcases d5 j hj with ⟨n, c, e⟩ | g
      · simp only [AV.sl.injEq, Option.some.injEq, Prod.mk.injEq, and_true] at e
        right; omega
      · right; simp at b3; omega
/-- What is put where there was nothing stays there. -/
theorem list_hole : ∀ {T : TT} {h : AHeap} {l : AV} {zs : List Int} {k : Nat} (o : AObj), Rep h T → SlI h l zs → h[k]? = some .hole → listH T (h.set k o) l = (listH T h l).map fun r => (r.1, r.2.set k o)
  | .nil, h, l, zs, k, o, _, _, _ => rfl
  | .node q id L R, h, l, zs, k, o, hT, hs, hk => by
    obtain ⟨⟨sz, up, a1⟩, a2, a3⟩ := hT
    have hkl : k < h.length := by
      rcases Nat.lt_or_ge k h.length with g | g
      · exact g
      · rw [List.getElem?_eq_none_iff.2 g] at hk; cases hk
    have up1 : ∀ j o, h[j]? = some o → (h ++ [AObj.row 2 1 [.int .i64 id], AObj.hole])[j]? = some o := fun j o ho => by
      have hj : j < h.length := by
        rcases Nat.lt_or_ge j h.length with h1 | h1
        · exact h1
        · rw [List.getElem?_eq_none_iff.2 h1] at ho; cases ho
      rw [List.getElem?_append_left hj]; exact ho
    have ltl : ∀ j, names1 l j → j < h.length ∧ j ≠ k := fun j ⟨n, c, e⟩ => by
      rcases hs with ⟨rfl, _⟩ | ⟨k', rfl, hk'⟩
      · cases e
      · cases e
        refine ⟨?_, fun e => by subst e; rw [hk] at hk'; cases hk'⟩
        rcases Nat.lt_or_ge j h.length with h1 | h1
        · exact h1
        · rw [List.getElem?_eq_none_iff.2 h1] at hk'; cases hk'
    have nol : ∀ j cs, h[j]? = some (.row 66 5 cs) → ¬ names1 l j := fun j cs hj ⟨n, c, e⟩ => by
      rcases hs with ⟨rfl, _⟩ | ⟨k', rfl, hk'⟩
      · cases e
      · cases e; rw [hj] at hk'; cases hk'
    have hT1 : Rep (h ++ [.row 2 1 [.int .i64 id], .hole]) L := a2.mono fun j hj => up1 j
    have hs1 : SlI (h ++ [.row 2 1 [.int .i64 id], .hole]) l zs := hs.mono fun j o _ => up1 j o
    obtain ⟨v1, h1, b1, b2, ⟨b3, b4⟩, b5⟩ := list_spec hT1 hs1
    have hole1 : h1[h.length + 1]? = some .hole := b4 _ _ (by simp) fun hn => by have := (ltl _ hn).1; omega
    have hole2 : h1[k]? = some .hole := b4 _ _ (up1 _ _ hk) fun hn => (ltl _ hn).2 rfl
    obtain ⟨h2, c1, c2, c3, c4⟩ := app_spec (id := id) b2 hole1
    have hne : ¬ names1 v1 k := fun hn => by
      rcases b5 k hn with g | g
      · exact (ltl _ g).2 rfl
      · simp at g; omega
    have c5 : appH (h1.set k o) v1 (h.length + 1) id = some (.sl (some (h.length + 1, 0)) ((zs ++ L.ids).length + 1) (.rel 0), h2.set k o) := by
      rcases b2 with ⟨rfl, hz⟩ | ⟨k', rfl, hk'⟩
      · simp only [appH, Option.some.injEq, Prod.mk.injEq] at c1 ⊢
        obtain ⟨c1, rfl⟩ := c1
        exact ⟨c1, by rw [List.set_comm _ _ (by omega)]⟩
      · have hkk : k' ≠ k := fun e => hne ⟨_, _, by rw [e]⟩
        simp only [appH, hk', Option.some.injEq, Prod.mk.injEq] at c1
        simp only [appH, List.getElem?_set_ne (Ne.symm hkk), hk', Option.some.injEq, Prod.mk.injEq]
        obtain ⟨c1, rfl⟩ := c1
        refine ⟨c1, ?_⟩
        rw [List.set_comm _ _ (Ne.symm hkk), List.set_comm _ _ (show k ≠ h.length + 1 by omega)]
    have keep2 : ∀ j o, j < h.length → h[j]? = some o → ¬ names1 l j → h2[j]? = some o := fun j o hj ho hn => by
      refine c4 j o (by omega) (b4 _ _ (up1 _ _ ho) hn) fun hn' => ?_
      rcases b5 j hn' with g | g
      · exact hn g
      · simp at g; omega
    have a3' : Rep h2 R := a3.mono fun j hj o ho => by
      obtain ⟨cs, hc⟩ := a3.rows j hj
      have hjl : j < h.length := by
        rcases Nat.lt_or_ge j h.length with g | g
        · exact g
        · rw [List.getElem?_eq_none_iff.2 g] at ho; cases ho
      exact keep2 j o hjl ho (nol j cs hc)
    have e0 : h.set k o ++ [AObj.row 2 1 [.int .i64 id], AObj.hole] = (h ++ [AObj.row 2 1 [.int .i64 id], AObj.hole]).set k o := by rw [List.set_append_left _ _ hkl]
    have e1 := list_hole o hT1 hs1 (up1 _ _ hk)
    have e2 := list_hole (T := R) (h := h2) (l := .sl (some (h.length + 1, 0)) ((zs ++ L.ids).length + 1) (.rel 0)) (zs := (zs ++ L.ids) ++ [id]) (k := k) o a3' (.inr ⟨h.length + 1, by simp [Nat.add_assoc], c2⟩) (c4 _ _ (by omega) hole2 hne)
    simp only [listH, List.length_set]
    rw [e0, e1, b1]
    simp only [Option.map_some, Option.bind_some, c5, c1]
    exact e2

end Go.Proofs.Ytncmgbbbekabdaa
