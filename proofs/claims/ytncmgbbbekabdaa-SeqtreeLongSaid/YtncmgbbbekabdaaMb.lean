/- Written by merging: Sd Se Sf. -/
import Derived.Test.YtncmgbbbekabdaaMa
namespace Go.Proofs.Ytncmgbbbekabdaa
open Go Go.Am Go.RowKit
set_option maxRecDepth 100000
set_option linter.unusedVariables false
set_option linter.unusedSimpArgs false
noncomputable def tb1 : List TbE := [⟨24, sNone, .of (.one .bool)⟩, ⟨27, sSize, .of (.one i64)⟩]
noncomputable def tb2 (sD : List AV → AHeap → Option AV) : List TbE := [⟨24, sNone, .of (.one .bool)⟩, ⟨26, sD, .of (.one i64)⟩]
theorem weight_vc (h : AHeap) (v : Option (Nat × Nat)) (R : AV → AHeap → Prop) : (∃ (n : Int), TbE.s { f := 27, s := sSize, r := Rs.of (Rs1.one i64) } [AV.ptr v] h = some (AV.int .i64 n) ∧ R (AV.int .i64 (IntKind.wrap .i64 (n + 1))) h) = (wpF Try.prog (CT tb1 [] []) 30 p40 [.ptr v] h R) := by kernel_rfl
theorem len_vcn (h : AHeap) (R : AV → AHeap → Prop) : (∃ (b : Bool), askB b (some (AV.bool true) = some (AV.bool true) ∧ R (AV.int .i64 0) h) (some (AV.bool true) = some (AV.bool false) ∧ False)) = (wpF Try.prog (CT tb1 [] []) 30 p10 [.ptr none] h R) := by kernel_rfl
theorem len_vc (h : AHeap) (k : Nat) (R : AV → AHeap → Prop) : (∃ (b : Bool), askB b (TbE.s { f := 24, s := sNone, r := Rs.of (Rs1.one K1.bool) } [AV.ptr (some (k, 0))] h = some (AV.bool true) ∧ R (AV.int .i64 0) h) (TbE.s { f := 24, s := sNone, r := Rs.of (Rs1.one K1.bool) } [AV.ptr (some (k, 0))] h = some (AV.bool false) ∧ ∃ (b : Bool), askB b (∃ (m : Nat), (Option.bind (cellsAt h k) fun (x : List AV) => partR none x 1) = some (AV.map (some m)) ∧ ∃ (es : List (AV × AV)), h[m]? = some (AObj.map es) ∧ R (AV.int .i64 (↑(List.length es) : Int)) h) ((Option.bind (cellsAt h k) fun (x : List AV) => partR none x 1) = some (AV.map none) ∧ R (AV.int .i64 0) h))) = (wpF Try.prog (CT tb1 [] [(8, .map)]) 30 p10 [.ptr (some (k, 0))] h R) := by kernel_rfl
theorem looked_vcn (h : AHeap) (R : AV → AHeap → Prop) : (∃ (b : Bool), askB b (some (AV.bool true) = some (AV.bool true) ∧ R (AV.int .i64 0) h) (some (AV.bool true) = some (AV.bool false) ∧ False)) = (wpF Try.prog (CT tb1 [] []) 30 p22 [.ptr none] h R) := by kernel_rfl
theorem looked_vc (h : AHeap) (k : Nat) (R : AV → AHeap → Prop) : (∃ (b : Bool), askB b (TbE.s { f := 24, s := sNone, r := Rs.of (Rs1.one K1.bool) } [AV.ptr (some (k, 0))] h = some (AV.bool true) ∧ R (AV.int .i64 0) h) (TbE.s { f := 24, s := sNone, r := Rs.of (Rs1.one K1.bool) } [AV.ptr (some (k, 0))] h = some (AV.bool false) ∧ ∃ (n : Int), (Option.bind (cellsAt h k) fun (x : List AV) => partR none x 2) = some (AV.int .i64 n) ∧ R (AV.int .i64 n) h)) = (wpF Try.prog (CT tb1 [] [(8, i64)]) 30 p22 [.ptr (some (k, 0))] h R) := by kernel_rfl
theorem depth_vcn (sD : List AV → AHeap → Option AV) (h : AHeap) (R : AV → AHeap → Prop) : (R (AV.int .i64 0) h) = (wpF Try.prog (CT (tb2 sD) [] []) 30 p26 [.ptr none] h R) := by kernel_rfl
theorem depth_vc (sD : List AV → AHeap → Option AV) (h : AHeap) (k : Nat) (R : AV → AHeap → Prop) : (∃ (p : Option (Nat × Nat)), (Option.bind (cellsAt h k) fun (x : List AV) => partR none x 3) = some (AV.ptr p) ∧ ∃ (n : Int), TbE.s { f := 26, s := sD, r := Rs.of (Rs1.one i64) } [AV.ptr p] h = some (AV.int .i64 n) ∧ ∃ (p : Option (Nat × Nat)), (Option.bind (cellsAt h k) fun (x : List AV) => partR none x 4) = some (AV.ptr p) ∧ ∃ (n_1 : Int), TbE.s { f := 26, s := sD, r := Rs.of (Rs1.one i64) } [AV.ptr p] h = some (AV.int .i64 n_1) ∧ R (AV.int .i64 (IntKind.wrap .i64 (1 + if true = true then if n_1 > n then n_1 else n else if n_1 < n then n_1 else n))) h) = (wpF Try.prog (CT (tb2 sD) [] [(8, .ptrV), (13, .ptrV)]) 30 p26 [.ptr (some (k, 0))] h R) := by kernel_rfl
theorem deep_vcn (sD : List AV → AHeap → Option AV) (h : AHeap) (R : AV → AHeap → Prop) : (∃ (b : Bool), askB b (some (AV.bool true) = some (AV.bool true) ∧ R (AV.int .i64 0) h) (some (AV.bool true) = some (AV.bool false) ∧ False)) = (wpF Try.prog (CT (tb2 sD) [] []) 30 p11 [.ptr none] h R) := by kernel_rfl
theorem deep_vc (sD : List AV → AHeap → Option AV) (h : AHeap) (k : Nat) (R : AV → AHeap → Prop) : (∃ (b : Bool), askB b (TbE.s { f := 24, s := sNone, r := Rs.of (Rs1.one K1.bool) } [AV.ptr (some (k, 0))] h = some (AV.bool true) ∧ R (AV.int .i64 0) h) (TbE.s { f := 24, s := sNone, r := Rs.of (Rs1.one K1.bool) } [AV.ptr (some (k, 0))] h = some (AV.bool false) ∧ ∃ (p : Option (Nat × Nat)), (Option.bind (cellsAt h k) fun (x : List AV) => partR none x 0) = some (AV.ptr p) ∧ ∃ (n : Int), TbE.s { f := 26, s := sD, r := Rs.of (Rs1.one i64) } [AV.ptr p] h = some (AV.int .i64 n) ∧ R (AV.int .i64 n) h)) = (wpF Try.prog (CT (tb2 sD) [] [(8, .ptrV)]) 30 p11 [.ptr (some (k, 0))] h R) := by kernel_rfl
theorem tabs1 : TabsOK tb1 [] [] := by
  refine ⟨fun x hx => ?_, by kernel_rfl, fun _ h => (by cases h), fun _ h => (by cases h), fun _ h => (by cases h), rfl⟩
  simp only [tb1, List.mem_cons, List.not_mem_nil, or_false] at hx
  rcases hx with rfl | rfl
  · exact none_ok
  · exact size_ok
def sWeight (vs : List AV) (h : AHeap) : Option AV := match sSize vs h with
  | some (.int .i64 n) => some (.int .i64 (IntKind.wrap .i64 (n + 1)))
  | _ => none
theorem size_ptr {vs : List AV} {h : AHeap} {v : AV} (hv : sSize vs h = some v) : ∃ p, vs = [.ptr p] := by
  unfold sSize at hv
  split at hv
  · exact ⟨_, rfl⟩
  · exact ⟨_, rfl⟩
  · cases hv
theorem weight_ok : QuietOK Try.prog 40 sWeight := by
  refine quiet_here ht40 (fun args h v hv => ?_) (fun args h k o hk ha => ?_)
  · unfold sWeight at hv
    split at hv
    · rename_i n hn
      cases hv
      obtain ⟨p, rfl⟩ := size_ptr hn
      obtain ⟨v, h', ⟨rfl, rfl⟩, hs⟩ := sem (R := fun v h' => v = .int .i64 (IntKind.wrap .i64 (n + 1)) ∧ h' = h) tabs1 ht40 c40 rfl (weight_vc h p _) ⟨n, hn, rfl, rfl⟩
      exact ⟨rfl, hs⟩
    · cases hv
  · unfold sWeight
    rw [size_ok.2.1 args h k o hk ha]
def sLen : List AV → AHeap → Option AV
  | [.ptr none], _ => some (.int .i64 0)
  | [.ptr (some (k, 0))], h => match h[k]? with
    | some (.row 58 3 [_, .map none, .int .i64 _]) => some (.int .i64 0)
    | some (.row 58 3 [_, .map (some m), .int .i64 _]) => match h[m]? with
      | some (.map es) => some (.int .i64 (es.length : Nat))
      | _ => none
    | _ => none
  | _, _ => none
def sLooked : List AV → AHeap → Option AV
  | [.ptr none], _ => some (.int .i64 0)
  | [.ptr (some (k, 0))], h => match h[k]? with
    | some (.row 58 3 [_, .map none, .int .i64 _]) => some (.int .i64 0)
    | some (.row 58 3 [_, .map (some m), .int .i64 n]) => some (.int .i64 n)
    | _ => none
  | _, _ => none
theorem len_ok : QuietOK Try.prog 10 sLen := by
  refine quiet_here ht10 (fun args h v hv => ?_) (fun args h k o hk ⟨ρ, ha, hw⟩ => ?_)
  · unfold sLen at hv
    split at hv
    · cases hv
      obtain ⟨v, h', ⟨rfl, rfl⟩, hs⟩ := sem (R := fun v h' => v = .int .i64 0 ∧ h' = h) tabs1 ht10 c10 rfl (len_vcn h _) ⟨true, rfl, rfl, rfl⟩
      exact ⟨rfl, hs⟩
    · rename_i k
      split at hv
      · rename_i hk
        cases hv
        obtain ⟨v, h', ⟨rfl, rfl⟩, hs⟩ := sem (R := fun v h' => v = .int .i64 0 ∧ h' = h) tabs1 ht10 c10 rfl (len_vc h k _) ⟨true, (show sNone [.ptr (some (k, 0))] h = some _ by simp only [sNone, hk]), rfl, rfl⟩
        exact ⟨rfl, hs⟩
      · rename_i m _ hk
        split at hv
        · rename_i es hm
          cases hv
          obtain ⟨v, h', ⟨rfl, rfl⟩, hs⟩ := sem (R := fun v h' => v = .int .i64 ((es.length : Nat) : Int) ∧ h' = h) tabs1 ht10 c10 rfl (len_vc h k _) ⟨false, (show sNone [.ptr (some (k, 0))] h = some _ by simp only [sNone, hk]), true, m, fld hk rfl, es, hm, rfl, rfl⟩
          exact ⟨rfl, hs⟩
        · cases hv
      · cases hv
    · cases hv
  · unfold sLen
    split
    · rfl
    · rename_i k'
      have hp := ha _ List.mem_cons_self
      simp only [named_row hk hp]
      split
      · rfl
      · rename_i m _ hk'
        have h1 := hw _ _ hk'
        simp only [AObj.refs, List.all_cons, List.all_nil, Bool.and_true, Bool.and_eq_true] at h1
        rw [named_map hk h1.2.1]
      · rfl
    · rfl
theorem looked_ok : QuietOK Try.prog 22 sLooked := by
  refine quiet_here ht22 (fun args h v hv => ?_) (fun args h k o hk ⟨ρ, ha, hw⟩ => ?_)
  · unfold sLooked at hv
    split at hv
    · cases hv
      obtain ⟨v, h', ⟨rfl, rfl⟩, hs⟩ := sem (R := fun v h' => v = .int .i64 0 ∧ h' = h) tabs1 ht22 c22 rfl (looked_vcn h _) ⟨true, rfl, rfl, rfl⟩
      exact ⟨rfl, hs⟩
    · rename_i k
      split at hv
      · rename_i hk
        cases hv
        obtain ⟨v, h', ⟨rfl, rfl⟩, hs⟩ := sem (R := fun v h' => v = .int .i64 0 ∧ h' = h) tabs1 ht22 c22 rfl (looked_vc h k _) ⟨true, (show sNone [.ptr (some (k, 0))] h = some _ by simp only [sNone, hk]), rfl, rfl⟩
        exact ⟨rfl, hs⟩
      · rename_i m n hk
        cases hv
        obtain ⟨v, h', ⟨rfl, rfl⟩, hs⟩ := sem (R := fun v h' => v = .int .i64 n ∧ h' = h) tabs1 ht22 c22 rfl (looked_vc h k _) ⟨false, (show sNone [.ptr (some (k, 0))] h = some _ by simp only [sNone, hk]), n, fld hk rfl, rfl, rfl⟩
        exact ⟨rfl, hs⟩
      · cases hv
    · cases hv
  · unfold sLooked
    split
    · rfl
    · have hp := ha _ List.mem_cons_self
      simp only [named_row hk hp]
    · rfl
/-- How deep, so far down. -/
def depF : Nat → AHeap → AV → Option Nat
  | _, _, .ptr none => some 0
  | n + 1, h, .ptr (some (k, 0)) => match h[k]? with
    | some (.row 66 5 [_, _, _, .ptr l, .ptr r]) => (depF n h (.ptr l)).bind fun a => (depF n h (.ptr r)).map fun b => 1 + max a b
    | _ => none
  | _, _, _ => none
theorem dep_inv {n : Nat} {h : AHeap} {p : Option (Nat × Nat)} {d : Nat} (hd : depF n h (.ptr p) = some d) : (p = none ∧ d = 0) ∨
    ∃ n' k i1 i2 i3 l r a b, n = n' + 1 ∧ p = some (k, 0) ∧ h[k]? = some (.row 66 5 [i1, i2, i3, .ptr l, .ptr r]) ∧ depF n' h (.ptr l) = some a ∧ depF n' h (.ptr r) = some b ∧ d = 1 + max a b := by
  match p, n, hd with
  | none, n, hd => unfold depF at hd; exact .inl ⟨rfl, by cases hd; rfl⟩
  | some (k, 0), 0, hd => simp [depF] at hd
  | some (k, o + 1), n, hd => unfold depF at hd; cases hd
  | some (k, 0), n + 1, hd =>
    simp only [depF] at hd
    split at hd
    · rename_i i1 i2 i3 l r hk
      simp only [Option.bind_eq_some_iff, Option.map_eq_some_iff] at hd
      obtain ⟨a, h1, b, h2, rfl⟩ := hd
      exact .inr ⟨n, k, i1, i2, i3, l, r, a, b, rfl, rfl, hk, h1, h2, rfl⟩
    · cases hd
theorem dep_le : ∀ {n : Nat} {h : AHeap} {p : Option (Nat × Nat)} {d : Nat}, depF n h (.ptr p) = some d → d ≤ n
  | n, h, p, d, hd => by
    rcases dep_inv hd with ⟨rfl, rfl⟩ | ⟨n', k, i1, i2, i3, l, r, a, b, hn', rfl, hk, h1, h2, rfl⟩
    · omega
    · have g1 := dep_le h1
      have g2 := dep_le h2
      omega
termination_by n => n
theorem dep_rep {h : AHeap} : ∀ {T : TT} {n : Nat}, Rep h T → T.depth ≤ n → depF n h T.av = some T.depth
  | .nil, n, _, _ => by unfold depF; rfl
  | .node k id l r, 0, _, hn => by simp [TT.depth] at hn
  | .node k id l r, n + 1, ⟨⟨sz, up, a1⟩, a2, a3⟩, hn => by
    simp only [TT.depth] at hn
    have h1 := dep_rep a2 (n := n) (by omega)
    have h2 := dep_rep a3 (n := n) (by omega)
    have e1 : ∃ p, l.av = .ptr p := by cases l <;> exact ⟨_, rfl⟩
    have e2 : ∃ p, r.av = .ptr p := by cases r <;> exact ⟨_, rfl⟩
    obtain ⟨p1, e1⟩ := e1
    obtain ⟨p2, e2⟩ := e2
    rw [e1] at a1 h1
    rw [e2] at a1 h2
    simp only [TT.av, depF, a1, h1, h2, Option.bind_some, Option.map_some, TT.depth]
theorem dep_hole {h : AHeap} {c : Nat → Nat} {k : Nat} {o : AObj} (hk : h[k]? = some .hole) (hw : ∀ (j : Nat) (u : AObj), h[j]? = some u → u.refs (live h) c = true) : ∀ {n : Nat} {v : AV}, v.refs (live h) c = true → depF n (h.set k o) v = depF n h v
  | 0, v, hv => by unfold depF; split <;> first | rfl | omega
  | n + 1, v, hv => by
    unfold depF
    split
    · rfl
    · rename_i _ _ _ n2 k2 he
      cases he
      rw [named_row hk hv]
      split
      · rename_i a1
        have h1 := hw _ _ a1
        simp only [AObj.refs, List.all_cons, List.all_nil, Bool.and_true, Bool.and_eq_true] at h1
        rw [dep_hole hk hw h1.2.2.2.1, dep_hole hk hw h1.2.2.2.2]
      · rfl
    · rfl
def sDepth (n : Nat) : List AV → AHeap → Option AV
  | [.ptr p], h => (depF n h (.ptr p)).map fun d => .int .i64 (d : Nat)
  | _, _ => none
theorem tabs2 {sD : List AV → AHeap → Option AV} (hD : QuietOK Try.prog 26 sD) : TabsOK (tb2 sD) [] [] := by
  refine ⟨fun x hx => ?_, by kernel_rfl, fun _ h => (by cases h), fun _ h => (by cases h), fun _ h => (by cases h), rfl⟩
  simp only [tb2, List.mem_cons, List.not_mem_nil, or_false] at hx
  rcases hx with rfl | rfl
  · exact none_ok
  · exact hD
theorem none_quiet {g : FuncId} {fn : Func} (hf : HasText Try.prog g fn) : QuietOK Try.prog g fun _ _ => none := ⟨fun _ _ _ h => (by cases h), fun _ _ _ _ _ _ => rfl, fn, hf.1, hf.2.1, hf.2.2⟩
theorem depth_free (n : Nat) (args : List AV) (h : AHeap) (k : Nat) (o : AObj) (hk : h[k]? = some .hole) (ha : ∃ ρ : Rho, (∀ x ∈ args, AV.ok h ρ x) ∧ ∀ (j : Nat) (u : AObj), h[j]? = some u → u.refs (live h) (fun k => (ρ k).cap) = true) : sDepth n args (h.set k o) = sDepth n args h := by
  obtain ⟨ρ, ha, hw⟩ := ha
  unfold sDepth
  split
  · rw [dep_hole hk hw (ha _ List.mem_cons_self)]
  · rfl
theorem depth_ok : ∀ n, n ≤ 4000000000000000000 → QuietOK Try.prog 26 (sDepth n)
  | 0, _ => by
    refine quiet_here ht26 (fun args h v hv => ?_) (depth_free 0)
    unfold sDepth at hv
    split at hv
    · rename_i p
      simp only [Option.map_eq_some_iff] at hv
      obtain ⟨d, hd, rfl⟩ := hv
      rcases dep_inv hd with ⟨rfl, rfl⟩ | ⟨n', _, _, _, _, _, _, _, _, hn', _⟩
      · obtain ⟨v, h', ⟨rfl, rfl⟩, hs⟩ := sem (R := fun v h' => v = .int .i64 0 ∧ h' = h) (tabs2 (none_quiet ht26)) ht26 c26 rfl (depth_vcn (fun _ _ => none) h _) ⟨rfl, rfl⟩
        exact ⟨rfl, hs⟩
      · omega
    · cases hv
  | n + 1, hn => by
    have ih := depth_ok n (by omega)
    refine quiet_here ht26 (fun args h v hv => ?_) (depth_free (n + 1))
    unfold sDepth at hv
    split at hv
    · rename_i p
      simp only [Option.map_eq_some_iff] at hv
      obtain ⟨d, hd, rfl⟩ := hv
      rcases dep_inv hd with ⟨rfl, rfl⟩ | ⟨n', k, i1, i2, i3, l, r, a, b, hn', rfl, hk, h1, h2, rfl⟩
      · obtain ⟨v, h', ⟨rfl, rfl⟩, hs⟩ := sem (R := fun v h' => v = .int .i64 0 ∧ h' = h) (tabs2 (none_quiet ht26)) ht26 c26 rfl (depth_vcn (fun _ _ => none) h _) ⟨rfl, rfl⟩
        exact ⟨rfl, hs⟩
      · obtain rfl : n' = n := by omega
        have g1 := dep_le h1
        have g2 := dep_le h2
        have e : (AV.int .i64 (IntKind.wrap .i64 (1 + if true = true then if (b : Int) > (a : Int) then (b : Int) else (a : Int) else if (b : Int) < (a : Int) then (b : Int) else (a : Int)))) = .int .i64 (((1 + max a b : Nat) : Nat) : Int) := by
          have : (if true = true then if (b : Int) > (a : Int) then (b : Int) else (a : Int) else if (b : Int) < (a : Int) then (b : Int) else (a : Int)) = ((max a b : Nat) : Int) := by
            simp only [if_true]; split <;> omega
          rw [this, IntKind.wrap_i64]
          exact congrArg (AV.int .i64) (by clear hd hk h1 h2 this; omega)
        obtain ⟨v, h', ⟨rfl, rfl⟩, hs⟩ := sem (R := fun v h' => v = .int .i64 (((1 + max a b : Nat) : Nat) : Int) ∧ h' = h) (tabs2 ih) ht26 c26 rfl (depth_vc (sDepth n') h k _)
          ⟨l, fld hk rfl, a, (show sDepth n' [.ptr l] h = some _ by simp only [sDepth, h1, Option.map_some]), r, fld hk rfl, b, (show sDepth n' [.ptr r] h = some _ by simp only [sDepth, h2, Option.map_some]), e, rfl⟩
        exact ⟨rfl, hs⟩
    · cases hv
def dMax : Nat := 4000
def sDeep : List AV → AHeap → Option AV
  | [.ptr none], _ => some (.int .i64 0)
  | [.ptr (some (k, 0))], h => match h[k]? with
    | some (.row 58 3 [_, .map none, .int .i64 _]) => some (.int .i64 0)
    | some (.row 58 3 [.ptr p, .map (some m), .int .i64 _]) => sDepth dMax [.ptr p] h
    | _ => none
  | _, _ => none
theorem deep_ok : QuietOK Try.prog 11 sDeep := by
  have hD := depth_ok dMax (by decide)
  refine quiet_here ht11 (fun args h v hv => ?_) (fun args h k o hk ⟨ρ, ha, hw⟩ => ?_)
  · unfold sDeep at hv
    split at hv
    · cases hv
      obtain ⟨v, h', ⟨rfl, rfl⟩, hs⟩ := sem (R := fun v h' => v = .int .i64 0 ∧ h' = h) (tabs2 hD) ht11 c11 rfl (deep_vcn _ h _) ⟨true, rfl, rfl, rfl⟩
      exact ⟨rfl, hs⟩
    · rename_i k
      split at hv
      · rename_i hk
        cases hv
        obtain ⟨v, h', ⟨rfl, rfl⟩, hs⟩ := sem (R := fun v h' => v = .int .i64 0 ∧ h' = h) (tabs2 hD) ht11 c11 rfl (deep_vc _ h k _) ⟨true, (show sNone [.ptr (some (k, 0))] h = some _ by simp only [sNone, hk]), rfl, rfl⟩
        exact ⟨rfl, hs⟩
      · rename_i p m _ hk
        have hv0 := hv
        simp only [sDepth, Option.map_eq_some_iff] at hv
        obtain ⟨d, hd, rfl⟩ := hv
        obtain ⟨v, h', ⟨rfl, rfl⟩, hs⟩ := sem (R := fun v h' => v = .int .i64 (d : Nat) ∧ h' = h) (tabs2 hD) ht11 c11 rfl (deep_vc _ h k _) ⟨false, (show sNone [.ptr (some (k, 0))] h = some _ by simp only [sNone, hk]), p, fld hk rfl, d, hv0, rfl, rfl⟩
        exact ⟨rfl, hs⟩
      · cases hv
    · cases hv
  · unfold sDeep
    split
    · rfl
    · have hp := ha _ List.mem_cons_self
      simp only [named_row hk hp]
      split
      · rfl
      · rename_i p m _ hk'
        have h1 := hw _ _ hk'
        simp only [AObj.refs, List.all_cons, List.all_nil, Bool.and_true, Bool.and_eq_true] at h1
        exact depth_free dMax [.ptr p] h k o hk ⟨ρ, fun x hx => by rw [List.mem_singleton] at hx; subst hx; exact h1.1, hw⟩
      · rfl
    · rfl
theorem SlI.hole {h : AHeap} {c : Nat → Nat} {k : Nat} {o : AObj} {l : AV} {zs : List Int} (hk : h[k]? = some .hole) (hl : l.refs (live h) c = true) (hs : SlI (h.set k o) l zs) : SlI h l zs := by
  rcases hs with hs | ⟨k', rfl, hk'⟩
  · exact .inl hs
  · refine .inr ⟨k', rfl, ?_⟩
    have h1 : live h k' = true := by
      simp only [AV.refs, Bool.and_eq_true] at hl
      exact hl.1
    have : k ≠ k' := fun e => by subst e; unfold live at h1; rw [hk] at h1; cases h1
    rw [List.getElem?_set_ne this] at hk'
    exact hk'
theorem SlI.set {h : AHeap} {k : Nat} {o : AObj} {l : AV} {zs : List Int} (hk : h[k]? = some .hole) (hs : SlI h l zs) : SlI (h.set k o) l zs := by
  rcases hs with hs | ⟨k', rfl, hk'⟩
  · exact .inl hs
  · refine .inr ⟨k', rfl, ?_⟩
    have : k ≠ k' := fun e => by subst e; rw [hk] at hk'; cases hk'
    rw [List.getElem?_set_ne this]
    exact hk'

end Go.Proofs.Ytncmgbbbekabdaa
