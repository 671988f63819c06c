import Derived.Test.YtiijphmpkmmpjaaShaT
import Derived.Test.YtiijphmpkmmpjaaShaN
namespace Go.Proofs.Ytiijphmpkmmpjaa
open Go Go.Am
set_option maxRecDepth 100000
set_option linter.unusedVariables false
set_option linter.unusedSimpArgs false
theorem seq_ret {P : Program} {S : Specs} {F : Nat → List Nat} {n : Nat} {a b : PC} {st st1 : St} (h : evP P S F n (.inl a) st = some (.ret, st1)) : evP P S F (n + 1) (.inl (.seq a b)) st = some (.ret, st1) := by
  rw [evP_seq, h]
theorem cond_run {P : Program} {S : Specs} {F : Nat → List Nat} {n : Nat} {c : Operand} {a b : PC} {st : St} {r : AExit × St} {t : Bool} (h : evalOperand st.1 c = some (.bool t)) (h1 : evP P S F n (.inl (if t then a else b)) st = some r) : evP P S F (n + 1) (.inl (.cond c a b)) st = some r := by
  rw [evP_cond, h]; exact h1
theorem step_call {P : Program} {S : Specs} {s : Nat} {dst : Option Tmp} {g : FuncId} {args : List Operand} {gd : Option (Option Tmp × Bool)} {st : St} {v : AV} {h' : AHeap} {vs : List AV} (hw : wantedR st.1 ⟨dst, .call (.func g) args, gd⟩ = some true) (ha : args.mapM (evalOperand st.1) = some vs)
    (hc : (match S.q g with | some sp => (sp vs st.2).map (·, st.2) | none => (S.f g).bind fun sp => sp vs st.2) = some (v, h')) : stepR P S s ⟨dst, .call (.func g) args, gd⟩ st = some (put dst v st.1, h') := by
  have h1 : evalOperand st.1 (.func g) = some (.fn g [] []) := rfl
  have hcal : calleeR (evalOperand st.1) (.call (.func g) args) = some (g, vs) := by
    simp only [calleeR, h1, ha, Option.map_some, List.nil_append, List.append_nil]
  have h2 : callR S st.2 (evalOperand st.1) (.call (.func g) args) = some (v, h') := by
    simp only [callR, hcal, Option.bind_some]; exact hc
  simp only [stepR, hw, RI.isPure, RI.isAlloc, Bool.false_eq_true, if_false, h2]

theorem n0_15 (P : Program) (S : Specs) (n : Int) (h0 : AHeap) : evalOpsR P S h0.length (opsAt (partAt p15.body 0)) (withHoles 0 (forget (F15 0) ([.int .i64 n] ++ List.replicate 36 .any, h0))) = some ([.int .i64 n, .any, .sl none 0 (.fix 0), .any, .any, .any, .any, .any, .any, .any, .any, .any, .any, .any, .any, .any, .any, .any, .any, .any, .any, .any, .any, .any, .any, .any, .any, .any, .any, .any, .any, .any, .any, .any, .any, .any, .any], h0 ++ []) := by kernel_rfl
theorem n1_15 (P : Program) (S : Specs) (n : Int) (h0 : AHeap) : evalOpsR P S h0.length (opsAt (partAt (partAt (partAt p15.body 1) 0) 0)) (withHoles 0 (forget (F15 1) ([.int .i64 n, .any, .sl none 0 (.fix 0), .any, .any, .any, .any, .any, .any, .any, .any, .any, .any, .any, .any, .any, .any, .any, .any, .any, .any, .any, .any, .any, .any, .any, .any, .any, .any, .any, .any, .any, .any, .any, .any, .any, .any], h0))) = some ([.int .i64 n, .any, .sl none 0 (.fix 0), .any, .any, .any, .int .i64 n, .bool (decide (n < 0)), .any, .any, .any, .any, .any, .any, .any, .any, .any, .any, .any, .any, .any, .any, .any, .any, .any, .any, .any, .any, .any, .any, .any, .any, .any, .any, .any, .any, .any], h0 ++ []) := by kernel_rfl
theorem n2_15 (P : Program) (S : Specs) (n : Int) (h0 : AHeap) : evalOpsR P S h0.length [⟨(some 2), .mov (.const (.slice none 0 0)), none⟩] (withHoles 0 (forget (F15 2) ([.int .i64 n, .any, .sl none 0 (.fix 0), .any, .any, .any, .int .i64 n, .bool true, .any, .any, .any, .any, .any, .any, .any, .any, .any, .any, .any, .any, .any, .any, .any, .any, .any, .any, .any, .any, .any, .any, .any, .any, .any, .any, .any, .any, .any], h0))) = some ([.int .i64 n, .any, .sl none 0 (.fix 0), .any, .any, .any, .int .i64 n, .bool true, .any, .any, .any, .any, .any, .any, .any, .any, .any, .any, .any, .any, .any, .any, .any, .any, .any, .any, .any, .any, .any, .any, .any, .any, .any, .any, .any, .any, .any], h0 ++ []) := by kernel_rfl
theorem pad_neg_15 (P : Program) (S : Specs) (n : Int) (h0 : AHeap) (hn : n < 0) : runF P S F15 300 p15 [.int .i64 n] h0 = some (.sl none 0 (.fix 0), h0) := by
  have hneg : decide (n < 0) = true := by simp; omega
  have b0 : evP P S F15 299 (.inl (partAt p15.body 0)) ([.int .i64 n] ++ List.replicate 36 .any, h0) = some (.normal, ([.int .i64 n, .any, .sl none 0 (.fix 0), .any, .any, .any, .any, .any, .any, .any, .any, .any, .any, .any, .any, .any, .any, .any, .any, .any, .any, .any, .any, .any, .any, .any, .any, .any, .any, .any, .any, .any, .any, .any, .any, .any, .any], h0)) := by
    refine region_run (n := 298) ?_
    have := n0_15 P S n h0
    rw [List.append_nil] at this
    exact this
  have b1 : evP P S F15 297 (.inl (partAt (partAt (partAt p15.body 1) 0) 0)) ([.int .i64 n, .any, .sl none 0 (.fix 0), .any, .any, .any, .any, .any, .any, .any, .any, .any, .any, .any, .any, .any, .any, .any, .any, .any, .any, .any, .any, .any, .any, .any, .any, .any, .any, .any, .any, .any, .any, .any, .any, .any, .any], h0) = some (.normal, ([.int .i64 n, .any, .sl none 0 (.fix 0), .any, .any, .any, .int .i64 n, .bool true, .any, .any, .any, .any, .any, .any, .any, .any, .any, .any, .any, .any, .any, .any, .any, .any, .any, .any, .any, .any, .any, .any, .any, .any, .any, .any, .any, .any, .any], h0)) := by
    refine region_run (n := 296) ?_
    have := n1_15 P S n h0
    rw [List.append_nil, hneg] at this
    exact this
  have b2 : evP P S F15 295 (.inl (.ops 2 0 [⟨(some 2), .mov (.const (.slice none 0 0)), none⟩])) ([.int .i64 n, .any, .sl none 0 (.fix 0), .any, .any, .any, .int .i64 n, .bool true, .any, .any, .any, .any, .any, .any, .any, .any, .any, .any, .any, .any, .any, .any, .any, .any, .any, .any, .any, .any, .any, .any, .any, .any, .any, .any, .any, .any, .any], h0) = some (.normal, ([.int .i64 n, .any, .sl none 0 (.fix 0), .any, .any, .any, .int .i64 n, .bool true, .any, .any, .any, .any, .any, .any, .any, .any, .any, .any, .any, .any, .any, .any, .any, .any, .any, .any, .any, .any, .any, .any, .any, .any, .any, .any, .any, .any, .any], h0)) := by
    refine region_run (n := 294) ?_
    have := n2_15 P S n h0
    rw [List.append_nil] at this
    exact this
  refine runF_ret (st := ([.int .i64 n, .any, .sl none 0 (.fix 0), .any, .any, .any, .int .i64 n, .bool true, .any, .any, .any, .any, .any, .any, .any, .any, .any, .any, .any, .any, .any, .any, .any, .any, .any, .any, .any, .any, .any, .any, .any, .any, .any, .any, .any, .any, .any], h0)) ?_ rfl
  exact seq_run (n := 299) b0 (seq_ret (n := 298) (seq_run (n := 297) b1 (cond_run (n := 296) (t := true) rfl (seq_run (n := 295) b2 rfl))))

theorem n0_16 (P : Program) (S : Specs) (n : Int) (h0 : AHeap) : evalOpsR P S h0.length (opsAt (partAt p16.body 0)) (withHoles 0 (forget (F16 0) ([.int .i64 n] ++ List.replicate 34 .any, h0))) = some ([.int .i64 n, .any, .sl none 0 (.fix 0), .any, .any, .any, .any, .any, .any, .any, .any, .any, .any, .any, .any, .any, .any, .any, .any, .any, .any, .any, .any, .any, .any, .any, .any, .any, .any, .any, .any, .any, .any, .any, .any], h0 ++ []) := by kernel_rfl
theorem n1_16 (P : Program) (S : Specs) (n : Int) (h0 : AHeap) : evalOpsR P S h0.length (opsAt (partAt (partAt (partAt p16.body 1) 0) 0)) (withHoles 0 (forget (F16 1) ([.int .i64 n, .any, .sl none 0 (.fix 0), .any, .any, .any, .any, .any, .any, .any, .any, .any, .any, .any, .any, .any, .any, .any, .any, .any, .any, .any, .any, .any, .any, .any, .any, .any, .any, .any, .any, .any, .any, .any, .any], h0))) = some ([.int .i64 n, .any, .sl none 0 (.fix 0), .any, .any, .any, .int .i64 n, .bool (decide (n < 0)), .any, .any, .any, .any, .any, .any, .any, .any, .any, .any, .any, .any, .any, .any, .any, .any, .any, .any, .any, .any, .any, .any, .any, .any, .any, .any, .any], h0 ++ []) := by kernel_rfl
theorem n2_16 (P : Program) (S : Specs) (n : Int) (h0 : AHeap) : evalOpsR P S h0.length [⟨(some 2), .mov (.const (.slice none 0 0)), none⟩] (withHoles 0 (forget (F16 2) ([.int .i64 n, .any, .sl none 0 (.fix 0), .any, .any, .any, .int .i64 n, .bool true, .any, .any, .any, .any, .any, .any, .any, .any, .any, .any, .any, .any, .any, .any, .any, .any, .any, .any, .any, .any, .any, .any, .any, .any, .any, .any, .any], h0))) = some ([.int .i64 n, .any, .sl none 0 (.fix 0), .any, .any, .any, .int .i64 n, .bool true, .any, .any, .any, .any, .any, .any, .any, .any, .any, .any, .any, .any, .any, .any, .any, .any, .any, .any, .any, .any, .any, .any, .any, .any, .any, .any, .any], h0 ++ []) := by kernel_rfl
theorem pad_neg_16 (P : Program) (S : Specs) (n : Int) (h0 : AHeap) (hn : n < 0) : runF P S F16 300 p16 [.int .i64 n] h0 = some (.sl none 0 (.fix 0), h0) := by
  have hneg : decide (n < 0) = true := by simp; omega
  have b0 : evP P S F16 299 (.inl (partAt p16.body 0)) ([.int .i64 n] ++ List.replicate 34 .any, h0) = some (.normal, ([.int .i64 n, .any, .sl none 0 (.fix 0), .any, .any, .any, .any, .any, .any, .any, .any, .any, .any, .any, .any, .any, .any, .any, .any, .any, .any, .any, .any, .any, .any, .any, .any, .any, .any, .any, .any, .any, .any, .any, .any], h0)) := by
    refine region_run (n := 298) ?_
    have := n0_16 P S n h0
    rw [List.append_nil] at this
    exact this
  have b1 : evP P S F16 297 (.inl (partAt (partAt (partAt p16.body 1) 0) 0)) ([.int .i64 n, .any, .sl none 0 (.fix 0), .any, .any, .any, .any, .any, .any, .any, .any, .any, .any, .any, .any, .any, .any, .any, .any, .any, .any, .any, .any, .any, .any, .any, .any, .any, .any, .any, .any, .any, .any, .any, .any], h0) = some (.normal, ([.int .i64 n, .any, .sl none 0 (.fix 0), .any, .any, .any, .int .i64 n, .bool true, .any, .any, .any, .any, .any, .any, .any, .any, .any, .any, .any, .any, .any, .any, .any, .any, .any, .any, .any, .any, .any, .any, .any, .any, .any, .any, .any], h0)) := by
    refine region_run (n := 296) ?_
    have := n1_16 P S n h0
    rw [List.append_nil, hneg] at this
    exact this
  have b2 : evP P S F16 295 (.inl (.ops 2 0 [⟨(some 2), .mov (.const (.slice none 0 0)), none⟩])) ([.int .i64 n, .any, .sl none 0 (.fix 0), .any, .any, .any, .int .i64 n, .bool true, .any, .any, .any, .any, .any, .any, .any, .any, .any, .any, .any, .any, .any, .any, .any, .any, .any, .any, .any, .any, .any, .any, .any, .any, .any, .any, .any], h0) = some (.normal, ([.int .i64 n, .any, .sl none 0 (.fix 0), .any, .any, .any, .int .i64 n, .bool true, .any, .any, .any, .any, .any, .any, .any, .any, .any, .any, .any, .any, .any, .any, .any, .any, .any, .any, .any, .any, .any, .any, .any, .any, .any, .any, .any], h0)) := by
    refine region_run (n := 294) ?_
    have := n2_16 P S n h0
    rw [List.append_nil] at this
    exact this
  refine runF_ret (st := ([.int .i64 n, .any, .sl none 0 (.fix 0), .any, .any, .any, .int .i64 n, .bool true, .any, .any, .any, .any, .any, .any, .any, .any, .any, .any, .any, .any, .any, .any, .any, .any, .any, .any, .any, .any, .any, .any, .any, .any, .any, .any, .any], h0)) ?_ rfl
  exact seq_run (n := 299) b0 (seq_ret (n := 298) (seq_run (n := 297) b1 (cond_run (n := 296) (t := true) rfl (seq_run (n := 295) b2 rfl))))

noncomputable def equalG (vs : List AV) (hs : AHeap) : Option AV := match runF Try.prog S0 (fun _ => []) 50 p14 vs hs with
  | some (v, _) => if v.closed then some v else none
  | none => none
noncomputable def equalS (args : List AV) (h : AHeap) : Option AV := (impArgs h 0 args).bind fun r => equalG r.1 r.2
theorem equal_ok : QuietOK Try.prog 14 equalS := quiet_of_body mixed S0_ok ht14 (g := equalG) fun args hs v hv => by
  unfold equalG at hv
  split at hv
  · rename_i v' h' he
    split at hv
    · rename_i hc'; cases hv; exact ⟨hc', _, _, _, runF_sound S0_q c14 he⟩
    · cases hv
  · cases hv
theorem equal_run (L : Nat) (x y : Nat × Nat) (c d : ACap) (o1 o2 : AObj) (bs : List UInt8)
    (hx : pureR Try.prog [o1, o2] (fun _ => some (.sl (some x) L c)) (.toStr (.tmp 0)) = some (.str bs)) (hy : pureR Try.prog [o1, o2] (fun _ => some (.sl (some y) L d)) (.toStr (.tmp 0)) = some (.str bs)) :
    equalG [.sl (some x) L c, .sl (some y) L d] [o1, o2] = some (.bool true) := by
  have a0 : evP Try.prog S0 (fun _ => []) 40 (.inl p14.body) ([.sl (some x) L c, .sl (some y) L d] ++ List.replicate 8 .any, [o1, o2]) = some (.ret, ([.sl (some x) L c, .sl (some y) L d, .any, .any, .bool true, .sl (some x) L c, .str bs, .sl (some y) L d, .str bs, .bool true], [o1, o2])) := by
    refine seq_run (n := 39) (st1 := ([.sl (some x) L c, .sl (some y) L d, .any, .any, .bool false, .any, .any, .any, .any, .any], [o1, o2])) (by kernel_rfl) ?_
    refine seq_run (n := 38) (st1 := ([.sl (some x) L c, .sl (some y) L d, .any, .any, .bool true, .sl (some x) L c, .str bs, .sl (some y) L d, .str bs, .bool true], [o1, o2])) (region_run (n := 37) ?_) rfl
    refine ops_cons (st1 := ([.sl (some x) L c, .sl (some y) L d, .any, .any, .bool false, .sl (some x) L c, .any, .any, .any, .any], [o1, o2])) (by kernel_rfl) ?_
    refine ops_cons (step_pure (v := .str bs) rfl hx) ?_
    refine ops_cons (st1 := ([.sl (some x) L c, .sl (some y) L d, .any, .any, .bool false, .sl (some x) L c, .str bs, .sl (some y) L d, .any, .any], [o1, o2])) (by kernel_rfl) ?_
    refine ops_cons (step_pure (v := .str bs) rfl hy) ?_
    refine ops_cons (step_pure (v := .bool true) rfl ?_) ?_
    · show some (AV.bool (bs == bs)) = _
      simp
    · rfl
  have a1 := runF_ret (pf := p14) (evP_le a0 (m := 50) (by omega)) (v := .bool true) rfl
  unfold equalG
  rw [a1]
  rfl
theorem equal_rows (h : AHeap) (k1 k2 L : Nat) (c d : ACap) (cs : List AV) (bs : List UInt8) (hb : cs.mapM byteOfA = some bs) (hL : cs.length = L) (h1 : cellsAt h k1 = some cs) (h2 : cellsAt h k2 = some cs) (hcl : cs.all AV.closed = true) :
    equalS [.sl (some (k1, 0)) L c, .sl (some (k2, 0)) L d] h = some (.bool true) := by
  have ht : (cs.drop 0).take L = cs := by rw [List.drop_zero, ← hL, List.take_length]
  have hi : impArgs h 0 [.sl (some (k1, 0)) L c, .sl (some (k2, 0)) L d] = some ([.sl (some (0, 0)) L (match c with | .fix n => .fix n | .rel _ => .rel 0), .sl (some (1, 0)) L (match d with | .fix n => .fix n | .rel _ => .rel 0)], [.ro cs, .ro cs]) := by
    simp only [impArgs, impA, h1, h2, Option.bind_some, ht, hcl, hL, Nat.zero_add, Nat.le_refl, and_self, if_true, Option.map_some, List.length_cons, List.length_nil, List.cons_append, List.nil_append, Option.bind_none]
    cases c <;> cases d <;> rfl
  unfold equalS
  rw [hi]
  refine equal_run L _ _ _ _ _ _ bs ?_ ?_
  · subst hL
    simp [pureR, cellsAt, objCells, hb]
  · subst hL
    simp [pureR, cellsAt, objCells, hb]
theorem equal_nil (h : AHeap) : equalS [.sl none 0 (.fix 0), .sl none 0 (.fix 0)] h = some (.bool true) := by
  have hi : impArgs h 0 [.sl none 0 (.fix 0), .sl none 0 (.fix 0)] = some ([.sl none 0 (.fix 0), .sl none 0 (.fix 0)], []) := rfl
  have h2 : equalG [.sl none 0 (.fix 0), .sl none 0 (.fix 0)] [] = some (.bool true) := by kernel_rfl
  unfold equalS
  rw [hi]
  exact h2
end Go.Proofs.Ytiijphmpkmmpjaa
