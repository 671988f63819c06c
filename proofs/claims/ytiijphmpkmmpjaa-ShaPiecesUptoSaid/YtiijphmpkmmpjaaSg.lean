/- Written by merging: ShaWa ShaWb ShaWc ShaWm. -/
import Derived.Test.YtiijphmpkmmpjaaSf
import Derived.Test.YtiijphmpkmmpjaaSe
import Derived.Test.YtiijphmpkmmpjaaAmZc
namespace Go.Proofs.Ytiijphmpkmmpjaa
open Go Go.Am
set_option maxRecDepth 100000
set_option linter.unusedVariables false
set_option linter.unusedSimpArgs false

def padJ (n : Int) : Nat := ((119 - n % 64) % 64).toNat
def padL (n : Int) : List AV := zer (padJ n) ++ bytesI (bitsI n) 8
theorem padJ_ok (n : Int) (hn : 0 ≤ n) : padJ n ≤ 64 ∧ (∀ i, i < padJ n → padC n ((1 + i : Nat) : Int) = true) ∧ padC n ((1 + padJ n : Nat) : Int) = false := by
  unfold padJ
  refine ⟨by omega, fun i hi => ?_, ?_⟩
  · rw [padC_eq n (1 + i) hn (by omega)]
    simp only [Bool.not_eq_true', decide_eq_false_iff_not]
    omega
  · rw [padC_eq n _ hn (by omega)]
    simp only [Bool.not_eq_false', decide_eq_true_eq]
    omega
theorem bytesW_ok (b : Int) : ∀ t, (bytesI b t).length = t ∧ (bytesI b t).all (isInt .u8) = true
  | 0 => ⟨rfl, rfl⟩
  | t + 1 => by
    obtain ⟨h1, h2⟩ := bytesW_ok b t
    exact ⟨by simp [bytesI, h1], by simp [bytesI, List.all_append, h2, isInt]⟩
theorem padL_ok (n : Int) : (padL n).length = padJ n + 9 ∧ (padL n).all (isInt .u8) = true := by
  obtain ⟨h1, h2⟩ := bytesW_ok (bitsI n) 8
  refine ⟨by simp only [padL, zer, List.length_append, List.length_cons, List.length_replicate, h1], ?_⟩
  rw [padL, List.all_append, h2, Bool.and_true]
  simp [zer, isInt]
noncomputable def padF (F : Nat → List Nat) (p : PF) (args : List AV) (hp : List AObj) : Option (AV × AHeap × List Nat) :=
  (runF Try.prog S0 F 300 p args hp).map fun r => (r.1, r.2, match r.1 with | .sl (some (k, _)) _ _ => [k] | _ => [])
theorem pad15_full : FullOK Try.prog 15 (freshS (padF F15 p15)) := fresh_of_body mixed S0_ok ht15 fun args hp v hq ks h => by
  unfold padF at h
  simp only [Option.map_eq_some_iff] at h
  obtain ⟨⟨v1, h1⟩, h2, h3⟩ := h
  simp only [Prod.mk.injEq] at h3
  obtain ⟨rfl, rfl, -⟩ := h3
  exact .inl ⟨_, _, runF_sound S0_q c15 h2⟩
theorem pad15_eq (n : Int) (hn : 0 ≤ n) (h : AHeap) : freshS (padF F15 p15) [.int .i64 n] h = some (.sl (some (h.length, 0)) (padJ n + 9) (.rel 0), h ++ [.row 5 1 (padL n)]) := by
  obtain ⟨j1, j2, j3⟩ := padJ_ok n hn
  obtain ⟨k, hs, h1, -, h2⟩ := pad_run_15 Try.prog S0 n [] (padJ n) hn j1 j2 j3
  have hi : impArgs h 0 [.int .i64 n] = some ([.int .i64 n], []) := rfl
  unfold freshS
  rw [hi]
  simp only [Option.bind_some, padF, h1, Option.map_some]
  have hr : renOwn (fun i => ([k].idxOf? i).map (h.length + ·)) (hs.getD k .dead) = .row 5 1 (padL n) := by
    rw [List.getD_eq_getElem?_getD, h2]
    simp only [Option.getD_some, renOwn, renObj]
    rw [show zer (padJ n) ++ bytesI (bitsI n) 8 = padL n from rfl, renL_ints (k := .u8) _ (padL_ok n).2]
  have hk : ([k].idxOf? k) = some 0 := by simp [List.idxOf?_cons]
  simp only [List.nodup_cons, List.not_mem_nil, not_false_eq_true, List.nodup_nil, and_self, decide_true, if_true, AV.ren, hk, Option.map_some, Nat.add_zero, List.map_cons, List.map_nil, hr]
  rw [show 1 + padJ n + 8 = padJ n + 9 by omega]
theorem pad16_full : FullOK Try.prog 16 (freshS (padF F16 p16)) := fresh_of_body mixed S0_ok ht16 fun args hp v hq ks h => by
  unfold padF at h
  simp only [Option.map_eq_some_iff] at h
  obtain ⟨⟨v1, h1⟩, h2, h3⟩ := h
  simp only [Prod.mk.injEq] at h3
  obtain ⟨rfl, rfl, -⟩ := h3
  exact .inl ⟨_, _, runF_sound S0_q c16 h2⟩
def BL (s : Nat → Int) (l : List AV) : Nat → Int := blockI (dec (ints .u32 8 s)) (wordsW (dec l))
def blockC (args : List AV) (h : AHeap) : Option ((AV × AHeap) × List Bool) := match args with
  | [.agg s, .agg l] => some ((.agg (ints .u32 8 (blockI (dec s) (wordsW (dec l)))), h), [isInts .u32 8 s, isInts .u8 64 l])
  | _ => none
def cvB : CV := fun g args h => match g with
  | 10 => blockC args h
  | 11 => blockC args h
  | _ => none
def keepT (n : Nat) (l : List Nat) : List Nat := (List.range n).filter fun i => !l.contains i
def F36 (id : Nat) : Tidy := if id = 0 then ⟨keepT 71 [0, 1], .auto⟩ else ⟨[], .all⟩
abbrev sy0 (l : List Nat) : Sy := fun k => if l.contains k then some .u8 else none
/-- A hash's row. -/
abbrev hrow (s : Nat → Int) (rest : AV) (n : Int) : AObj := .row 47 11 ([.bool true] ++ ints .u32 8 s ++ [rest, .int .i64 n])
noncomputable def SB0 : Specs := mkS Q (fun g => match g with
  | 9 => some fun args _ => begunS args
  | 10 => some fun args _ => blockS args
  | 11 => some fun args _ => blockS args
  | _ => none) (fun _ => none)
theorem SB0_ok : SB0.OK Try.prog := mkS_ok quietText (fun g s _ h => by
  split at h
  · cases h; exact begun_okS
  · cases h; exact block_ok
  · cases h; exact rblock_ok
  · cases h) (fun _ _ h => by cases h)
theorem SB0_q : ∀ g, (SB0.q g).isSome = Q g := fun g => mkS_isSome g
theorem cvB_ok : cvB.OK SB0 := fun g vs h r c hg hc => by
  unfold cvB at hg
  split at hg
  all_goals
    first
    | (unfold blockC at hg
       split at hg
       · rename_i s l
         cases hg
         simp only [List.all_cons, List.all_nil, id, Bool.and_true] at hc
         show (blockS [.agg s, .agg l]).map (·, h) = _
         simp only [blockS, hc, if_true, Option.map_some]
       · cases hg)
    | cases hg
/-- Blocks taken from a message; what is left over. -/
def absorb (s : Nat → Int) (l : List AV) : (Nat → Int) × List AV :=
  if h : 64 ≤ l.length then absorb (BL s (l.take 64)) (l.drop 64) else (s, l)
termination_by l.length
decreasing_by simp; omega
theorem absorb_more {s : Nat → Int} {l : List AV} (h : 64 ≤ l.length) : absorb s l = absorb (BL s (l.take 64)) (l.drop 64) := by
  rw [absorb, dif_pos h]
theorem absorb_end {s : Nat → Int} {l : List AV} (h : l.length < 64) : absorb s l = (s, l) := by
  rw [absorb, dif_neg (by omega)]
def R64 (l : List AV) : List AV := spliceA (z3 .u8 64) 0 l
def restV (k : Nat) : List AV → AV
  | [] => .sl none 0 (.fix 0)
  | a :: l => .sl (some (k, 0)) (a :: l).length (.fix 64)
def restH : List AV → AHeap
  | [] => []
  | a :: l => [.row 26 64 (R64 (a :: l))]
theorem splice_all {p : AV → Prop} {cs vs : List AV} {o : Nat} (h1 : ∀ v ∈ cs, p v) (h2 : ∀ v ∈ vs, p v) : ∀ v ∈ spliceA cs o vs, p v := fun v hv => by
  unfold spliceA at hv
  rcases List.mem_append.1 hv with hv | hv
  · rcases List.mem_append.1 hv with hv | hv
    · exact h1 v (List.mem_of_mem_take hv)
    · exact h2 v hv
  · exact h1 v (List.mem_of_mem_drop hv)
theorem ints_one {k : IntKind} {l : List AV} (h : l.all (isInt k) = true) : l.all AV.one = true := by
  rw [List.all_eq_true] at h ⊢
  intro v hv
  have := h v hv
  cases v <;> first | rfl | cases this
theorem all_sub {p : AV → Bool} {l l' : List AV} (h : l.all p = true) (hs : ∀ v ∈ l', v ∈ l) : l'.all p = true := by
  rw [List.all_eq_true] at h ⊢
  exact fun v hv => h v (hs v hv)
theorem R64_take {l : List AV} (h : l.length < 64) : (R64 l).take l.length = l ∧ (R64 l).length = 64 := by
  have hz : (z3 .u8 64).length = 64 := by simp [z3, ints_length]
  refine ⟨by simp [R64, spliceA], by rw [R64, splice_len _ _ _ (by omega), hz]⟩
theorem R64_ints {l : List AV} (hi : l.all (isInt .u8) = true) : (R64 l).all (isInt .u8) = true := by
  rw [List.all_eq_true] at hi ⊢
  refine fun v hv => splice_all (p := fun v => isInt .u8 v = true) (fun v hv => ?_) hi v hv
  simp only [z3, ints, List.mem_map] at hv
  obtain ⟨i, _, rfl⟩ := hv
  simp [isInt]
/- Calls within the sum: contracts layer by layer. -/
/-- A call of just these arguments on just this memory. -/
noncomputable def sameH (a b : List AV × AHeap) : Bool := @decide (a = b) (Classical.propDecidable _)
theorem sameH_self (a : List AV × AHeap) : sameH a a = true := by simp [sameH]
noncomputable def cvE (l : List (FuncId × (List AV × AHeap) × (AV × AHeap))) : CV := fun g args h => match l.find? (fun e => e.1 == g) with
  | some e => some (e.2.2, [sameH (args, h) e.2.1])
  | none => none
theorem cvE_ok {S : Specs} {l : List (FuncId × (List AV × AHeap) × (AV × AHeap))} (h : ∀ e ∈ l, (match S.q e.1 with | some sp => (sp e.2.1.1 e.2.1.2).map (·, e.2.1.2) | none => (S.f e.1).bind fun sp => sp e.2.1.1 e.2.1.2) = some e.2.2) : (cvE l).OK S := fun g vs hp r c hg hc => by
  unfold cvE at hg
  split at hg
  · rename_i e he
    cases hg
    simp only [List.all_cons, List.all_nil, id, Bool.and_true, sameH, decide_eq_true_eq] at hc
    have h1 := h e (List.mem_of_find?_eq_some he)
    have h2 : e.1 = g := by simpa using List.find?_some he
    rw [← h2, show vs = e.2.1.1 from congrArg Prod.fst hc, show hp = e.2.1.2 from congrArg Prod.snd hc]
    exact h1
  · cases hg
def firstI (i : Nat) : Int := [1779033703, 3144134277, 1013904242, 2773480762, 1359893119, 2600822924, 528734635, 1541459225].getD i 0
def firstS : List AV → Option AV
  | [] => some (.agg (ints .u32 8 firstI))
  | _ => none
theorem first33 : (runF Try.prog S0 (fun _ => []) 40 p33 [] []).map (·.1) = some (.agg (ints .u32 8 firstI)) := by kernel_rfl
theorem first34 : (runF Try.prog S0 (fun _ => []) 40 p34 [] []).map (·.1) = some (.agg (ints .u32 8 firstI)) := by kernel_rfl
theorem first33_ok : QuietOK Try.prog 33 fun args _ => firstS args := quiet_of_plain mixed S0_ok ht33 fun args v hv => by
  unfold firstS at hv
  split at hv
  · cases hv
    have h := first33
    simp only [Option.map_eq_some_iff] at h
    obtain ⟨⟨v1, h1⟩, h2, h3⟩ := h
    simp only at h3
    subst h3
    exact ⟨rfl, by kernel_rfl, _, _, _, runF_sound S0_q c33 h2⟩
  · cases hv
theorem first34_ok : QuietOK Try.prog 34 fun args _ => firstS args := quiet_of_plain mixed S0_ok ht34 fun args v hv => by
  unfold firstS at hv
  split at hv
  · cases hv
    have h := first34
    simp only [Option.map_eq_some_iff] at h
    obtain ⟨⟨v1, h1⟩, h2, h3⟩ := h
    simp only at h3
    subst h3
    exact ⟨rfl, by kernel_rfl, _, _, _, runF_sound S0_q c34 h2⟩
  · cases hv
noncomputable def q5 (g : FuncId) : Option (List AV → AHeap → Option AV) := match g with
  | 9 => some fun args _ => begunS args
  | 10 => some fun args _ => blockS args
  | 11 => some fun args _ => blockS args
  | 33 => some fun args _ => firstS args
  | 34 => some fun args _ => firstS args
  | _ => none
theorem q5_ok (g : FuncId) (s : List AV → AHeap → Option AV) (_ : Q g = true) (h : q5 g = some s) : QuietOK Try.prog g s := by
  unfold q5 at h
  split at h
  · cases h; exact begun_okS
  · cases h; exact block_ok
  · cases h; exact rblock_ok
  · cases h; exact first33_ok
  · cases h; exact first34_ok
  · cases h
noncomputable def SBq : Specs := mkS Q q5 (fun _ => none)
theorem SBq_ok : SBq.OK Try.prog := mkS_ok quietText q5_ok (fun _ _ h => by cases h)
theorem SBq_q : ∀ g, (SBq.q g).isSome = Q g := fun g => mkS_isSome g
def FNo (_ : Nat) : Tidy := ⟨[], .all⟩
theorem nest_ok {S : Specs} (hS : S.OK Try.prog) (hQ : ∀ g, (S.q g).isSome = Q g) {f : FuncId} {fn : Func} {pf : PF} (hf : HasText Try.prog f fn) (hc : compF Try.prog Q fn = some pf) (F : Nat → Tidy) (n : Nat) : FullOK Try.prog f (runG Try.prog S F n pf) :=
  full_of_bodyg mixed hS hf fun args h v h' hv => ⟨_, _, runG_sound hQ hc hv⟩
noncomputable def SB1 : Specs := mkS Q q5 (fun g => match g with
  | 15 => some (freshS (padF F15 p15))
  | 16 => some (freshS (padF F16 p16))
  | 17 => some (runG Try.prog SBq FNo 40 p17)
  | 35 => some (runG Try.prog SBq FNo 40 p35)
  | 36 => some (limG Try.prog SB0 F36 p36)
  | _ => none)
theorem SB1_ok : SB1.OK Try.prog := mkS_ok quietText q5_ok (fun g s h => by
  split at h
  · cases h; exact pad15_full
  · cases h; exact pad16_full
  · cases h; exact nest_ok SBq_ok SBq_q ht17 c17 _ _
  · cases h; exact nest_ok SBq_ok SBq_q ht35 c35 _ _
  · cases h; exact limG_ok mixed SB0_ok SB0_q ht36 c36 _
  · cases h)
theorem SB1_q : ∀ g, (SB1.q g).isSome = Q g := fun g => mkS_isSome g
/- Write and Sum of a hash, within the sum. -/
def trW (n : Nat) : List Bool := List.replicate n true
theorem trW_ok (n : Nat) : (trW n).all id = true := by simp [trW]
def outB (s : Nat → Int) (j : Nat) : Int := if j % 4 = 3 then IntKind.u8.wrap (s (j / 4)) else IntKind.u8.wrap ((s (j / 4)).fdiv (2 ^ min (24 - 8 * (j % 4)) IntKind.u32.bits))
/- The program's sum of one slice, as a run. -/
theorem absorb_len (s : Nat → Int) (l : List AV) : (absorb s l).2.length = l.length % 64 ∧ ∀ v ∈ (absorb s l).2, v ∈ l := by
  induction hn : l.length using Nat.strongRecOn generalizing s l with
  | _ n ih =>
    subst hn
    rcases Nat.lt_or_ge l.length 64 with q | q
    · rw [absorb_end q]
      exact ⟨by simp only; omega, fun v hv => hv⟩
    · rw [absorb_more q]
      obtain ⟨h1, h2⟩ := ih (l.drop 64).length (by simp; omega) (BL s (l.take 64)) (l.drop 64) rfl
      refine ⟨by rw [h1]; simp; omega, fun v hv => List.mem_of_mem_drop (h2 v hv)⟩
theorem absorb_append (s : Nat → Int) (l p : List AV) : absorb s (l ++ p) = absorb (absorb s l).1 ((absorb s l).2 ++ p) := by
  induction hn : l.length using Nat.strongRecOn generalizing s l with
  | _ n ih =>
    subst hn
    rcases Nat.lt_or_ge l.length 64 with q | q
    · rw [absorb_end q]
    · rw [absorb_more (l := l) q, absorb_more (l := l ++ p) (by simp; omega), List.take_append_of_le_length q, List.drop_append_of_le_length q]
      exact ih (l.drop 64).length (by simp; omega) _ _ rfl
theorem S1_36 (vs : List AV) (h : AHeap) : (match SB1.q 36 with | some sp => (sp vs h).map (·, h) | none => (SB1.f 36).bind fun sp => sp vs h) = limG Try.prog SB0 F36 p36 vs h := rfl
theorem pair_mem {α : Type} {a b e : α} (h : e ∈ [a, b]) : e = a ∨ e = b := by simpa using h

end Go.Proofs.Ytiijphmpkmmpjaa
