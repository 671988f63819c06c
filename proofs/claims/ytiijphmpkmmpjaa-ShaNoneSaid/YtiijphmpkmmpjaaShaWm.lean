import Derived.Test.YtiijphmpkmmpjaaShaWc
namespace Go.Proofs.Ytiijphmpkmmpjaa
open Go Go.Am
set_option maxRecDepth 100000
set_option linter.unusedVariables false
set_option linter.unusedSimpArgs false
/- Calls within the sum: contracts layer by layer. -/

/-- A call of just these arguments on just this memory. -/
noncomputable def sameH (a b : List AV × AHeap) : Bool := @decide (a = b) (Classical.propDecidable _)
theorem sameH_self (a : List AV × AHeap) : sameH a a = true := by simp [sameH]
noncomputable def cvE (l : List (FuncId × (List AV × AHeap) × (AV × AHeap))) : CV := fun g args h => match l.find? (fun e => e.1 == g) with
  | some e => some (e.2.2, [sameH (args, h) e.2.1])
  | none => none
theorem cvE_ok {S : Specs} {l : List (FuncId × (List AV × AHeap) × (AV × AHeap))} (h : ∀ e ∈ l, (match S.q e.1 with | some sp => (sp e.2.1.1 e.2.1.2).map (·, e.2.1.2) | none => (S.f e.1).bind fun sp => sp e.2.1.1 e.2.1.2) = some e.2.2) : (cvE l).OK S := fun g vs hp r c hg hc => by
  unfold cvE at hg
  split at hg
  · rename_i e he
    cases hg
    simp only [List.all_cons, List.all_nil, id, Bool.and_true, sameH, decide_eq_true_eq] at hc
    have h1 := h e (List.mem_of_find?_eq_some he)
    have h2 : e.1 = g := by simpa using List.find?_some he
    rw [← h2, show vs = e.2.1.1 from congrArg Prod.fst hc, show hp = e.2.1.2 from congrArg Prod.snd hc]
    exact h1
  · cases hg
def firstI (i : Nat) : Int := [1779033703, 3144134277, 1013904242, 2773480762, 1359893119, 2600822924, 528734635, 1541459225].getD i 0
def firstS : List AV → Option AV
  | [] => some (.agg (ints .u32 8 firstI))
  | _ => none
theorem first33 : (runF Try.prog S0 (fun _ => []) 40 p33 [] []).map (·.1) = some (.agg (ints .u32 8 firstI)) := by kernel_rfl
theorem first34 : (runF Try.prog S0 (fun _ => []) 40 p34 [] []).map (·.1) = some (.agg (ints .u32 8 firstI)) := by kernel_rfl
theorem first33_ok : QuietOK Try.prog 33 fun args _ => firstS args := quiet_of_plain mixed S0_ok ht33 fun args v hv => by
  unfold firstS at hv
  split at hv
  · cases hv
    have h := first33
    simp only [Option.map_eq_some_iff] at h
    obtain ⟨⟨v1, h1⟩, h2, h3⟩ := h
    simp only at h3
    subst h3
    exact ⟨rfl, by kernel_rfl, _, _, _, runF_sound S0_q c33 h2⟩
  · cases hv
theorem first34_ok : QuietOK Try.prog 34 fun args _ => firstS args := quiet_of_plain mixed S0_ok ht34 fun args v hv => by
  unfold firstS at hv
  split at hv
  · cases hv
    have h := first34
    simp only [Option.map_eq_some_iff] at h
    obtain ⟨⟨v1, h1⟩, h2, h3⟩ := h
    simp only at h3
    subst h3
    exact ⟨rfl, by kernel_rfl, _, _, _, runF_sound S0_q c34 h2⟩
  · cases hv
noncomputable def q5 (g : FuncId) : Option (List AV → AHeap → Option AV) := match g with
  | 9 => some fun args _ => begunS args
  | 10 => some fun args _ => blockS args
  | 11 => some fun args _ => blockS args
  | 33 => some fun args _ => firstS args
  | 34 => some fun args _ => firstS args
  | _ => none
theorem q5_ok (g : FuncId) (s : List AV → AHeap → Option AV) (_ : Q g = true) (h : q5 g = some s) : QuietOK Try.prog g s := by
  unfold q5 at h
  split at h
  · cases h; exact begun_okS
  · cases h; exact block_ok
  · cases h; exact rblock_ok
  · cases h; exact first33_ok
  · cases h; exact first34_ok
  · cases h
noncomputable def SBq : Specs := mkS Q q5 (fun _ => none)
theorem SBq_ok : SBq.OK Try.prog := mkS_ok quietText q5_ok (fun _ _ h => by cases h)
theorem SBq_q : ∀ g, (SBq.q g).isSome = Q g := fun g => mkS_isSome g
def FNo (_ : Nat) : Tidy := ⟨[], .all⟩
theorem nest_ok {S : Specs} (hS : S.OK Try.prog) (hQ : ∀ g, (S.q g).isSome = Q g) {f : FuncId} {fn : Func} {pf : PF} (hf : HasText Try.prog f fn) (hc : compF Try.prog Q fn = some pf) (F : Nat → Tidy) (n : Nat) : FullOK Try.prog f (runG Try.prog S F n pf) :=
  full_of_bodyg mixed hS hf fun args h v h' hv => ⟨_, _, runG_sound hQ hc hv⟩
noncomputable def SB1 : Specs := mkS Q q5 (fun g => match g with
  | 15 => some (freshS (padF F15 p15))
  | 16 => some (freshS (padF F16 p16))
  | 17 => some (runG Try.prog SBq FNo 40 p17)
  | 35 => some (runG Try.prog SBq FNo 40 p35)
  | 36 => some (limG Try.prog SB0 F36 p36)
  | _ => none)
theorem SB1_ok : SB1.OK Try.prog := mkS_ok quietText q5_ok (fun g s h => by
  split at h
  · cases h; exact pad15_full
  · cases h; exact pad16_full
  · cases h; exact nest_ok SBq_ok SBq_q ht17 c17 _ _
  · cases h; exact nest_ok SBq_ok SBq_q ht35 c35 _ _
  · cases h; exact limG_ok mixed SB0_ok SB0_q ht36 c36 _
  · cases h)
theorem SB1_q : ∀ g, (SB1.q g).isSome = Q g := fun g => mkS_isSome g

/- Write and Sum of a hash, within the sum. -/

def hp5z (cs : List AV) (m0 c0 k : Nat) (s1 : Nat → Int) (Rc : List AV) (n : Int) : AHeap := [.ro cs, .row 23 1 [.sl (some (0, 0)) m0 (.fix c0)], .row 30 32 (z3 .u8 32), hrow s1 (.sl none 0 (.fix 0)) n, .dead]
def hp8z (cs : List AV) (m0 c0 k : Nat) (s1 : Nat → Int) (Rc : List AV) (n : Int) : AHeap := [.ro cs, .row 23 1 [.sl (some (0, 0)) m0 (.fix c0)], .row 30 32 (z3 .u8 32), hrow s1 (.sl none 0 (.fix 0)) n, .dead, .row 30 32 (z3 .u8 32), .row 30 32 (z3 .u8 32), hrow s1 (.sl none 0 (.fix 0)) n]
def hp5n (cs : List AV) (m0 c0 k : Nat) (s1 : Nat → Int) (Rc : List AV) (n : Int) : AHeap := [.ro cs, .row 23 1 [.sl (some (0, 0)) m0 (.fix c0)], .row 30 32 (z3 .u8 32), hrow s1 (.sl (some (4, 0)) k (.fix 64)) n, .row 26 64 Rc]
def hp8n (cs : List AV) (m0 c0 k : Nat) (s1 : Nat → Int) (Rc : List AV) (n : Int) : AHeap := [.ro cs, .row 23 1 [.sl (some (0, 0)) m0 (.fix c0)], .row 30 32 (z3 .u8 32), hrow s1 (.sl (some (4, 0)) k (.fix 64)) n, .row 26 64 Rc, .row 30 32 (z3 .u8 32), .row 30 32 (z3 .u8 32), hrow s1 (.sl (some (4, 0)) k (.fix 64)) n]
def trW (n : Nat) : List Bool := List.replicate n true
theorem trW_ok (n : Nat) : (trW n).all id = true := by simp [trW]
def F20 (id : Nat) : Tidy := if id = 11 then ⟨keepT 43 [2, 3], .auto⟩ else ⟨[], .all⟩
def outB (s : Nat → Int) (j : Nat) : Int := if j % 4 = 3 then IntKind.u8.wrap (s (j / 4)) else IntKind.u8.wrap ((s (j / 4)).fdiv (2 ^ min (24 - 8 * (j % 4)) IntKind.u32.bits))
theorem e18z (cs : List AV) (m0 c0 k : Nat) (s : Nat → Int) (Rc : List AV) : runVg Try.prog SB1 (sy0 [0]) (cvE [(36, ([.ptr (some (3, 0)), .sl (some (0, 0)) m0 (.fix c0)], hpA cs m0 c0 firstI (.sl none 0 (.fix 0)) 0), (.tup [], hpA cs m0 c0 s (.sl none 0 (.fix 0)) 0))]) FNo 60 p18 [.ptr (some (3, 0)), .sl (some (0, 0)) m0 (.fix c0)] (hpA cs m0 c0 firstI (.sl none 0 (.fix 0)) 0) [.lit, .is false] = some ((.int .i64 0, hpA cs m0 c0 s (.sl none 0 (.fix 0)) (IntKind.i64.wrap (0 + (m0 : Int)))), [decide ((m0 : Int) > 1152921504606846976) == false, sameH ([.ptr (some (3, 0)), .sl (some (0, 0)) m0 (.fix c0)], hpA cs m0 c0 firstI (.sl none 0 (.fix 0)) 0) ([.ptr (some (3, 0)), .sl (some (0, 0)) m0 (.fix c0)], hpA cs m0 c0 firstI (.sl none 0 (.fix 0)) 0), true, true]) := by kernel_rfl
theorem e18n (cs : List AV) (m0 c0 k : Nat) (s : Nat → Int) (Rc : List AV) : runVg Try.prog SB1 (sy0 [0]) (cvE [(36, ([.ptr (some (3, 0)), .sl (some (0, 0)) m0 (.fix c0)], hpA cs m0 c0 firstI (.sl none 0 (.fix 0)) 0), (.tup [], hpA cs m0 c0 s (.sl (some (4, 0)) k (.fix 64)) 0 ++ [.row 26 64 Rc]))]) FNo 60 p18 [.ptr (some (3, 0)), .sl (some (0, 0)) m0 (.fix c0)] (hpA cs m0 c0 firstI (.sl none 0 (.fix 0)) 0) [.lit, .is false] = some ((.int .i64 0, hpA cs m0 c0 s (.sl (some (4, 0)) k (.fix 64)) (IntKind.i64.wrap (0 + (m0 : Int))) ++ [.row 26 64 Rc]), [decide ((m0 : Int) > 1152921504606846976) == false, sameH ([.ptr (some (3, 0)), .sl (some (0, 0)) m0 (.fix c0)], hpA cs m0 c0 firstI (.sl none 0 (.fix 0)) 0) ([.ptr (some (3, 0)), .sl (some (0, 0)) m0 (.fix c0)], hpA cs m0 c0 firstI (.sl none 0 (.fix 0)) 0), true, true]) := by kernel_rfl
theorem e20z (cs : List AV) (m0 c0 k L : Nat) (s1 : Nat → Int) (Rc : List AV) (pd : List AV) (s : Nat → Int) (n : Int) : (runVg Try.prog SB1 (sy0 [0, 4, 8]) (cvE [(15, ([.int .i64 n], (hp8z cs m0 c0 k s1 Rc n)), (.sl (some (8, 0)) L (.rel 0), (hp8z cs m0 c0 k s1 Rc n) ++ [.row 5 1 pd])), (36, ([.ptr (some (7, 0)), .sl (some (8, 0)) L (.rel 0)], hpBz cs m0 c0 k s1 Rc pd (.sl none 0 (.fix 0)) s1 n), (.tup [], hpBz cs m0 c0 k s1 Rc pd (.sl none 0 (.fix 0)) s n))]) F20 100 p20 [.ptr (some (3, 0))] (hp5z cs m0 c0 k s1 Rc n) (List.replicate 10 .lit)) = some ((.agg (ints .u8 32 (outB s)), (hp5z cs m0 c0 k s1 Rc n) ++ [.row 30 32 (ints .u8 32 (outB s)), .row 30 32 (ints .u8 32 (outB s))]), trW 2 ++ [sameH ([.int .i64 n], (hp8z cs m0 c0 k s1 Rc n)) ([.int .i64 n], (hp8z cs m0 c0 k s1 Rc n)), sameH ([.ptr (some (7, 0)), .sl (some (8, 0)) L (.rel 0)], hpBz cs m0 c0 k s1 Rc pd (.sl none 0 (.fix 0)) s1 n) ([.ptr (some (7, 0)), .sl (some (8, 0)) L (.rel 0)], hpBz cs m0 c0 k s1 Rc pd (.sl none 0 (.fix 0)) s1 n)] ++ trW 40 ++ [cs.all (isInt .u8), pd.all (isInt .u8)] ++ [cs.all (isInt .u8)] ++ trW 2) := by kernel_rfl
theorem e20n (cs : List AV) (m0 c0 k L : Nat) (s1 : Nat → Int) (Rc : List AV) (pd : List AV) (s : Nat → Int) (n : Int) : (runVg Try.prog SB1 (sy0 [0, 4, 8]) (cvE [(15, ([.int .i64 n], (hp8n cs m0 c0 k s1 Rc n)), (.sl (some (8, 0)) L (.rel 0), (hp8n cs m0 c0 k s1 Rc n) ++ [.row 5 1 pd])), (36, ([.ptr (some (7, 0)), .sl (some (8, 0)) L (.rel 0)], hpBn cs m0 c0 k s1 Rc pd (.sl (some (4, 0)) k (.fix 64)) s1 n), (.tup [], hpBn cs m0 c0 k s1 Rc pd (.sl none 0 (.fix 0)) s n))]) F20 100 p20 [.ptr (some (3, 0))] (hp5n cs m0 c0 k s1 Rc n) (List.replicate 10 .lit)) = some ((.agg (ints .u8 32 (outB s)), (hp5n cs m0 c0 k s1 Rc n) ++ [.row 30 32 (ints .u8 32 (outB s)), .row 30 32 (ints .u8 32 (outB s))]), trW 2 ++ [sameH ([.int .i64 n], (hp8n cs m0 c0 k s1 Rc n)) ([.int .i64 n], (hp8n cs m0 c0 k s1 Rc n)), sameH ([.ptr (some (7, 0)), .sl (some (8, 0)) L (.rel 0)], hpBn cs m0 c0 k s1 Rc pd (.sl (some (4, 0)) k (.fix 64)) s1 n) ([.ptr (some (7, 0)), .sl (some (8, 0)) L (.rel 0)], hpBn cs m0 c0 k s1 Rc pd (.sl (some (4, 0)) k (.fix 64)) s1 n)] ++ trW 40 ++ [cs.all (isInt .u8), Rc.all (isInt .u8), pd.all (isInt .u8)] ++ [cs.all (isInt .u8), Rc.all (isInt .u8)] ++ trW 2) := by kernel_rfl
noncomputable def SB2 : Specs := mkS Q q5 (fun g => match g with
  | 17 => some (runG Try.prog SBq FNo 40 p17)
  | 18 => some (limG Try.prog SB1 FNo p18)
  | 20 => some (limG Try.prog SB1 F20 p20)
  | _ => none)
theorem SB2_ok : SB2.OK Try.prog := mkS_ok quietText q5_ok (fun g s h => by
  split at h
  · cases h; exact nest_ok SBq_ok SBq_q ht17 c17 _ _
  · cases h; exact limG_ok mixed SB1_ok SB1_q ht18 c18 _
  · cases h; exact limG_ok mixed SB1_ok SB1_q ht20 c20 _
  · cases h)
theorem SB2_q : ∀ g, (SB2.q g).isSome = Q g := fun g => mkS_isSome g
def F12 (id : Nat) : Tidy := if id = 7 then ⟨[], .rows [0, 1, 2]⟩ else ⟨[], .all⟩

/- The program's sum of one slice, as a run. -/

theorem e12z (cs : List AV) (m0 c0 k : Nat) (s g : Nat → Int) (Rc : List AV) : runVg Try.prog SB2 (sy0 [0, 4]) (cvE [(18, ([.ptr (some (3, 0)), .sl (some (0, 0)) m0 (.fix c0)], hpA cs m0 c0 firstI (.sl none 0 (.fix 0)) 0), (.int .i64 0, hpA cs m0 c0 s (.sl none 0 (.fix 0)) (IntKind.i64.wrap (0 + (m0 : Int))))), (20, ([.ptr (some (3, 0))], (hp5z cs m0 c0 k s Rc (IntKind.i64.wrap (0 + (m0 : Int))))), (AV.agg (ints .u8 32 g), (hp5z cs m0 c0 k s Rc (IntKind.i64.wrap (0 + (m0 : Int)))) ++ [.row 30 32 (ints .u8 32 g), .row 30 32 (ints .u8 32 g)]))]) F12 60 p12 [.sl (some (1, 0)) 1 (.rel 0)] ([.ro cs, .row 23 1 [.sl (some (0, 0)) m0 (.fix c0)]] : AHeap) [.lit, .lit] = some ((.agg (ints .u8 32 g), ([.ro cs, .row 23 1 [.sl (some (0, 0)) m0 (.fix c0)], .row 30 32 (ints .u8 32 g), hrow s (.sl none 0 (.fix 0)) (IntKind.i64.wrap (0 + (m0 : Int))), .dead, .row 30 32 (ints .u8 32 g), .row 30 32 (ints .u8 32 g)] : AHeap)), trW 2 ++ [sameH ([.ptr (some (3, 0)), .sl (some (0, 0)) m0 (.fix c0)], hpA cs m0 c0 firstI (.sl none 0 (.fix 0)) 0) ([.ptr (some (3, 0)), .sl (some (0, 0)) m0 (.fix c0)], hpA cs m0 c0 firstI (.sl none 0 (.fix 0)) 0)] ++ [cs.all (isInt .u8)] ++ [sameH ([.ptr (some (3, 0))], (hp5z cs m0 c0 k s Rc (IntKind.i64.wrap (0 + (m0 : Int))))) ([.ptr (some (3, 0))], (hp5z cs m0 c0 k s Rc (IntKind.i64.wrap (0 + (m0 : Int)))))] ++ trW 2) := by kernel_rfl
theorem e12n (cs : List AV) (m0 c0 k : Nat) (s g : Nat → Int) (Rc : List AV) : runVg Try.prog SB2 (sy0 [0, 4]) (cvE [(18, ([.ptr (some (3, 0)), .sl (some (0, 0)) m0 (.fix c0)], hpA cs m0 c0 firstI (.sl none 0 (.fix 0)) 0), (.int .i64 0, (hpA cs m0 c0 s (.sl (some (4, 0)) k (.fix 64)) (IntKind.i64.wrap (0 + (m0 : Int))) ++ [.row 26 64 Rc]))), (20, ([.ptr (some (3, 0))], (hp5n cs m0 c0 k s Rc (IntKind.i64.wrap (0 + (m0 : Int))))), (AV.agg (ints .u8 32 g), (hp5n cs m0 c0 k s Rc (IntKind.i64.wrap (0 + (m0 : Int)))) ++ [.row 30 32 (ints .u8 32 g), .row 30 32 (ints .u8 32 g)]))]) F12 60 p12 [.sl (some (1, 0)) 1 (.rel 0)] ([.ro cs, .row 23 1 [.sl (some (0, 0)) m0 (.fix c0)]] : AHeap) [.lit, .lit] = some ((.agg (ints .u8 32 g), ([.ro cs, .row 23 1 [.sl (some (0, 0)) m0 (.fix c0)], .row 30 32 (ints .u8 32 g), hrow s (.sl (some (4, 0)) k (.fix 64)) (IntKind.i64.wrap (0 + (m0 : Int))), .row 26 64 Rc, .row 30 32 (ints .u8 32 g), .row 30 32 (ints .u8 32 g)] : AHeap)), trW 2 ++ [sameH ([.ptr (some (3, 0)), .sl (some (0, 0)) m0 (.fix c0)], hpA cs m0 c0 firstI (.sl none 0 (.fix 0)) 0) ([.ptr (some (3, 0)), .sl (some (0, 0)) m0 (.fix c0)], hpA cs m0 c0 firstI (.sl none 0 (.fix 0)) 0)] ++ [cs.all (isInt .u8), Rc.all (isInt .u8)] ++ [sameH ([.ptr (some (3, 0))], (hp5n cs m0 c0 k s Rc (IntKind.i64.wrap (0 + (m0 : Int))))) ([.ptr (some (3, 0))], (hp5n cs m0 c0 k s Rc (IntKind.i64.wrap (0 + (m0 : Int)))))] ++ trW 2) := by kernel_rfl
theorem absorb_len (s : Nat → Int) (l : List AV) : (absorb s l).2.length = l.length % 64 ∧ ∀ v ∈ (absorb s l).2, v ∈ l := by
  induction hn : l.length using Nat.strongRecOn generalizing s l with
  | _ n ih =>
    subst hn
    rcases Nat.lt_or_ge l.length 64 with q | q
    · rw [absorb_end q]
      exact ⟨by simp only; omega, fun v hv => hv⟩
    · rw [absorb_more q]
      obtain ⟨h1, h2⟩ := ih (l.drop 64).length (by simp; omega) (BL s (l.take 64)) (l.drop 64) rfl
      refine ⟨by rw [h1]; simp; omega, fun v hv => List.mem_of_mem_drop (h2 v hv)⟩
theorem absorb_append (s : Nat → Int) (l p : List AV) : absorb s (l ++ p) = absorb (absorb s l).1 ((absorb s l).2 ++ p) := by
  induction hn : l.length using Nat.strongRecOn generalizing s l with
  | _ n ih =>
    subst hn
    rcases Nat.lt_or_ge l.length 64 with q | q
    · rw [absorb_end q]
    · rw [absorb_more (l := l) q, absorb_more (l := l ++ p) (by simp; omega), List.take_append_of_le_length q, List.drop_append_of_le_length q]
      exact ih (l.drop 64).length (by simp; omega) _ _ rfl
theorem S1_36 (vs : List AV) (h : AHeap) : (match SB1.q 36 with | some sp => (sp vs h).map (·, h) | none => (SB1.f 36).bind fun sp => sp vs h) = limG Try.prog SB0 F36 p36 vs h := rfl
theorem S1_15 (vs : List AV) (h : AHeap) : (match SB1.q 15 with | some sp => (sp vs h).map (·, h) | none => (SB1.f 15).bind fun sp => sp vs h) = freshS (padF F15 p15) vs h := rfl
theorem S2_18 (vs : List AV) (h : AHeap) : (match SB2.q 18 with | some sp => (sp vs h).map (·, h) | none => (SB2.f 18).bind fun sp => sp vs h) = limG Try.prog SB1 FNo p18 vs h := rfl
theorem S2_20 (vs : List AV) (h : AHeap) : (match SB2.q 20 with | some sp => (sp vs h).map (·, h) | none => (SB2.f 20).bind fun sp => sp vs h) = limG Try.prog SB1 F20 p20 vs h := rfl
theorem hg_ok {m0 : Nat} (h : m0 ≤ 65536) : (decide ((m0 : Int) > 1152921504606846976) == false) = true := by simp; omega
theorem w18z {cs : List AV} {m0 c0 : Nat} {s1 : Nat → Int} (h3 : m0 ≤ 65536) (h : limG Try.prog SB0 F36 p36 [.ptr (some (3, 0)), .sl (some (0, 0)) m0 (.fix c0)] (hpA cs m0 c0 firstI (.sl none 0 (.fix 0)) 0) = some (.tup [], hpA cs m0 c0 s1 (.sl none 0 (.fix 0)) 0)) :
    limG Try.prog SB1 FNo p18 [.ptr (some (3, 0)), .sl (some (0, 0)) m0 (.fix c0)] (hpA cs m0 c0 firstI (.sl none 0 (.fix 0)) 0) = some (.int .i64 0, hpA cs m0 c0 s1 (.sl none 0 (.fix 0)) (IntKind.i64.wrap (0 + (m0 : Int)))) :=
  limG_of (runVg_ok Try.prog SB1 (sy0 [0]) _ (cvE_ok (S := SB1) (fun e he => by
      rw [List.mem_singleton] at he
      subst he
      exact (S1_36 _ _).trans h)) (e18z cs m0 c0 0 s1 []) (by simp only [hg_ok h3, sameH_self, List.all_cons, List.all_nil, id, Bool.and_self]))
theorem w18n {cs : List AV} {m0 c0 k : Nat} {s1 : Nat → Int} {Rc : List AV} (h3 : m0 ≤ 65536) (h : limG Try.prog SB0 F36 p36 [.ptr (some (3, 0)), .sl (some (0, 0)) m0 (.fix c0)] (hpA cs m0 c0 firstI (.sl none 0 (.fix 0)) 0) = some (.tup [], hpA cs m0 c0 s1 (.sl (some (4, 0)) k (.fix 64)) 0 ++ [.row 26 64 Rc])) :
    limG Try.prog SB1 FNo p18 [.ptr (some (3, 0)), .sl (some (0, 0)) m0 (.fix c0)] (hpA cs m0 c0 firstI (.sl none 0 (.fix 0)) 0) = some (.int .i64 0, hpA cs m0 c0 s1 (.sl (some (4, 0)) k (.fix 64)) (IntKind.i64.wrap (0 + (m0 : Int))) ++ [.row 26 64 Rc]) :=
  limG_of (runVg_ok Try.prog SB1 (sy0 [0]) _ (cvE_ok (S := SB1) (fun e he => by
      rw [List.mem_singleton] at he
      subst he
      exact (S1_36 _ _).trans h)) (e18n cs m0 c0 k s1 Rc) (by simp only [hg_ok h3, sameH_self, List.all_cons, List.all_nil, id, Bool.and_self]))
theorem pair_mem {α : Type} {a b e : α} (h : e ∈ [a, b]) : e = a ∨ e = b := by simpa using h
theorem w20z {cs : List AV} {m0 c0 L : Nat} {s1 s : Nat → Int} {pd : List AV} {n : Int} (hcs : cs.all (isInt .u8) = true) (hpd : pd.all (isInt .u8) = true)
    (h15 : freshS (padF F15 p15) [.int .i64 n] (hp8z cs m0 c0 0 s1 [] n) = some (.sl (some (8, 0)) L (.rel 0), hp8z cs m0 c0 0 s1 [] n ++ [.row 5 1 pd]))
    (h36 : limG Try.prog SB0 F36 p36 [.ptr (some (7, 0)), .sl (some (8, 0)) L (.rel 0)] (hpBz cs m0 c0 0 s1 [] pd (.sl none 0 (.fix 0)) s1 n) = some (.tup [], hpBz cs m0 c0 0 s1 [] pd (.sl none 0 (.fix 0)) s n)) :
    limG Try.prog SB1 F20 p20 [.ptr (some (3, 0))] (hp5z cs m0 c0 0 s1 [] n) = some (.agg (ints .u8 32 (outB s)), hp5z cs m0 c0 0 s1 [] n ++ [.row 30 32 (ints .u8 32 (outB s)), .row 30 32 (ints .u8 32 (outB s))]) :=
  limG_of (runVg_ok Try.prog SB1 (sy0 [0, 4, 8]) _ (cvE_ok (S := SB1) (fun e he => by
      rcases pair_mem he with rfl | rfl
      · exact (S1_15 _ _).trans h15
      · exact (S1_36 _ _).trans h36)) (e20z cs m0 c0 0 L s1 [] pd s n) (by simp only [hcs, hpd, trW_ok, sameH_self, List.all_append, List.all_cons, List.all_nil, id, Bool.and_self]))
theorem w20n {cs : List AV} {m0 c0 k L : Nat} {s1 s : Nat → Int} {Rc pd : List AV} {n : Int} (hcs : cs.all (isInt .u8) = true) (hR : Rc.all (isInt .u8) = true) (hpd : pd.all (isInt .u8) = true)
    (h15 : freshS (padF F15 p15) [.int .i64 n] (hp8n cs m0 c0 k s1 Rc n) = some (.sl (some (8, 0)) L (.rel 0), hp8n cs m0 c0 k s1 Rc n ++ [.row 5 1 pd]))
    (h36 : limG Try.prog SB0 F36 p36 [.ptr (some (7, 0)), .sl (some (8, 0)) L (.rel 0)] (hpBn cs m0 c0 k s1 Rc pd (.sl (some (4, 0)) k (.fix 64)) s1 n) = some (.tup [], hpBn cs m0 c0 k s1 Rc pd (.sl none 0 (.fix 0)) s n)) :
    limG Try.prog SB1 F20 p20 [.ptr (some (3, 0))] (hp5n cs m0 c0 k s1 Rc n) = some (.agg (ints .u8 32 (outB s)), hp5n cs m0 c0 k s1 Rc n ++ [.row 30 32 (ints .u8 32 (outB s)), .row 30 32 (ints .u8 32 (outB s))]) :=
  limG_of (runVg_ok Try.prog SB1 (sy0 [0, 4, 8]) _ (cvE_ok (S := SB1) (fun e he => by
      rcases pair_mem he with rfl | rfl
      · exact (S1_15 _ _).trans h15
      · exact (S1_36 _ _).trans h36)) (e20n cs m0 c0 k L s1 Rc pd s n) (by simp only [hcs, hR, hpd, trW_ok, sameH_self, List.all_append, List.all_cons, List.all_nil, id, Bool.and_self]))
theorem w12z {cs : List AV} {m0 c0 : Nat} {s1 g : Nat → Int} (hcs : cs.all (isInt .u8) = true)
    (h18 : limG Try.prog SB1 FNo p18 [.ptr (some (3, 0)), .sl (some (0, 0)) m0 (.fix c0)] (hpA cs m0 c0 firstI (.sl none 0 (.fix 0)) 0) = some (.int .i64 0, hpA cs m0 c0 s1 (.sl none 0 (.fix 0)) (IntKind.i64.wrap (0 + (m0 : Int)))))
    (h20 : limG Try.prog SB1 F20 p20 [.ptr (some (3, 0))] (hp5z cs m0 c0 0 s1 [] (IntKind.i64.wrap (0 + (m0 : Int)))) = some (.agg (ints .u8 32 g), hp5z cs m0 c0 0 s1 [] (IntKind.i64.wrap (0 + (m0 : Int))) ++ [.row 30 32 (ints .u8 32 g), .row 30 32 (ints .u8 32 g)])) :
    ∃ h3, limG Try.prog SB2 F12 p12 [.sl (some (1, 0)) 1 (.rel 0)] [.ro cs, .row 23 1 [.sl (some (0, 0)) m0 (.fix c0)]] = some (.agg (ints .u8 32 g), .ro cs :: h3) :=
  ⟨_, limG_of (runVg_ok Try.prog SB2 (sy0 [0, 4]) _ (cvE_ok (S := SB2) (fun e he => by
      rcases pair_mem he with rfl | rfl
      · exact (S2_18 _ _).trans h18
      · exact (S2_20 _ _).trans h20)) (e12z cs m0 c0 0 s1 g []) (by simp only [hcs, trW_ok, sameH_self, List.all_append, List.all_cons, List.all_nil, id, Bool.and_self]))⟩
theorem w12n {cs : List AV} {m0 c0 : Nat} {s1 g : Nat → Int} {k : Nat} {Rc : List AV} (hcs : cs.all (isInt .u8) = true) (hR : Rc.all (isInt .u8) = true)
    (h18 : limG Try.prog SB1 FNo p18 [.ptr (some (3, 0)), .sl (some (0, 0)) m0 (.fix c0)] (hpA cs m0 c0 firstI (.sl none 0 (.fix 0)) 0) = some (.int .i64 0, hpA cs m0 c0 s1 (.sl (some (4, 0)) k (.fix 64)) (IntKind.i64.wrap (0 + (m0 : Int))) ++ [.row 26 64 Rc]))
    (h20 : limG Try.prog SB1 F20 p20 [.ptr (some (3, 0))] (hp5n cs m0 c0 k s1 Rc (IntKind.i64.wrap (0 + (m0 : Int)))) = some (.agg (ints .u8 32 g), hp5n cs m0 c0 k s1 Rc (IntKind.i64.wrap (0 + (m0 : Int))) ++ [.row 30 32 (ints .u8 32 g), .row 30 32 (ints .u8 32 g)])) :
    ∃ h3, limG Try.prog SB2 F12 p12 [.sl (some (1, 0)) 1 (.rel 0)] [.ro cs, .row 23 1 [.sl (some (0, 0)) m0 (.fix c0)]] = some (.agg (ints .u8 32 g), .ro cs :: h3) :=
  ⟨_, limG_of (runVg_ok Try.prog SB2 (sy0 [0, 4]) _ (cvE_ok (S := SB2) (fun e he => by
      rcases pair_mem he with rfl | rfl
      · exact (S2_18 _ _).trans h18
      · exact (S2_20 _ _).trans h20)) (e12n cs m0 c0 k s1 g Rc) (by simp only [hcs, hR, trW_ok, sameH_self, List.all_append, List.all_cons, List.all_nil, id, Bool.and_self]))⟩
theorem sum12_run (cs : List AV) (hcs : cs.all (isInt .u8) = true) (m0 c0 : Nat) (h1 : m0 ≤ cs.length) (h2 : m0 ≤ c0) (h3 : m0 ≤ 65536) :
    ∃ h3, limG Try.prog SB2 F12 p12 [.sl (some (1, 0)) 1 (.rel 0)] [.ro cs, .row 23 1 [.sl (some (0, 0)) m0 (.fix c0)]] = some (.agg (ints .u8 32 (outB (absorb firstI (cs.take m0 ++ padL (m0 : Int))).1)), .ro cs :: h3) := by
  obtain ⟨N, hA⟩ := takeA_run cs hcs m0 c0 0 m0 c0 firstI 0 (by omega) h2
  rw [List.drop_zero] at hA
  obtain ⟨r1, r2⟩ := absorb_len firstI (cs.take m0)
  have hl : (cs.take m0).length = m0 := by simp; omega
  rw [hl] at r1
  have hri : (absorb firstI (cs.take m0)).2.all (isInt .u8) = true := all_sub hcs fun v hv => List.mem_of_mem_take (r2 v hv)
  have hap := absorb_append firstI (cs.take m0) (padL (m0 : Int))
  rw [hap]
  generalize (absorb firstI (cs.take m0)).1 = s1 at hA
  generalize (absorb firstI (cs.take m0)).2 = r at hA r1 hri
  have hn : IntKind.i64.wrap (0 + (m0 : Int)) = (m0 : Int) := by rw [IntKind.wrap_i64]; omega
  obtain ⟨p1, p2⟩ := padL_ok (m0 : Int)
  have hj : padJ (m0 : Int) = ((119 - (m0 : Int) % 64) % 64).toNat := rfl
  cases r with
  | nil =>
    have hm : m0 % 64 = 0 := by simpa using r1.symm
    have hp : padJ (m0 : Int) + 9 = 64 := by rw [hj]; omega
    have hpl : (padL (m0 : Int)).length = 64 := by omega
    have a18 := w18z (cs := cs) (c0 := c0) (s1 := s1) h3 (limG_of hA)
    have e15 := pad15_eq (m0 : Int) (by omega) (hp8z cs m0 c0 0 s1 [] (m0 : Int))
    rw [hp, show (hp8z cs m0 c0 0 s1 [] (m0 : Int)).length = 8 from rfl] at e15
    obtain ⟨N2, hB⟩ := takeB_z cs m0 c0 0 s1 [] (padL (m0 : Int)) s1 (m0 : Int) hcs p2 hpl
    have a20 := w20z hcs p2 e15 (limG_of hB)
    have ea : (absorb s1 ([] ++ padL (m0 : Int))).1 = BL s1 (padL (m0 : Int)) := by
      rw [List.nil_append, absorb_more (by omega), absorb_end (by simp; omega), List.take_of_length_le (by omega)]
    rw [ea]
    exact w12z hcs a18 (by rw [hn]; exact a20)
  | cons a r =>
    obtain ⟨k, hk⟩ : ∃ k, k = (a :: r).length := ⟨_, rfl⟩
    have hk0 : 0 < k := by rw [hk]; simp
    have hk64 : k < 64 := by omega
    have hp : k + (padL (m0 : Int)).length = 64 ∨ k + (padL (m0 : Int)).length = 128 := by rw [p1, hj]; omega
    have a18 := w18n (cs := cs) (c0 := c0) (k := k) (s1 := s1) (Rc := R64 (a :: r)) h3 (by rw [hk]; exact limG_of hA)
    have e15 := pad15_eq (m0 : Int) (by omega) (hp8n cs m0 c0 k s1 (R64 (a :: r)) (m0 : Int))
    rw [← p1, show (hp8n cs m0 c0 k s1 (R64 (a :: r)) (m0 : Int)).length = 8 from rfl] at e15
    obtain ⟨N2, hB⟩ := takeB_n cs m0 c0 s1 (a :: r) (padL (m0 : Int)) s1 (m0 : Int) hcs hri p2 (by omega) (by omega) (by omega) (by omega)
    rw [← hk] at hB
    have a20 := w20n hcs (R64_ints hri) p2 e15 (limG_of hB)
    exact w12n hcs (R64_ints hri) a18 (by rw [hn]; exact a20)
end Go.Proofs.Ytiijphmpkmmpjaa
