/- Written by merging: Dg Dh Di Dj Dk Dl. -/
import Derived.Test.YtncmgbbbekabdaaMm
import Derived.Test.YtncmgbbbekabdaaMj
import Derived.Test.YtncmgbbbekabdaaMd
import Derived.Test.YtncmgbbbekabdaaMk
namespace Go.Proofs.Ytncmgbbbekabdaa
open Go Go.Am Go.RowKit
set_option maxRecDepth 100000
set_option linter.unusedVariables false
set_option linter.unusedSimpArgs false

noncomputable def tqRl : List TbE := [⟨21, sIdx, .of (.one i64)⟩]
noncomputable def tgRl : List TbG := [TC Try.prog 37 V0 P37, TC Try.prog 38 V0 P38]
theorem tabsRl : TabsOK tqRl tgRl [] := by
  refine ⟨fun x hx => ?_, by kernel_rfl, fun x hx => ?_, fun x hx => ?_, fun _ h => (by cases h), rfl⟩
  · simp only [tqRl, List.mem_cons, List.not_mem_nil, or_false] at hx
    subst hx; exact lidx_ok
  · simp only [tgRl, List.mem_cons, List.not_mem_nil, or_false] at hx
    rcases hx with rfl | rfl
    · exact csem_full ht37 V0 P37
    · exact csem_full ht38 V0 P38
  · simp only [tgRl, List.mem_cons, List.not_mem_nil, or_false] at hx
    rcases hx with rfl | rfl
    · exact TC_ok _ _ _ _
    · exact TC_ok _ _ _ _
noncomputable def C32 : Cfg := CT tqRl tgRl [(23, .slV), (34, .slV)]
noncomputable def C33 : Cfg := CT tqRl tgRl []
noncomputable def C34 : Cfg := CT tqRl tgRl [(21, .slV)]
theorem lins_vc (h : AHeap) (r : Nat) (a id : Int) (R : AV → AHeap → Prop) : (askB (decide (id < 1)) (R (AV.int .i64 1) h) (askB (decide (id > 9007199254740992)) (R (AV.int .i64 1) h) (∃ (n : Int), TbE.s { f := 21, s := sIdx, r := Rs.of (Rs1.one i64) } [AV.ptr (some (r, 0)), AV.int .i64 id] h = some (AV.int .i64 n) ∧ askB (decide (n ≥ 0)) (R (AV.int .i64 5) h) (∃ (q : Option (Nat × Nat)), ∃ (n : Nat), ∃ (c : ACap), (Option.bind (cellsAt h r) fun (x : List AV) => partR none x 0) = some (AV.sl q n c) ∧ askB (decide ((↑n : Int) ≥ 1024)) (R (AV.int .i64 6) h) (askB (decide (a < 0)) (R (AV.int .i64 1) h) (∃ (q : Option (Nat × Nat)), ∃ (n : Nat), ∃ (c : ACap), (Option.bind (cellsAt h r) fun (x : List AV) => partR none x 0) = some (AV.sl q n c) ∧ askB (decide (a > (↑n : Int))) (R (AV.int .i64 1) h) (ComesTo Try.prog 37 V0 P37 ([] ++ List.reverse [AV.int .i64 id, AV.int .i64 a, AV.ptr (some (r, 0))] ++ []) h ∧ ∀ (a_1 : Unit) (h' : AHeap), P37 [AV.ptr (some (r, 0)), AV.int .i64 a, AV.int .i64 id] h a_1 h' → R (AV.int .i64 0) h'))))))) = (wpF Try.prog C32 60 p32 [.ptr (some (r, 0)), .int .i64 a, .int .i64 id] h R) := by kernel_rfl
theorem ldel_vc (h : AHeap) (r : Nat) (id : Int) (R : AV → AHeap → Prop) : (∃ (n : Int), TbE.s { f := 21, s := sIdx, r := Rs.of (Rs1.one i64) } [AV.ptr (some (r, 0)), AV.int .i64 id] h = some (AV.int .i64 n) ∧ askB (decide (n < 0)) (R (AV.tup [AV.int .i64 0, AV.int .i64 4]) h) (ComesTo Try.prog 38 V0 P38 ([] ++ List.reverse [AV.int .i64 n, AV.ptr (some (r, 0))] ++ []) h ∧ ∀ (a : Unit) (h' : AHeap), P38 [AV.ptr (some (r, 0)), AV.int .i64 n] h a h' → R (AV.tup [AV.int .i64 n, AV.int .i64 0]) h')) = (wpF Try.prog C33 60 p33 [.ptr (some (r, 0)), .int .i64 id] h R) := by kernel_rfl
theorem lmov_vc (h : AHeap) (r : Nat) (id a : Int) (R : AV → AHeap → Prop) : (∃ (n : Int), TbE.s { f := 21, s := sIdx, r := Rs.of (Rs1.one i64) } [AV.ptr (some (r, 0)), AV.int .i64 id] h = some (AV.int .i64 n) ∧ askB (decide (n < 0)) (R (AV.tup [AV.int .i64 0, AV.int .i64 4]) h) (askB (decide (a < 0)) (R (AV.tup [AV.int .i64 0, AV.int .i64 1]) h) (∃ (q : Option (Nat × Nat)), ∃ (n_1 : Nat), ∃ (c : ACap), (Option.bind (cellsAt h r) fun (x : List AV) => partR none x 0) = some (AV.sl q n_1 c) ∧ askB (decide (a ≥ (↑n_1 : Int))) (R (AV.tup [AV.int .i64 0, AV.int .i64 1]) h) (ComesTo Try.prog 38 V0 P38 ([] ++ List.reverse [AV.int .i64 n, AV.ptr (some (r, 0))] ++ []) h ∧ ∀ (a_1 : Unit) (h' : AHeap), P38 [AV.ptr (some (r, 0)), AV.int .i64 n] h a_1 h' → ComesTo Try.prog 37 V0 P37 ([] ++ List.reverse [AV.int .i64 id, AV.int .i64 a, AV.ptr (some (r, 0))] ++ []) h' ∧ ∀ (a_3 : Unit) (h'_1 : AHeap), P37 [AV.ptr (some (r, 0)), AV.int .i64 a, AV.int .i64 id] h' a_3 h'_1 → R (AV.tup [AV.int .i64 n, AV.int .i64 0]) h'_1)))) = (wpF Try.prog C34 60 p34 [.ptr (some (r, 0)), .int .i64 id, .int .i64 a] h R) := by kernel_rfl
theorem erase_at {id : Int} : ∀ {zs : List Int}, id ∈ zs → zs.take (zs.idxOf id) ++ zs.drop (zs.idxOf id + 1) = zs.erase id
  | z :: zs, h => by
    by_cases hz : z = id
    · subst hz
      rw [List.idxOf_cons_self, List.erase_cons_head]; rfl
    · have hm : id ∈ zs := by
        rcases List.mem_cons.1 h with e | h
        · exact absurd e.symm hz
        · exact h
      have hb : (z == id) = false := by simpa using hz
      rw [List.idxOf_cons, hb, List.erase_cons_tail (by simpa using hz)]
      simp only [cond_false, List.take_succ_cons, List.drop_succ_cons, List.cons_append]
      rw [erase_at hm]
theorem wG_sl {l : AV} {zs : List Int} (h : wG l zs) : ∃ q c, l = .sl q zs.length c := by
  rcases h with ⟨rfl, rfl⟩ | ⟨_, k, rfl⟩ <;> exact ⟨_, _, rfl⟩
theorem lidx_at {h : AHeap} {r : Nat} {l : AV} {zs : List Int} {id : Int} (hl : wG l zs) (hz : zs.length ≤ 1024) (hM : Maps h (rR r l zs)) : sIdx [.ptr (some (r, 0)), .int .i64 id] h = some (.int .i64 (idxZ zs id)) := by
  simp only [sIdx, readL_rR (by omega) hl.form hM, Option.map_some]
theorem lat_at {h : AHeap} {r : Nat} {l : AV} {zs : List Int} {i : Int} (hl : wG l zs) (hz : zs.length ≤ 1024) (hM : Maps h (rR r l zs)) : sAt [.ptr (some (r, 0)), .int .i64 i] h = some (VIB (atR zs i)) := by
  simp only [sAt, readL_rR (by omega) hl.form hM, Option.map_some]
theorem idxZ_mem {zs : List Int} {id : Int} (h : id ∈ zs) : idxZ zs id = ((zs.idxOf id : Nat) : Int) := by unfold idxZ; rw [if_pos h]
theorem idxZ_not {zs : List Int} {id : Int} (h : id ∉ zs) : idxZ zs id = -1 := by unfold idxZ; rw [if_neg h]
def P32 (vs : List AV) (h : AHeap) (c : Int) (h' : AHeap) : Prop := ∀ r l zs (a id : Int), vs = [.ptr (some (r, 0)), .int .i64 a, .int .i64 id] → wG l zs → zs.length ≤ 1024 → Maps h (rR r l zs) →
  c = (insR zs a id).1 ∧ ∃ l', wG l' (insR zs a id).2 ∧ Tr h h' (rR r l zs) (rR r l' (insR zs a id).2)
theorem lins_can {h : AHeap} {r : Nat} {l : AV} {zs : List Int} {a id : Int} (hl : wG l zs) (hz : zs.length ≤ 1024) (hM : Maps h (rR r l zs)) : ComesTo Try.prog 32 VI P32 [.ptr (some (r, 0)), .int .i64 a, .int .i64 id] h := by
  suffices hs : ∃ v h', (∃ c : Int, v = VI c ∧ c = (insR zs a id).1 ∧ ∃ l', wG l' (insR zs a id).2 ∧ Tr h h' (rR r l zs) (rR r l' (insR zs a id).2)) ∧ CallSem Try.prog 32 [.ptr (some (r, 0)), .int .i64 a, .int .i64 id] h v h' by
    obtain ⟨v, h', ⟨c, rfl, ht⟩, hs⟩ := hs
    refine ⟨c, h', fun r' l2 zs2 a' id' e hl' hz' hM' => ?_, hs⟩
    simp only [List.cons.injEq, AV.ptr.injEq, AV.int.injEq, Option.some.injEq, Prod.mk.injEq, and_true, true_and] at e
    obtain ⟨rfl, rfl, rfl⟩ := e
    obtain ⟨rfl, rfl⟩ := rR_one hl.form hM hl'.form hM'
    exact ht
  have stay : ∀ c : Int, insR zs a id = (c, zs) → ∃ c' : Int, VI c = VI c' ∧ c' = (insR zs a id).1 ∧ ∃ l', wG l' (insR zs a id).2 ∧ Tr h h (rR r l zs) (rR r l' (insR zs a id).2) := fun c hc => ⟨c, rfl, by rw [hc], l, by rw [hc]; exact hl, by rw [hc]; exact Tr.refl hM⟩
  obtain ⟨q, cc, el⟩ := wG_sl hl
  have hf : (Option.bind (cellsAt h r) fun (x : List AV) => partR none x 0) = some (AV.sl q zs.length cc) := by rw [← el]; exact fld (hM.row r _ List.mem_cons_self) rfl
  refine sem tabsRl ht32 c32 rfl (lins_vc h r a id _) (askI (fun h1 => stay 1 ?_) fun h1 => askI (fun h2 => stay 1 ?_) fun h2 => ⟨_, lidx_at hl hz hM, askI (fun h3 => stay 5 ?_) fun h3 => ⟨q, zs.length, cc, hf, askI (fun h4 => stay 6 ?_) fun h4 => askI (fun h5 => stay 1 ?_) fun h5 => ⟨q, zs.length, cc, hf, askI (fun h6 => stay 1 ?_) fun h6 => ?_⟩⟩⟩)
  · simp only [decide_eq_true_eq] at h1
    unfold insR; rw [if_pos (.inl h1)]
  all_goals simp only [decide_eq_true_eq, decide_eq_false_iff_not, gt_iff_lt, ge_iff_le] at *
  · unfold insR; rw [if_pos (.inr h2)]
  · have hm : id ∈ zs := by
      by_cases hm : id ∈ zs
      · exact hm
      · rw [idxZ_not hm] at h3; omega
    unfold insR; rw [if_neg (by omega), if_pos hm]
  all_goals
    have hm : id ∉ zs := fun hm => by rw [idxZ_mem hm] at h3; omega
  · unfold insR; rw [if_neg (by omega), if_neg hm, if_pos (by omega)]
  · unfold insR; rw [if_neg (by omega), if_neg hm, if_neg (by omega), if_pos (.inl h5)]
  · unfold insR; rw [if_neg (by omega), if_neg hm, if_neg (by omega), if_pos (.inr h6)]
  · obtain ⟨j, rfl⟩ : ∃ j : Nat, a = j := ⟨a.toNat, by omega⟩
    refine ⟨put_lcan hl (by omega) (by omega) hM, fun _ h' hp => ⟨0, rfl, ?_⟩⟩
    obtain ⟨l', hl', T⟩ := hp r l zs j id rfl hl (by omega) (by omega) hM
    have e : insR zs (j : Int) id = (0, zs.take j ++ id :: zs.drop j) := by
      unfold insR; rw [if_neg (by omega), if_neg hm, if_neg (by omega), if_neg (by omega)]; simp
    rw [e]
    exact ⟨rfl, l', hl', T⟩
def P33 (vs : List AV) (h : AHeap) (c : Int × Int) (h' : AHeap) : Prop := ∀ r l zs (id : Int), vs = [.ptr (some (r, 0)), .int .i64 id] → wG l zs → zs.length ≤ 1024 → Maps h (rR r l zs) →
  c = (delR zs id).1 ∧ ∃ l', wG l' (delR zs id).2 ∧ Tr h h' (rR r l zs) (rR r l' (delR zs id).2)
theorem ldel_can {h : AHeap} {r : Nat} {l : AV} {zs : List Int} {id : Int} (hl : wG l zs) (hz : zs.length ≤ 1024) (hM : Maps h (rR r l zs)) : ComesTo Try.prog 33 VII P33 [.ptr (some (r, 0)), .int .i64 id] h := by
  suffices hs : ∃ v h', (∃ c : Int × Int, v = VII c ∧ c = (delR zs id).1 ∧ ∃ l', wG l' (delR zs id).2 ∧ Tr h h' (rR r l zs) (rR r l' (delR zs id).2)) ∧ CallSem Try.prog 33 [.ptr (some (r, 0)), .int .i64 id] h v h' by
    obtain ⟨v, h', ⟨c, rfl, ht⟩, hs⟩ := hs
    refine ⟨c, h', fun r' l2 zs2 id' e hl' hz' hM' => ?_, hs⟩
    simp only [List.cons.injEq, AV.ptr.injEq, AV.int.injEq, Option.some.injEq, Prod.mk.injEq, and_true, true_and] at e
    obtain ⟨rfl, rfl⟩ := e
    obtain ⟨rfl, rfl⟩ := rR_one hl.form hM hl'.form hM'
    exact ht
  refine sem tabsRl ht33 c33 rfl (ldel_vc h r id _) ⟨_, lidx_at hl hz hM, ?_⟩
  by_cases hm : id ∈ zs
  · have hi : zs.idxOf id < zs.length := List.idxOf_lt_length_of_mem hm
    rw [idxZ_mem hm]
    refine askF (by simp) ⟨cut_lcan hl hi (by omega) hM, fun _ h' hp => ⟨((zs.idxOf id : Nat), 0), rfl, ?_⟩⟩
    obtain ⟨l', hl', T⟩ := hp r l zs _ rfl hl hi (by omega) hM
    rw [erase_at hm] at hl' T
    have e : delR zs id = ((((zs.idxOf id : Nat) : Int), 0), zs.erase id) := by unfold delR; rw [if_pos hm]
    rw [e]
    exact ⟨rfl, l', hl', T⟩
  · rw [idxZ_not hm]
    have e : delR zs id = ((0, 4), zs) := by unfold delR; rw [if_neg hm]
    refine askT (by decide) ⟨(0, 4), rfl, ?_⟩
    rw [e]
    exact ⟨rfl, l, hl, Tr.refl hM⟩
def P34 (vs : List AV) (h : AHeap) (c : Int × Int) (h' : AHeap) : Prop := ∀ r l zs (id a : Int), vs = [.ptr (some (r, 0)), .int .i64 id, .int .i64 a] → wG l zs → zs.length ≤ 1024 → Maps h (rR r l zs) →
  c = (movR zs id a).1 ∧ ∃ l', wG l' (movR zs id a).2 ∧ Tr h h' (rR r l zs) (rR r l' (movR zs id a).2)
theorem lmov_can {h : AHeap} {r : Nat} {l : AV} {zs : List Int} {id a : Int} (hl : wG l zs) (hz : zs.length ≤ 1024) (hM : Maps h (rR r l zs)) : ComesTo Try.prog 34 VII P34 [.ptr (some (r, 0)), .int .i64 id, .int .i64 a] h := by
  suffices hs : ∃ v h', (∃ c : Int × Int, v = VII c ∧ c = (movR zs id a).1 ∧ ∃ l', wG l' (movR zs id a).2 ∧ Tr h h' (rR r l zs) (rR r l' (movR zs id a).2)) ∧ CallSem Try.prog 34 [.ptr (some (r, 0)), .int .i64 id, .int .i64 a] h v h' by
    obtain ⟨v, h', ⟨c, rfl, ht⟩, hs⟩ := hs
    refine ⟨c, h', fun r' l2 zs2 id' a' e hl' hz' hM' => ?_, hs⟩
    simp only [List.cons.injEq, AV.ptr.injEq, AV.int.injEq, Option.some.injEq, Prod.mk.injEq, and_true, true_and] at e
    obtain ⟨rfl, rfl, rfl⟩ := e
    obtain ⟨rfl, rfl⟩ := rR_one hl.form hM hl'.form hM'
    exact ht
  have stay : ∀ x y : Int, movR zs id a = ((x, y), zs) → ∃ c' : Int × Int, AV.tup [.int .i64 x, .int .i64 y] = VII c' ∧ c' = (movR zs id a).1 ∧ ∃ l', wG l' (movR zs id a).2 ∧ Tr h h (rR r l zs) (rR r l' (movR zs id a).2) := fun x y hc => ⟨(x, y), rfl, by rw [hc], l, by rw [hc]; exact hl, by rw [hc]; exact Tr.refl hM⟩
  obtain ⟨q, cc, el⟩ := wG_sl hl
  have hf : (Option.bind (cellsAt h r) fun (x : List AV) => partR none x 0) = some (AV.sl q zs.length cc) := by rw [← el]; exact fld (hM.row r _ List.mem_cons_self) rfl
  refine sem tabsRl ht34 c34 rfl (lmov_vc h r id a _) ⟨_, lidx_at hl hz hM, ?_⟩
  by_cases hm : id ∈ zs
  · have hi : zs.idxOf id < zs.length := List.idxOf_lt_length_of_mem hm
    rw [idxZ_mem hm]
    refine askF (by simp) (askI (fun h1 => stay 0 1 ?_) fun h1 => ⟨q, zs.length, cc, hf, askI (fun h2 => stay 0 1 ?_) fun h2 => ?_⟩)
    all_goals simp only [decide_eq_true_eq, decide_eq_false_iff_not, gt_iff_lt, ge_iff_le] at *
    · unfold movR; rw [if_pos hm, if_pos (.inl h1)]
    · unfold movR; rw [if_pos hm, if_pos (.inr h2)]
    · obtain ⟨j, rfl⟩ : ∃ j : Nat, a = j := ⟨a.toNat, by omega⟩
      refine ⟨cut_lcan hl hi (by omega) hM, fun _ h' hp => ?_⟩
      obtain ⟨l', hl', T⟩ := hp r l zs _ rfl hl hi (by omega) hM
      rw [erase_at hm] at hl' T
      have hlen : (zs.erase id).length = zs.length - 1 := List.length_erase_of_mem hm
      refine ⟨put_lcan hl' (by omega) (by omega) T.b, fun _ h3 hp2 => ⟨((zs.idxOf id : Nat), 0), rfl, ?_⟩⟩
      obtain ⟨l3, hl3, T3⟩ := hp2 r l' _ j id rfl hl' (by omega) (by omega) T.b
      have e : movR zs id (j : Int) = ((((zs.idxOf id : Nat) : Int), 0), (zs.erase id).take j ++ id :: (zs.erase id).drop j) := by
        unfold movR; rw [if_pos hm, if_neg (by omega)]; simp
      rw [e]
      exact ⟨rfl, l3, hl3, T.trans T3⟩
  · rw [idxZ_not hm]
    exact askT (by decide) (stay 0 4 (by unfold movR; rw [if_neg hm]))
noncomputable def tqC : List TbE := [⟨24, sNone, .of (.one .bool)⟩]
noncomputable def tgC : List TbG := [t7, TC Try.prog 9 VI P9, TC Try.prog 15 V15 P15]
theorem tabsCl : TabsOK tqC tgC [] := by
  refine ⟨fun x hx => ?_, by kernel_rfl, fun x hx => ?_, fun x hx => ?_, fun _ h => (by cases h), rfl⟩
  · simp only [tqC, List.mem_cons, List.not_mem_nil, or_false] at hx
    subst hx; exact none_ok
  · simp only [tgC, List.mem_cons, List.not_mem_nil, or_false] at hx
    rcases hx with rfl | rfl | rfl
    · exact t7_full
    · exact csem_full ht9 VI P9
    · exact csem_full ht15 V15 P15
  · simp only [tgC, List.mem_cons, List.not_mem_nil, or_false] at hx
    rcases hx with rfl | rfl | rfl
    · exact TK_ok
    · exact TC_ok _ _ _ _
    · exact TC_ok _ _ _ _
def r23 (t k c : Nat) : List AV := envOf 25 [(0, .ptr (some (t, 0))), (3, .ptr (some (k, 0))), (9, .ptr (some (t, 0))), (10, V15 c)]
def U23 (X Y : AHeap → Nat → Nat → Nat → Prop) (st : St) (K : AExit → St → Prop) : Prop := ∃ H t k c, st = (r23 t k c, H) ∧ X H t k c ∧ ∀ H', Y H' t k c → K .normal (r23 t k c, H')
noncomputable def C23c (X Y : AHeap → Nat → Nat → Nat → Prop) : Cfg := { CU tqC tgC [] [(13, .ptrS), (17, .ptrS), (21, i64), (24, .ptrS)] with
  rw := fun i => if i = 11 then some (U23 X Y) else none
  F := fun id => if id = 4 ∨ id = 8 then ⟨dropT 25 [0, 3], .all⟩ else ⟨[], .all⟩ }
noncomputable def R23 (b : Nat) : Cfg := { CU tqC tgC [] [(13, .ptrS)] with S := (SU tqC tgC []).noRf, b0 := b }
/-- The rounds over the ids. -/
def as23 : PC := (.seq (.ops 5 0 [⟨(some 4), .mov (.tmp 11), none⟩])
    (.ops 6 0 [⟨(some 5), .mov (.tmp 12), none⟩]))
def body23 : PC := (.block 1
     (.ops 7 0 [⟨(some 13), .load none (.tmp 3), none⟩,
       ⟨(some 14), .mov (.tmp 4), none⟩,
       ⟨(some 15), .mov (.tmp 5), none⟩,
       ⟨(some 16), .call (.func 9) [(.tmp 13), (.tmp 14), (.tmp 15)], none⟩]))
theorem parts23 : partsIn p23.body = [.rf (.tmp 10) [11, 12] as23 body23] := rfl
def q23 (t k c : Nat) (i z : Int) : List AV := envOf 25 [(0, .ptr (some (t, 0))), (3, .ptr (some (k, 0))), (4, .int .i64 i), (5, .int .i64 z), (9, .ptr (some (t, 0))), (10, V15 c), (11, .int .i64 i), (12, .int .i64 z)]
theorem clone_vc (h : AHeap) (t : Nat) (X Y : AHeap → Nat → Nat → Nat → Prop) (R : AV → AHeap → Prop) : (∃ (b : Bool), askB b (TbE.s { f := 24, s := sNone, r := Rs.of (Rs1.one K1.bool) } [AV.ptr (some (t, 0))] h = some (AV.bool true) ∧ R (AV.ptr none) h) (TbE.s { f := 24, s := sNone, r := Rs.of (Rs1.one K1.bool) } [AV.ptr (some (t, 0))] h = some (AV.bool false) ∧ preE ([] ++ List.reverse [] ++ []) ∧ chkW (isHole (h ++ List.replicate (0 + 1) AObj.hole ++ [AObj.map [], AObj.row 58 3 [AV.ptr none, AV.map (some (List.length (h ++ List.replicate (0 + 1) AObj.hole))), AV.int .i64 0]]) (List.length h)) (∃ (t_1 : TypeId), ∃ (s : Nat), ∃ (cs : List AV), (List.set (h ++ List.replicate (0 + 1) AObj.hole ++ [AObj.map [], AObj.row 58 3 [AV.ptr none, AV.map (some (List.length (h ++ List.replicate (0 + 1) AObj.hole))), AV.int .i64 0]]) (List.length h) (AObj.row 23 (List.length (AV.cells (AV.ptr none))) (AV.cells (AV.ptr none))))[List.length h]? = some (AObj.row t_1 s cs) ∧ chkW (decide (1 ≤ List.length cs)) (ComesTo Try.prog 15 V15 P15 ([] ++ List.reverse [AV.ptr (some (t, 0))] ++ []) (List.set (List.set (h ++ List.replicate (0 + 1) AObj.hole ++ [AObj.map [], AObj.row 58 3 [AV.ptr none, AV.map (some (List.length (h ++ List.replicate (0 + 1) AObj.hole))), AV.int .i64 0]]) (List.length h) (AObj.row 23 (List.length (AV.cells (AV.ptr none))) (AV.cells (AV.ptr none)))) (List.length h) (AObj.row t_1 s (spliceA cs 0 (AV.cells (AV.ptr (some (List.length (h ++ List.replicate (0 + 1) AObj.hole) + 1, 0))))))) ∧ ∀ (a : Nat) (h' : AHeap), P15 [AV.ptr (some (t, 0))] (List.set (List.set (h ++ List.replicate (0 + 1) AObj.hole ++ [AObj.map [], AObj.row 58 3 [AV.ptr none, AV.map (some (List.length (h ++ List.replicate (0 + 1) AObj.hole))), AV.int .i64 0]]) (List.length h) (AObj.row 23 (List.length (AV.cells (AV.ptr none))) (AV.cells (AV.ptr none)))) (List.length h) (AObj.row t_1 s (spliceA cs 0 (AV.cells (AV.ptr (some (List.length (h ++ List.replicate (0 + 1) AObj.hole) + 1, 0))))))) a h' → ∃ (H : AHeap), ∃ (t_2 : Nat), ∃ (k : Nat), ∃ (c : Nat), (envOf 25 [(0, AV.ptr (some (t, 0))), (3, AV.ptr (some (List.length h, 0))), (9, AV.ptr (some (t, 0))), (10, AV.fn 30 [] [AV.ptr (some (a, 0))])], h') = (envOf 25 [(0, AV.ptr (some (t_2, 0))), (3, AV.ptr (some (k, 0))), (9, AV.ptr (some (t_2, 0))), (10, AV.fn 30 [] [AV.ptr (some (c, 0))])], H) ∧ X H t_2 k c ∧ ∀ (H' : AHeap), Y H' t_2 k c → ∃ (k_1 : Nat), ∃ (o : Nat), (Option.bind (cellsAt H' k) fun (x : List AV) => partR none x 0) = some (AV.ptr (some (k_1, o))) ∧ ∃ (n : Int), (Option.bind (cellsAt H' t_2) fun (x : List AV) => partR none x 2) = some (AV.int .i64 n) ∧ ∃ (t : TypeId), ∃ (s : Nat), ∃ (cs : List AV), H'[k_1]? = some (AObj.row t s cs) ∧ chkW (decide (o + 2 + 1 ≤ List.length cs)) (∃ (k_2 : Nat), ∃ (o_1 : Nat), (Option.bind (cellsAt (List.set H' k_1 (AObj.row t s (spliceA cs (o + 2) (AV.cells (AV.int .i64 n))))) k) fun (x : List AV) => partR none x 0) = some (AV.ptr (some (k_2, o_1))) ∧ R (AV.ptr (some (k_2, o_1))) (List.set H' k_1 (AObj.row t s (spliceA cs (o + 2) (AV.cells (AV.int .i64 n)))))))))) = (wpF Try.prog (C23c X Y) 60 p23 [.ptr (some (t, 0))] h R) := by kernel_rfl
theorem clone_as (h : AHeap) (t k c : Nat) (i : Nat) (z : Int) (b : Nat) (K : AExit → St → Prop) : (K AExit.normal (envOf 25 [(0, AV.ptr (some (t, 0))), (3, AV.ptr (some (k, 0))), (4, AV.int .i64 (↑i : Int)), (5, AV.int .i64 z), (9, AV.ptr (some (t, 0))), (10, AV.fn 30 [] [AV.ptr (some (c, 0))]), (11, AV.int .i64 (↑i : Int)), (12, AV.int .i64 z)], h)) = (wpP Try.prog (R23 b) 60 (.inl as23) (roundEnv 11 12 (r23 t k c) i z, h) K) := by kernel_rfl
theorem clone_body (h : AHeap) (t k c : Nat) (i z : Int) (b : Nat) (K : AExit → St → Prop) : (∃ (k_1 : Nat), ∃ (o : Nat), (Option.bind (cellsAt h k) fun (x : List AV) => partR none x 0) = some (AV.ptr (some (k_1, o))) ∧ ComesTo Try.prog 9 VI P9 ([] ++ List.reverse [AV.int .i64 z, AV.int .i64 i, AV.ptr (some (k_1, o))] ++ []) h ∧ ∀ (a : Int) (h' : AHeap), P9 [AV.ptr (some (k_1, o)), AV.int .i64 i, AV.int .i64 z] h a h' → K AExit.normal (envOf 25 [(0, AV.ptr (some (t, 0))), (3, AV.ptr (some (k, 0))), (4, AV.int .i64 i), (5, AV.int .i64 z), (9, AV.ptr (some (t, 0))), (10, AV.fn 30 [] [AV.ptr (some (c, 0))]), (11, AV.int .i64 i), (12, AV.int .i64 z), (13, AV.ptr (some (k_1, o))), (14, AV.int .i64 i), (15, AV.int .i64 z), (16, AV.int .i64 a)], h')) = (wpP Try.prog (R23 b) 60 (.inl body23) (q23 t k c i z, h) K) := by kernel_rfl
theorem tr_grow {h h' : AHeap} {L : Rws} (hM : Maps h L) (hg : Grow h h') : Tr h h' L L := ⟨hM, hM.grow hg, fun _ h => .inl h, fun j o ho _ => hg j o ho, hg.len⟩
theorem tr_fresh {h h' : AHeap} {L M : Rws} (ht : Tr h h' L M) {c : Nat} {o : AObj} (hc : h.length ≤ c) (ho : h'[c]? = some o) (hn : c ∉ keys M) : Tr h h' L ((c, o) :: M) := by
  refine ⟨ht.a, ⟨?_, fun k x hx => ?_⟩, fun j hj => ?_, ht.d, ht.e⟩
  · rw [keys_cons, List.nodup_cons]; exact ⟨hn, ht.b.nd⟩
  · rcases List.mem_cons.1 hx with e | hx
    · cases e; exact ho
    · exact ht.b.row k x hx
  · rw [keys_cons, List.mem_cons] at hj
    rcases hj with rfl | hj
    · exact .inr hc
    · exact ht.c j hj
/-- All makes a cell and a slice of its own. -/
theorem all_tr {h h' : AHeap} {L : Rws} {p : AV} {zs : List Int} {c : Nat} (hM : Maps h L) (hT : TreeIds h p zs) (hp : P15 [p] h c h') : ∃ lc, wForm lc zs ∧ Tr h h' L (L ++ wRows c lc zs) := by
  obtain ⟨⟨lc, h1, h3, _⟩, hg, hc, hfr⟩ := hp _ _ rfl hT
  have T0 := tr_grow hM hg
  have nk : ∀ j, h.length ≤ j → j ∉ keys L := fun j hj hk => by have := hM.lt hk; omega
  have T1 := tr_fresh T0 hc h1 (nk c hc)
  rcases h3 with ⟨rfl, hz⟩ | ⟨k, rfl, hk⟩
  · exact ⟨_, .inl ⟨rfl, hz⟩, T1.perm (.refl _) (perm_of fun a => by simp only [wRows, cnt_cons, cnt_append, cnt_nil]; omega)⟩
  · have hkc := hfr _ k h1 ⟨_, _, rfl⟩
    have hne : k ≠ c := fun e => by subst e; rw [hk] at h1; cases h1
    have T2 := tr_fresh T1 hkc hk (by rw [keys_cons, List.mem_cons, not_or]; exact ⟨hne, nk k hkc⟩)
    exact ⟨_, .inr ⟨k, rfl⟩, T2.perm (.refl _) (perm_of fun a => by simp only [wRows, cnt_cons, cnt_append, cnt_nil]; omega)⟩
/-- All rows, while it is gone through. -/
def rows23 (t m : Nat) (lk : Int) (T : TT) (qs : List (Nat × Int)) (o m2 : Nat) (lk2 : Int) (T2 : TT) (qs2 : List (Nat × Int)) (k c : Nat) (lc : AV) : Rws :=
  rA t m lk T qs ++ (rA o m2 lk2 T2 qs2 ++ ((k, AObj.row 23 1 [.ptr (some (o, 0))]) :: wRows c lc T.ids))
def X23 (h0 : AHeap) (t0 m : Nat) (lk : Int) (T : TT) (qs : List (Nat × Int)) (H : AHeap) (t k c : Nat) : Prop := t = t0 ∧ ∃ o m2 lc, wForm lc T.ids ∧ Tr h0 H (rA t0 m lk T qs) (rows23 t0 m lk T qs o m2 0 .nil [] k c lc)
def Y23 (h0 : AHeap) (t0 m : Nat) (lk : Int) (T : TT) (qs : List (Nat × Int)) (H : AHeap) (t k c : Nat) : Prop := t = t0 ∧ ∃ o m2 lk2 T2 qs2 lc, Good T2 qs2 ∧ T2.ids = T.ids ∧ Tr h0 H (rA t0 m lk T qs) (rows23 t0 m lk T qs o m2 lk2 T2 qs2 k c lc)
theorem good_nil : Good .nil [] := ⟨List.Perm.refl _, List.nodup_nil, (fun z hz => by cases hz), by simp [TT.n]⟩
theorem rf23 {h0 : AHeap} {t0 m : Nat} {lk : Int} {T : TT} {qs : List (Nat × Int)} (g : Good T qs) {st : St} {K : AExit → St → Prop} {b : Nat} (ht : U23 (X23 h0 t0 m lk T qs) (Y23 h0 t0 m lk T qs) st K) : W Try.prog (SU tqC tgC []) b (.inl (.rf (.tmp 10) [11, 12] as23 body23)) st K := by
  obtain ⟨H, t, k, c, rfl, ⟨rfl, o, m2, lc, hf, hT0⟩, hk⟩ := ht
  have gn := g.n
  have hM := hT0.b
  have hlen := TT.n_ids T
  have wr : ∀ {lk2 T2 qs2} {H'}, Maps H' (rows23 t m lk T qs o m2 lk2 T2 qs2 k c lc) → SlI H' lc T.ids ∧ H'[c]? = some (.row 39 1 [lc]) ∧ H'[k]? = some (AObj.row 23 1 [.ptr (some (o, 0))]) := fun {lk2 T2 qs2 H'} hM' => by
    have h1 := hM'.right.right
    refine ⟨wRows_sl (w := c) (A := [(k, AObj.row 23 1 [.ptr (some (o, 0))])]) (B := []) hf (by rw [List.append_nil]; exact h1), h1.row c _ (List.mem_cons_of_mem _ List.mem_cons_self), h1.row k _ List.mem_cons_self⟩
  obtain ⟨hs, hc, _⟩ := wr hM
  refine W_rf mixed (SU_ok tabsCl) rfl (gf := 30) rfl rfl (b := c) (o := 0) (sl := lc) (cb := [lc]) (by simp only [cellsAt, hc, Option.bind_some, objCells]) rfl (zs := T.ids) hs.src (by omega)
    (fun i H' => ∃ lk2 T2 qs2, Good T2 qs2 ∧ T2.ids = T.ids.take i ∧ Tr h0 H' (rA t m lk T qs) (rows23 t m lk T qs o m2 lk2 T2 qs2 k c lc)) ⟨0, .nil, [], good_nil, by simp [TT.ids], hT0⟩ ?_ ?_ ?_
  · rintro i H' ⟨lk2, T2, qs2, g2, e2, hT'⟩
    obtain ⟨hs', hc', _⟩ := wr hT'.b
    refine ⟨by simp only [cellsAt, hc', Option.bind_some, objCells], fun k q n cp e => ?_⟩
    rcases hs with ⟨rfl, _⟩ | ⟨k1, rfl, h1⟩
    · cases e
    · rcases hs' with ⟨e2, _⟩ | ⟨k2, e2, h2⟩
      · cases e2
      · cases e; cases e2
        simp only [cellsAt, h1, h2]
  · rintro i z H' ⟨lk2, T2, qs2, g2, e2, hT'⟩ hz
    have hil := (List.getElem?_eq_some_iff.1 hz).1
    obtain ⟨_, _, hkr⟩ := wr hT'.b
    refine (wpP_ok (C := R23 H.length) (by intro f T vs hp K hg hT; exact tbWG_ok (Q := Q) tabsCl.qq tabsCl.t f T vs hp K hg hT) 60).1 as23 _ _ (no_parts rfl) ?_
    rw [← clone_as]
    refine ⟨rfl, ?_⟩
    refine (wpP_ok (C := R23 H.length) (by intro f T vs hp K hg hT; exact tbWG_ok (Q := Q) tabsCl.qq tabsCl.t f T vs hp K hg hT) 60).1 body23 _ _ (no_parts rfl) ?_
    refine (clone_body H' t k c (i : Int) z H.length _).mp ?_
    have hMo : Maps H' (rA o m2 lk2 T2 qs2 ++ (rA t m lk T qs ++ ((k, AObj.row 23 1 [.ptr (some (o, 0))]) :: wRows c lc T.ids))) := hT'.b.perm (perm_of fun a => by simp only [rows23, cnt_cons, cnt_append, cnt_nil]; omega)
    refine ⟨o, 0, fld hkr rfl, ins_can g2 hMo.left, fun a h' hp => ?_⟩
    obtain ⟨ha, T3, lk3, qs3, g3, e3, _, Tr3⟩ := hp o T2 m2 lk2 qs2 i z rfl g2 hMo.left
    have hzm : z ∈ T.ids := List.mem_of_getElem? hz
    have hr := g.rg z hzm
    have hzn : z ∉ T.ids.take i := fun hm => by
      have hnd := g.nd
      have ed : T.ids = T.ids.take i ++ T.ids.drop i := (List.take_append_drop _ _).symm
      rw [ed, List.nodup_append] at hnd
      refine hnd.2.2 z hm z ?_ rfl
      rw [List.drop_eq_getElem_cons hil]
      have : T.ids[i] = z := (List.getElem?_eq_some_iff.1 hz).2
      rw [this]; exact List.mem_cons_self
    have hl2 : (T.ids.take i).length = i := by rw [List.length_take]; omega
    have eI : insR T2.ids (i : Int) z = (0, T.ids.take (i + 1)) := by
      rw [e2]
      unfold insR
      rw [if_neg (by omega), if_neg hzn, if_neg (by omega), if_neg (by omega), List.take_add_one, hz]
      simp only [Int.toNat_natCast, Prod.mk.injEq, true_and, Option.toList_some]
      rw [List.take_of_length_le (by omega), List.drop_eq_nil_of_le (by omega)]
    rw [eI] at e3
    refine ⟨lk3, T3, qs3, g3, e3, hT'.trans (Tr.use (rA t m lk T qs ++ ((k, AObj.row 23 1 [.ptr (some (o, 0))]) :: wRows c lc T.ids)) Tr3 hT'.b (perm_of fun a => by simp only [rows23, cnt_cons, cnt_append, cnt_nil]; omega) (perm_of fun a => by simp only [rows23, cnt_cons, cnt_append, cnt_nil]; omega))⟩
  · rintro H' ⟨lk2, T2, qs2, g2, e2, hT'⟩
    rw [List.take_length] at e2
    exact hk H' ⟨rfl, o, m2, lk2, T2, qs2, lc, g2, e2, hT'⟩
def VC23 (a : Nat) : AV := .ptr (some (a, 0))
def P23 (vs : List AV) (h : AHeap) (a : Nat) (h' : AHeap) : Prop := ∀ t T m lk qs, vs = [.ptr (some (t, 0))] → Good T qs → Maps h (rA t m lk T qs) → ∃ m2 T2 qs2, Good T2 qs2 ∧ T2.ids = T.ids ∧ Tr h h' (rA t m lk T qs) (rA t m lk T qs ++ rA a m2 lk T2 qs2)
theorem clone_can {h : AHeap} {t m : Nat} {lk : Int} {T : TT} {qs : List (Nat × Int)} (g : Good T qs) (hM : Maps h (rA t m lk T qs)) : ComesTo Try.prog 23 VC23 P23 [.ptr (some (t, 0))] h := by
  suffices hs : ∃ v h', (∃ a : Nat, v = VC23 a ∧ ∃ m2 T2 qs2, Good T2 qs2 ∧ T2.ids = T.ids ∧ Tr h h' (rA t m lk T qs) (rA t m lk T qs ++ rA a m2 lk T2 qs2)) ∧ CallSem Try.prog 23 [.ptr (some (t, 0))] h v h' by
    obtain ⟨v, h', ⟨a, rfl, ht⟩, hs⟩ := hs
    refine ⟨a, h', fun t' T' m' lk' qs' e g' hM' => ?_, hs⟩
    simp only [List.cons.injEq, AV.ptr.injEq, Option.some.injEq, Prod.mk.injEq, and_true] at e
    subst e
    obtain ⟨rfl, rfl, rfl, rfl⟩ := rA_one hM hM'
    exact ht
  refine sem_vc mixed (C := C23c (X23 h t m lk T qs) (Y23 h t m lk T qs)) (SU_ok tabsCl) (CU_q (ks := [])) (by intro f T vs hp K hg hT; exact tbWG_ok (Q := Q) tabsCl.qq tabsCl.t f T vs hp K hg hT) ht23 c23 ?_ (clone_vc h t _ _ _) ?_
  · refine one_part parts23 ?_
    intro T' st K hT ht
    simp only [C23c, List.headD_cons, if_true, Option.some.injEq] at hT
    subst hT
    exact rf23 g ht
  · simp only [repl1, repl2, repl3, List.append_assoc, List.cons_append, List.nil_append, List.append_nil, len_b1, Nat.add_zero, hs0, hs1, hs2, hs3, hg0, hg1, hg2, hg3, ho0, ho1, ho2, ho3, chkW_true, bs1, ints_app, ints_one, ints_len]
    refine ⟨false, rA_none hM, rfl, 23, 1, [.ptr none], rfl, chkI rfl ?_⟩
    have N1 := new_tr hM (AObj.row 23 1 [.ptr (some (h.length + 2, 0))])
    have N2 := new_tr N1.b (AObj.map [])
    rw [len_b1, List.append_assoc] at N2
    have N3 := new_tr N2.b (trow none (h.length + 1) 0)
    rw [List.length_append, List.append_assoc, show ([AObj.row 23 1 [AV.ptr (some (List.length h + 2, 0))]] ++ [AObj.map []]).length = 2 from rfl] at N3
    have N := (N1.trans N2).trans N3
    have eH : h ++ ([AObj.row 23 1 [.ptr (some (h.length + 2, 0))], AObj.map []] ++ [trow none (h.length + 1) 0]) = h ++ [AObj.row 23 1 (spliceA [AV.ptr none] 0 (AV.ptr (some (List.length h + 1 + 1, 0))).cells), AObj.map [], AObj.row 58 3 [AV.ptr none, AV.map (some (List.length h + 1)), AV.int IntKind.i64 0]] := rfl
    rw [show h ++ ([AObj.row 23 1 [.ptr (some (h.length + 2, 0))]] ++ [AObj.map []] ++ [trow none (h.length + 1) 0]) = h ++ ([AObj.row 23 1 [.ptr (some (h.length + 2, 0))], AObj.map []] ++ [trow none (h.length + 1) 0]) from rfl, eH] at N
    generalize h ++ [AObj.row 23 1 (spliceA [AV.ptr none] 0 (AV.ptr (some (List.length h + 1 + 1, 0))).cells), AObj.map [], AObj.row 58 3 [AV.ptr none, AV.map (some (List.length h + 1)), AV.int IntKind.i64 0]] = h1 at N
    have hM1 : Maps h1 (rA t m lk T qs ++ (rA (h.length + 2) (h.length + 1) 0 .nil [] ++ [(h.length, AObj.row 23 1 [.ptr (some (h.length + 2, 0))])])) := N.b.perm (perm_of fun a => by simp only [show rA (h.length + 2) (h.length + 1) 0 .nil [] = [(h.length + 2, trow none (h.length + 1) 0), (h.length + 1, AObj.map [])] from rfl, cnt_cons, cnt_append, cnt_nil, List.length_cons, List.length_nil]; omega)
    have hids := ids_at g hM1.left
    refine ⟨all_can hids, fun c h2 hp => ?_⟩
    obtain ⟨lc, hf, TA⟩ := all_tr hM1 hids hp
    have T0 : Tr h h2 (rA t m lk T qs) (rows23 t m lk T qs (h.length + 2) (h.length + 1) 0 .nil [] h.length c lc) := (N.perm (.refl _) (M' := rA t m lk T qs ++ (rA (h.length + 2) (h.length + 1) 0 .nil [] ++ [(h.length, AObj.row 23 1 [.ptr (some (h.length + 2, 0))])])) (perm_of fun a => by simp only [show rA (h.length + 2) (h.length + 1) 0 .nil [] = [(h.length + 2, trow none (h.length + 1) 0), (h.length + 1, AObj.map [])] from rfl, cnt_cons, cnt_append, cnt_nil, List.length_cons, List.length_nil]; omega)).trans (TA.perm (.refl _) (perm_of fun a => by simp only [rows23, cnt_cons, cnt_append, cnt_nil]; omega))
    refine ⟨h2, t, h.length, c, rfl, ⟨rfl, _, _, lc, hf, T0⟩, fun H' hY => ?_⟩
    obtain ⟨-, o, m2, lk2, T2, qs2, lc2, g2, e2, TY⟩ := hY
    have hkr := TY.b.right.right.row h.length _ List.mem_cons_self
    have htr := rA_t TY.b.left
    have M0 : Maps H' (rC o m2 lk2 T2.pt [] ++ ((rT none T2 ++ [(m2, AObj.map (qs2.map ent))]) ++ (rA t m lk T qs ++ ((h.length, AObj.row 23 1 [.ptr (some (o, 0))]) :: wRows c lc2 T.ids)))) := TY.b.perm (perm_of fun a => by simp only [rows23, rA, rW, cnt_cons, cnt_append, cnt_nil]; omega)
    obtain ⟨p0, ho, hl⟩ := look_tr M0
    have TL := hl lk
    have hk2 := TL.b.row h.length _ (List.mem_append_right _ (List.mem_append_right _ (List.mem_append_right _ List.mem_cons_self)))
    refine ⟨o, 0, fld hkr rfl, lk, fld htr rfl, 58, 3, _, ho, chkI rfl ⟨o, 0, fld hk2 rfl, o, rfl, m2, T2, qs2, g2, e2, ?_⟩⟩
    exact ((TY.trans (TL.perm (M := rows23 t m lk T qs o m2 lk2 T2 qs2 h.length c lc2) (M' := ((h.length, AObj.row 23 1 [.ptr (some (o, 0))]) :: wRows c lc2 T.ids) ++ (rA t m lk T qs ++ rA o m2 lk T2 qs2)) (perm_of fun a => by simp only [rows23, rA, rW, cnt_cons, cnt_append, cnt_nil]; omega) (perm_of fun a => by simp only [rows23, rA, rW, cnt_cons, cnt_append, cnt_nil]; omega))).drop)

end Go.Proofs.Ytncmgbbbekabdaa
