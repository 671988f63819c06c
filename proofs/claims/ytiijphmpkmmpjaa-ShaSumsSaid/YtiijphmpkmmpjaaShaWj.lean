/- The law ShaSums as a run. -/
import Derived.Test.YtiijphmpkmmpjaaShaWn
namespace Go.Proofs.Ytiijphmpkmmpjaa
open Go Go.Am
set_option maxRecDepth 100000
set_option linter.unusedVariables false
set_option linter.unusedSimpArgs false

noncomputable def g13 (args : List AV) (hp : List AObj) : Option AV := match limG Try.prog SB3 F13 p13 args hp with
  | some r => if r.1.closed then some r.1 else none
  | none => none
noncomputable def ref13S (args : List AV) (h : AHeap) : Option AV := (impArgs h 0 args).bind fun r => g13 r.1 r.2
noncomputable def q6 (g : FuncId) : Option (List AV → AHeap → Option AV) := match g with
  | 9 => some fun args _ => begunS args
  | 10 => some fun args _ => blockS args
  | 11 => some fun args _ => blockS args
  | 13 => some ref13S
  | 33 => some fun args _ => firstS args
  | 34 => some fun args _ => firstS args
  | _ => none
noncomputable def SB4 : Specs := mkS Q q6 (fun g => match g with
  | 12 => some (limG Try.prog SB2 F12 p12)
  | _ => none)
def p4a : PC := match p4.body with | .seq a _ => a | c => c
def p4b : PC := match p4.body with | .seq _ (.seq b _) => b | c => c
def p4c : PC := match p4.body with | .seq _ (.seq _ c) => c | c => c
def F4 (id : Nat) : Tidy := if id = 2 then ⟨keepT 17 [0], .all⟩ else ⟨[], .all⟩
def mI (len : Nat) : Int := if 65536 < (len : Int) then 65536 else (len : Int)
def E32w (f g : Nat → Int) : Bool := (List.range 32).foldr (fun i b => f i == g i && b) true
def st4 (v : AV) (h : AHeap) : St := ([v, .any, .any, .any, .any, .any, .any, .any, .any, .any, .any, .any, .any, .any, .any, .any, .any], h)
theorem law4a (cs : List AV) (len cap : Nat) : (evVg Try.prog SB4 (sy0 [0]) noCV 1 F4 60 (.inl (PC.seq p4a p4b)) (st4 (.sl (some (0, 0)) len (.fix cap)) [.ro cs]) []).map (fun r => (r.1.1, tidy 1 (F4 2) r.1.2, r.2.2)) = some (.normal, st4 (.sl (some (0, 0)) (mI len).toNat (.fix cap)) [.ro cs], [decide (0 ≤ mI len), decide (mI len ≤ (len : Int)), true]) := by kernel_rfl
theorem law4b (cs : List AV) (len cap m : Nat) (f g : Nat → Int) (h3 : AHeap) : (evVg Try.prog SB4 (sy0 [0]) (cvE [(12, ([.sl (some (1, 0)) 1 (.rel 0)], [.ro cs, .row 23 1 [.sl (some (0, 0)) m (.fix cap)]]), (.agg (ints .u8 32 f), .ro cs :: h3)), (13, ([.sl (some (0, 0)) m (.fix cap)], .ro cs :: h3), (.agg (ints .u8 32 g), .ro cs :: h3))]) 1 F4 60 (.inl p4c) (st4 (.sl (some (0, 0)) m (.fix cap)) [.ro cs]) [.lit, .is true]).map (fun r => (r.1.1, ((p4.results.mapM (resultA Try.prog r.1.2)).map fun vs => match vs with | [v] => v | vs => .tup vs), r.2.2)) = some (.ret, some (.bool true), [sameH ([.sl (some (1, 0)) 1 (.rel 0)], [.ro cs, .row 23 1 [.sl (some (0, 0)) m (.fix cap)]]) ([.sl (some (1, 0)) 1 (.rel 0)], [.ro cs, .row 23 1 [.sl (some (0, 0)) m (.fix cap)]]), sameH ([.sl (some (0, 0)) m (.fix cap)], .ro cs :: h3) ([.sl (some (0, 0)) m (.fix cap)], .ro cs :: h3), E32w f g == true]) := by kernel_rfl
theorem E32w_ok {f g : Nat → Int} (h : ∀ j, j < 32 → f j = g j) : E32w f g = true := by
  unfold E32w
  have key : ∀ l : List Nat, (∀ j ∈ l, j < 32) → l.foldr (fun i b => f i == g i && b) true = true := fun l => by
    induction l with
    | nil => exact fun _ => rfl
    | cons x l ih =>
      intro hl
      simp only [List.foldr_cons, h x (hl x (by simp)), BEq.rfl, Bool.true_and]
      exact ih fun j hj => hl j (by simp [hj])
  exact key _ fun j hj => List.mem_range.1 hj
theorem out_same (s : Nat → Int) (j : Nat) : outB s j = outR s j := by
  unfold outB outR
  split
  · rename_i h
    rw [h]
    simp
  · rfl
theorem limG_get {P : Program} {S : Specs} {F : Nat → Tidy} {pf : PF} {args : List AV} {h : AHeap} {r : AV × AHeap} (hv : limG P S F pf args h = some r) : ∃ n, runG P S F n pf args h = some r := by
  unfold limG at hv
  split at hv
  · rename_i hx
    obtain ⟨n, hn⟩ := Classical.choose_spec hx
    simp only [Option.some.injEq] at hv
    rw [hv] at hn
    exact ⟨n, hn⟩
  · cases hv
theorem ref13_ok : QuietOK Try.prog 13 ref13S := quiet_of_bodyg mixed SB3_ok ht13 (g := g13) fun args hp v h => by
  unfold g13 at h
  split at h
  · rename_i r hr
    split at h
    · rename_i hc
      cases h
      obtain ⟨n, hn⟩ := limG_get hr
      exact ⟨hc, _, _, _, runG_sound SB3_q c13 hn⟩
    · cases h
  · cases h
theorem q6_ok (g : FuncId) (s : List AV → AHeap → Option AV) (_ : Q g = true) (h : q6 g = some s) : QuietOK Try.prog g s := by
  unfold q6 at h
  split at h
  · cases h; exact begun_okS
  · cases h; exact block_ok
  · cases h; exact rblock_ok
  · cases h; exact ref13_ok
  · cases h; exact first33_ok
  · cases h; exact first34_ok
  · cases h
theorem SB4_ok : SB4.OK Try.prog := mkS_ok quietText q6_ok (fun g s h => by
  split at h
  · cases h; exact limG_ok mixed SB2_ok SB2_q ht12 c12 _
  · cases h)
theorem SB4_q : ∀ g, (SB4.q g).isSome = Q g := fun g => mkS_isSome g
theorem S4_12 (vs : List AV) (h : AHeap) : (match SB4.q 12 with | some sp => (sp vs h).map (·, h) | none => (SB4.f 12).bind fun sp => sp vs h) = limG Try.prog SB2 F12 p12 vs h := rfl
theorem S4_13 (vs : List AV) (h : AHeap) : (match SB4.q 13 with | some sp => (sp vs h).map (·, h) | none => (SB4.f 13).bind fun sp => sp vs h) = (ref13S vs h).map (·, h) := rfl
/-- The document's sum of nothing. -/
theorem ref13_zero (c : Nat) : (runG Try.prog SB3 F13 400 p13 [.sl (some (0, 0)) 0 (.fix c)] [.ro []]).map (·.1) = some (.agg (ints .u8 32 (outR (BL firstI (padL 0))))) := by kernel_rfl
theorem ref13_nil : (runG Try.prog SB3 F13 400 p13 [.sl none 0 (.fix 0)] []).map (·.1) = some (.agg (ints .u8 32 (outR (BL firstI (padL 0))))) := by kernel_rfl
theorem ints_closed {k : IntKind} {l : List AV} (h : l.all (isInt k) = true) : l.all AV.closed = true := by
  rw [List.all_eq_true] at h ⊢
  intro v hv
  have := h v hv
  cases v <;> first | (simp [AV.closed, AV.refs]; done) | cases this
theorem agg_closed {k : IntKind} {n : Nat} {g : Nat → Int} : (AV.agg (ints k n g)).closed = true := by
  have h := ints_isInts k n g
  simp only [isInts, Bool.and_eq_true] at h
  have := ints_closed h.2
  simp only [AV.closed, AV.refs, refsL_eq]
  exact this
theorem fresh13 {args args' : List AV} {h : AHeap} {hp : List AObj} {g : Nat → Int} (hi : impArgs h 0 args = some (args', hp)) (hr : ∃ N h', runG Try.prog SB3 F13 N p13 args' hp = some (.agg (ints .u8 32 g), h')) : (ref13S args h).map (·, h) = some (.agg (ints .u8 32 g), h) := by
  obtain ⟨N, h', hr⟩ := hr
  unfold ref13S
  rw [hi]
  simp only [Option.bind_some, g13, limG_of hr, agg_closed, if_true, Option.map_some]
theorem pad0 : (padL 0).length = 64 := by rw [(padL_ok 0).1]; rfl
theorem absorb0 : (absorb firstI (padL 0)).1 = BL firstI (padL 0) := by
  have := pad0
  rw [absorb_more (by omega), absorb_end (by simp; omega), List.take_of_length_le (by omega)]
theorem sum13_some (cs : List AV) (hcs : cs.all (isInt .u8) = true) (m cap : Nat) (h1 : m ≤ cs.length) (h3 : m ≤ 65536) (h : AHeap) :
    (ref13S [.sl (some (0, 0)) m (.fix cap)] (.ro cs :: h)).map (·, (.ro cs :: h : AHeap)) = some (.agg (ints .u8 32 (outR (absorb firstI (cs.take m ++ padL (m : Int))).1)), .ro cs :: h) := by
  have hb : (cs.take m).all (isInt .u8) = true := all_sub hcs fun v hv => List.mem_of_mem_take hv
  have hl : (cs.take m).length = m := by simp; omega
  have hi : impArgs (.ro cs :: h) 0 [.sl (some (0, 0)) m (.fix cap)] = some ([.sl (some (0, 0)) m (.fix cap)], [.ro (cs.take m)]) := by
    have hc : cellsAt (.ro cs :: h) 0 = some cs := rfl
    simp only [impArgs, impA, hc, Option.bind_some, List.drop_zero, Nat.zero_add, h1, ints_closed hb, and_self, if_true, Option.map_some, List.append_nil]
  rcases Nat.eq_zero_or_pos m with rfl | hp
  · refine fresh13 hi ?_
    have h := ref13_zero cap
    simp only [Option.map_eq_some_iff] at h
    obtain ⟨⟨v, h'⟩, h1, h2⟩ := h
    simp only at h2
    subst h2
    refine ⟨400, h', ?_⟩
    rw [List.take_zero, List.nil_append]
    rw [show ((0 : Nat) : Int) = 0 from rfl, absorb0]
    exact h1
  · obtain ⟨N, h', hr⟩ := ref13_run (cs.take m) hb cap (by omega) (by omega)
    rw [hl] at hr
    exact fresh13 hi ⟨N, h', hr⟩
theorem sums_some (cs : List AV) (hcs : cs.all (isInt .u8) = true) (len cap : Nat) (h1 : len ≤ cap) (h2 : cap ≤ cs.length) :
    ∃ N h, runG Try.prog SB4 F4 N p4 [.sl (some (0, 0)) len (.fix cap)] [.ro cs] = some (.bool true, h) := by
  have hm : mI len = ((min len 65536 : Nat) : Int) := by unfold mI; split <;> omega
  have ha := law4a cs len cap
  simp only [Option.map_eq_some_iff] at ha
  obtain ⟨⟨⟨e, st'⟩, hs', cl⟩, a1, a2⟩ := ha
  simp only [Prod.mk.injEq] at a2
  obtain ⟨rfl, a3, rfl⟩ := a2
  have hev := evVg_ok _ _ _ _ (noCV_ok _) _ _ a1 (by rw [hm]; simp; omega)
  rw [hm, Int.toNat_natCast] at a3
  obtain ⟨m, hmd⟩ : ∃ m, m = min len 65536 := ⟨_, rfl⟩
  rw [← hmd] at a3
  obtain ⟨h3, h12⟩ := sum12_run cs hcs m cap (by omega) (by omega) (by omega)
  have h13 := sum13_some cs hcs m cap (by omega) (by omega) h3
  have hb := law4b cs len cap m (outB (absorb firstI (cs.take m ++ padL (m : Int))).1) (outR (absorb firstI (cs.take m ++ padL (m : Int))).1) h3
  simp only [Option.map_eq_some_iff] at hb
  obtain ⟨⟨⟨e, st2⟩, hs2, cl2⟩, b1, b2⟩ := hb
  simp only [Prod.mk.injEq] at b2
  obtain ⟨rfl, b3, rfl⟩ := b2
  have hev2 := evVg_ok _ _ _ _ (cvE_ok (S := SB4) (fun e he => by
      rcases pair_mem he with rfl | rfl
      · exact (S4_12 _ _).trans h12
      · exact (S4_13 _ _).trans h13)) _ _ b1 (by
    have he := E32w_ok (f := outB (absorb firstI (cs.take m ++ padL (m : Int))).1) (g := outR (absorb firstI (cs.take m ++ padL (m : Int))).1) fun j _ => out_same _ j
    simp only [sameH_self, he, BEq.rfl, List.all_cons, List.all_nil, id, Bool.and_self])
  have hid : tidy 1 (F4 2) (st4 (.sl (some (0, 0)) m (.fix cap)) [.ro cs]) = st4 (.sl (some (0, 0)) m (.fix cap)) [.ro cs] := by kernel_rfl
  have hc := (ev_tidy (P := Try.prog) (S := SB4) (F := F4) (b0 := 1) (id := 2) 60 (pc := p4c) (st := st') rfl (a3.trans hid.symm)).trans hev2
  rcases seq_invg (n := 59) hev with ⟨st0, q1, q2⟩ | ⟨_, q2⟩
  · have hk : evG Try.prog SB4 1 F4 62 (.inl p4.body) (st4 (.sl (some (0, 0)) len (.fix cap)) [.ro cs]) = some (.ret, st2) :=
      seq_rung (n := 61) (a := p4a) (evG_le q1 (by omega)) (seq_rung (n := 60) (a := p4b) (b := p4c) (evG_le q2 (by omega)) hc)
    exact ⟨62, _, runG_ret hk b3⟩
  · exact absurd rfl q2
noncomputable def SN1 : Specs := mkS Q q5 (fun g => match g with
  | 15 => some (freshS (padF F15 p15))
  | 17 => some (runG Try.prog SBq FNo 40 p17)
  | 35 => some (runG Try.prog SBq FNo 40 p35)
  | 36 => some (runG Try.prog SBq FNo 100 p36)
  | _ => none)
theorem SN1_ok : SN1.OK Try.prog := mkS_ok quietText q5_ok (fun g s h => by
  split at h
  · cases h; exact pad15_full
  · cases h; exact nest_ok SBq_ok SBq_q ht17 c17 _ _
  · cases h; exact nest_ok SBq_ok SBq_q ht35 c35 _ _
  · cases h; exact nest_ok SBq_ok SBq_q ht36 c36 _ _
  · cases h)
theorem SN1_q : ∀ g, (SN1.q g).isSome = Q g := fun g => mkS_isSome g
noncomputable def SN2 : Specs := mkS Q q5 (fun g => match g with
  | 17 => some (runG Try.prog SBq FNo 40 p17)
  | 18 => some (runG Try.prog SN1 FNo 100 p18)
  | 20 => some (runG Try.prog SN1 FNo 100 p20)
  | _ => none)
theorem SN2_ok : SN2.OK Try.prog := mkS_ok quietText q5_ok (fun g s h => by
  split at h
  · cases h; exact nest_ok SBq_ok SBq_q ht17 c17 _ _
  · cases h; exact nest_ok SN1_ok SN1_q ht18 c18 _ _
  · cases h; exact nest_ok SN1_ok SN1_q ht20 c20 _ _
  · cases h)
theorem SN2_q : ∀ g, (SN2.q g).isSome = Q g := fun g => mkS_isSome g
noncomputable def SN4 : Specs := mkS Q q6 (fun g => match g with
  | 12 => some (runG Try.prog SN2 FNo 100 p12)
  | _ => none)
theorem SN4_ok : SN4.OK Try.prog := mkS_ok quietText q6_ok (fun g s h => by
  split at h
  · cases h; exact nest_ok SN2_ok SN2_q ht12 c12 _ _
  · cases h)
theorem SN4_q : ∀ g, (SN4.q g).isSome = Q g := fun g => mkS_isSome g
theorem sum12_nil : (runG Try.prog SN2 FNo 100 p12 [.sl (some (1, 0)) 1 (.rel 0)] [.dead, .row 23 1 [.sl none 0 (.fix 0)]]).map (·.1) = some (.agg (ints .u8 32 (outB (BL firstI (padL 0))))) := by kernel_rfl
theorem law4n (f g : Nat → Int) (h3 : AHeap) : (evVg Try.prog SN4 (fun _ => none) (cvE [(12, ([.sl (some (1, 0)) 1 (.rel 0)], [.dead, .row 23 1 [.sl none 0 (.fix 0)]]), (.agg (ints .u8 32 f), h3)), (13, ([.sl none 0 (.fix 0)], h3), (.agg (ints .u8 32 g), h3))]) 1 F4 60 (.inl p4.body) (st4 (.sl none 0 (.fix 0)) [.dead]) [.lit, .is true]).map (fun r => (r.1.1, ((p4.results.mapM (resultA Try.prog r.1.2)).map fun vs => match vs with | [v] => v | vs => .tup vs), r.2.2)) = some (.ret, some (.bool true), [sameH ([.sl (some (1, 0)) 1 (.rel 0)], [.dead, .row 23 1 [.sl none 0 (.fix 0)]]) ([.sl (some (1, 0)) 1 (.rel 0)], [.dead, .row 23 1 [.sl none 0 (.fix 0)]]), sameH ([.sl none 0 (.fix 0)], h3) ([.sl none 0 (.fix 0)], h3), E32w f g == true]) := by kernel_rfl
theorem N4_12 (vs : List AV) (h : AHeap) : (match SN4.q 12 with | some sp => (sp vs h).map (·, h) | none => (SN4.f 12).bind fun sp => sp vs h) = runG Try.prog SN2 FNo 100 p12 vs h := rfl
theorem N4_13 (vs : List AV) (h : AHeap) : (match SN4.q 13 with | some sp => (sp vs h).map (·, h) | none => (SN4.f 13).bind fun sp => sp vs h) = (ref13S vs h).map (·, h) := rfl
theorem sums_nil : ∃ N h, runG Try.prog SN4 F4 N p4 [.sl none 0 (.fix 0)] [.dead] = some (.bool true, h) := by
  have h12 := sum12_nil
  simp only [Option.map_eq_some_iff] at h12
  obtain ⟨⟨v, h3⟩, h12, e⟩ := h12
  simp only at e
  subst e
  have h13 : (ref13S [.sl none 0 (.fix 0)] h3).map (·, h3) = some (.agg (ints .u8 32 (outR (BL firstI (padL 0)))), h3) := by
    have hr := ref13_nil
    simp only [Option.map_eq_some_iff] at hr
    obtain ⟨⟨v, h'⟩, hr, e⟩ := hr
    simp only at e
    subst e
    exact fresh13 (args' := [.sl none 0 (.fix 0)]) (hp := []) rfl ⟨400, h', hr⟩
  have hb := law4n (outB (BL firstI (padL 0))) (outR (BL firstI (padL 0))) h3
  simp only [Option.map_eq_some_iff] at hb
  obtain ⟨⟨⟨e, st2⟩, hs2, cl2⟩, b1, b2⟩ := hb
  simp only [Prod.mk.injEq] at b2
  obtain ⟨rfl, b3, rfl⟩ := b2
  have hev2 := evVg_ok _ _ _ _ (cvE_ok (S := SN4) (fun e he => by
      rcases pair_mem he with rfl | rfl
      · exact (N4_12 _ _).trans h12
      · exact (N4_13 _ _).trans h13)) _ _ b1 (by
    have he := E32w_ok (f := outB (BL firstI (padL 0))) (g := outR (BL firstI (padL 0))) fun j _ => out_same _ j
    simp only [sameH_self, he, BEq.rfl, List.all_cons, List.all_nil, id, Bool.and_self])
  exact ⟨60, _, runG_ret hev2 b3⟩
end Go.Proofs.Ytiijphmpkmmpjaa
