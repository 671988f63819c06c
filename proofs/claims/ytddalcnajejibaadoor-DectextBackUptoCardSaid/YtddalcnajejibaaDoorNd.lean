/- Written by merging: Sa Sb Sc Sd Se Rza. -/
import Derived.Test.YtddalcnajejibaaDoorNc
import Derived.Test.YtddalcnajejibaaDoorNb
import Derived.Test.YtddalcnajejibaaDoorNa
import Derived.OpenShut
import Derived.WideShapes
import Derived.ChangeOld
namespace Go.Proofs.YtddalcnajejibaaDoor
open Go Go.Am Go.RowKit Go.WideShapes
set_option maxRecDepth 100000
set_option maxHeartbeats 1000000
set_option linter.unusedVariables false
set_option linter.unusedSimpArgs false

def Dg (l : List UInt8) : Prop := ∀ c ∈ l, isD c = true
def tlD (D : List UInt8) : List UInt8 := if D = [] then [] else 46 :: D
def mk (neg : Bool) (W D : List UInt8) : List UInt8 := (if neg then [45] else []) ++ (W ++ tlD D)
def nz (l : List UInt8) : Bool := l.any (· != 48)
def OkD (neg : Bool) (W D : List UInt8) : Prop := (Dg W ∧ Dg D) ∧ (W ≠ [] ∧ (W.getD 0 0 = 48 → W.length = 1)) ∧ (neg = true → nz (W ++ D) = true)
theorem dg_app {a b : List UInt8} (ha : Dg a) (hb : Dg b) : Dg (a ++ b) := fun c hc => by
  rcases List.mem_append.1 hc with hc | hc
  · exact ha c hc
  · exact hb c hc
theorem runD_app : ∀ {W : List UInt8} (r : List UInt8), Dg W → runD (W ++ r) = W.length + runD r
  | [], r, _ => by simp
  | c :: W, r, h => by
    have ih := runD_app (W := W) r fun d hd => h d (List.mem_cons_of_mem _ hd)
    rw [List.cons_append, runD, if_pos (h c (List.mem_cons_self ..)), ih, List.length_cons]; omega
theorem runD_dot (r : List UInt8) : runD (46 :: r) = 0 := rfl
theorem runD_all {D : List UInt8} (h : Dg D) : runD D = D.length := by
  have := runD_app [] h
  rw [List.append_nil] at this
  exact this
theorem nzD_app : ∀ {W : List UInt8} (r : List UInt8), Dg W → nzD (W ++ r) = (nz W || nzD r)
  | [], r, _ => by simp [nz]
  | c :: W, r, h => by
    have ih := nzD_app (W := W) r fun d hd => h d (List.mem_cons_of_mem _ hd)
    rw [List.cons_append, nzD, if_pos (h c (List.mem_cons_self ..)), ih]
    simp [nz, Bool.or_assoc]
theorem nzD_dot (r : List UInt8) : nzD (46 :: r) = false := rfl
theorem nzD_all {D : List UInt8} (h : Dg D) : nzD D = nz D := by
  have := nzD_app [] h
  rw [List.append_nil] at this
  rw [this]; exact Bool.or_false _
theorem getD_pre (pre t : List UInt8) (j : Nat) : (pre ++ t).getD (pre.length + j) 0 = t.getD j 0 := by
  rw [List.getD_eq_getElem?_getD, List.getElem?_append_right (by omega), Nat.add_sub_cancel_left, ← List.getD_eq_getElem?_getD]
theorem drop_pre (pre t : List UInt8) (j : Nat) : (pre ++ t).drop (pre.length + j) = t.drop j := List.drop_length_add_append ..
theorem nz_app (a b : List UInt8) : nz (a ++ b) = (nz a || nz b) := by simp [nz]
theorem wRf_mk {pre W D : List UInt8} (hW : Dg W) (hD : Dg D) (h0 : W ≠ []) (h1 : W.getD 0 0 = 48 → W.length = 1) : wRf (pre ++ (W ++ tlD D)) pre.length = (nz (W ++ D) || (pre ++ (W ++ tlD D)).getD 0 0 != 45) := by
  have hl : 0 < W.length := List.length_pos_iff.2 h0
  have hg0 : (W ++ tlD D).getD 0 0 = W.getD 0 0 := by
    cases W with
    | nil => cases hl
    | cons c W => rfl
  have e0 := drop_pre pre (W ++ tlD D) 0
  have g0 := getD_pre pre (W ++ tlD D) 0
  rw [Nat.add_zero, List.drop_zero] at e0
  rw [Nat.add_zero, hg0] at g0
  by_cases hE : D = []
  · subst hE
    have ht : W ++ tlD [] = W := List.append_nil W
    rw [ht] at e0 g0 ⊢
    unfold wRf
    rw [e0, g0, runD_all hW, nzD_all hW, List.append_nil]
    rw [if_neg (by
      simp only [Bool.or_eq_true, Bool.and_eq_true, beq_iff_eq, decide_eq_true_eq]
      rintro (h | ⟨h, h'⟩)
      · omega
      · have := h1 h; omega)]
    rw [if_neg (by rw [decide_eq_true_eq, List.length_append]; omega)]
  · have ht : W ++ tlD D = W ++ 46 :: D := by unfold tlD; rw [if_neg hE]
    rw [ht] at e0 g0 ⊢
    have hDl : 0 < D.length := List.length_pos_iff.2 hE
    have hr : runD (W ++ 46 :: D) = W.length := by rw [runD_app _ hW, runD_dot]; rfl
    have e1 := drop_pre pre (W ++ 46 :: D) (W.length + 1)
    have g1 := getD_pre pre (W ++ 46 :: D) W.length
    have e1' : (W ++ 46 :: D).drop (W.length + 1) = D := by rw [List.drop_length_add_append]; rfl
    have g1' : (W ++ 46 :: D).getD W.length 0 = 46 := by
      have := getD_pre W (46 :: D) 0
      rw [Nat.add_zero] at this
      rw [this]; rfl
    rw [e1', ← Nat.add_assoc] at e1
    rw [g1'] at g1
    unfold wRf
    rw [e0, g0, hr, e1, g1, runD_all hD, nzD_app _ hW, nzD_dot, nzD_all hD, Bool.or_false, nz_app]
    have hlen : (pre ++ (W ++ 46 :: D)).length = pre.length + W.length + 1 + D.length := by simp; omega
    rw [hlen]
    rw [if_neg (by
      simp only [Bool.or_eq_true, Bool.and_eq_true, beq_iff_eq, decide_eq_true_eq]
      rintro (h | ⟨h, h'⟩)
      · omega
      · have := h1 h; omega)]
    rw [if_pos (by rw [decide_eq_true_eq]; omega), if_neg (by
      simp only [Bool.or_eq_true, bne_self_eq_false, beq_iff_eq]
      rintro (h | h)
      · cases h
      · omega), if_pos (beq_self_eq_true _)]
theorem dg_45 {W r : List UInt8} (hW : Dg W) (h0 : W ≠ []) : ((W ++ r).getD 0 0 == 45) = false := by
  cases W with
  | nil => exact absurd rfl h0
  | cons c W =>
    have := hW c (List.mem_cons_self ..)
    show (c == 45) = false
    rw [beq_eq_false_iff_ne]
    rintro rfl
    cases this
theorem mk_neg {neg : Bool} {W D : List UInt8} (h : OkD neg W D) : ((mk neg W D).getD 0 0 == 45) = neg := by
  obtain ⟨⟨hW, hD⟩, ⟨h0, h1⟩, h2⟩ := h
  cases neg
  · exact dg_45 (W := W) (r := tlD D) hW h0
  · rfl
theorem mk_whole {neg : Bool} {W D : List UInt8} (h : OkD neg W D) : wR (mk neg W D) = true := by
  have hn := mk_neg h
  obtain ⟨⟨hW, hD⟩, ⟨h0, h1⟩, h2⟩ := h
  have hl : 0 < W.length := List.length_pos_iff.2 h0
  have hpos : 0 < (mk neg W D).length := by unfold mk; simp only [List.length_append]; omega
  unfold wR
  rw [hn, decide_eq_true hpos, Bool.true_and]
  cases neg
  · have := wRf_mk (pre := []) hW hD h0 h1
    rw [if_neg (by decide)]
    have h3 : ((mk false W D).getD 0 0 != 45) = true := by rw [bne, hn]; rfl
    show wRf (mk false W D) ([] : List UInt8).length = true
    have e : mk false W D = [] ++ (W ++ tlD D) := rfl
    rw [e] at h3 ⊢
    rw [this, h3, Bool.or_true]
  · have := wRf_mk (pre := [45]) hW hD h0 h1
    rw [if_pos rfl]
    show wRf ([45] ++ (W ++ tlD D)) ([45] : List UInt8).length = true
    rw [this, h2 rfl, Bool.true_or]
theorem mk_all {neg : Bool} {W D : List UInt8} (h : OkD neg W D) : allR (mk neg W D) [] = dw (W ++ D) ∧ behR (mk neg W D) false 0 = D.length := by
  obtain ⟨⟨hW, hD⟩, ⟨h0, h1⟩, h2⟩ := h
  have key : allR (W ++ tlD D) [] = dw (W ++ D) ∧ behR (W ++ tlD D) false 0 = D.length := by
    by_cases hE : D = []
    · subst hE
      have ht : W ++ tlD [] = W ++ [] := rfl
      rw [ht, al2 W [] hW, be1 W [] 0 hW, List.append_nil]
      exact ⟨rfl, rfl⟩
    · have ht : W ++ tlD D = W ++ 46 :: D := by unfold tlD; rw [if_neg hE]
      rw [ht, al3 W D hW hD, be1 W _ 0 hW]
      refine ⟨rfl, ?_⟩
      show behR D true 0 = _
      rw [be2 D 0 hD, Nat.zero_add]
  cases neg
  · exact key
  · exact key
def dv (c : UInt8) : Nat := c.toNat - 48
def valS (v : Nat) (c : UInt8) : Nat := v * 10 + dv c
def valF (v : Nat) (l : List UInt8) : Nat := l.foldl valS v
theorem valF_cons (v : Nat) (c : UInt8) (l : List UInt8) : valF v (c :: l) = valF (v * 10 + dv c) l := by
  unfold valF
  rw [List.foldl_cons]
  unfold valS
  with_reducible rfl
theorem valF_nil (v : Nat) : valF v [] = v := List.foldl_nil ..
theorem valF_add (l : List UInt8) : ∀ v : Nat, valF v l = v * 10 ^ l.length + valF 0 l := by
  induction l with
  | nil => intro v; rw [valF_nil, valF_nil, List.length_nil, Nat.pow_zero]; omega
  | cons c l ih =>
    intro v
    have e1 := ih (v * 10 + dv c)
    have e2 := ih (0 * 10 + dv c)
    rw [valF_cons, valF_cons, e1, e2, List.length_cons, Nat.pow_succ, Nat.add_mul, Nat.zero_mul, Nat.zero_add, Nat.mul_assoc, Nat.mul_comm 10]
    omega
theorem valF_app (a b : List UInt8) (v : Nat) : valF v (a ++ b) = valF (valF v a) b := List.foldl_append ..
theorem val_app (a b : List UInt8) : valF 0 (a ++ b) = valF 0 a * 10 ^ b.length + valF 0 b := by rw [valF_app, valF_add]
theorem val_zeros : ∀ (z : Nat), valF 0 (List.replicate z 48) = 0
  | 0 => valF_nil 0
  | z + 1 => by
    rw [List.replicate_succ, valF_cons, show 0 * 10 + dv 48 = 0 from rfl]
    exact val_zeros z
theorem val_dw : ∀ (l : List UInt8), valF 0 (dw l) = valF 0 l
  | [] => by rw [show dw [] = [] from rfl]
  | c :: l => by
    rw [dw_cons]
    split
    · rename_i h
      rw [beq_iff_eq] at h
      subst h
      rw [valF_cons, show 0 * 10 + dv 48 = 0 from rfl]
      exact val_dw l
    · with_reducible rfl
theorem dg_le {c : UInt8} (h : isD c = true) : c.toNat = dv c + 48 ∧ dv c ≤ 9 := by
  unfold isD at h
  simp only [Bool.and_eq_true, decide_eq_true_eq] at h
  unfold dv
  omega
theorem val_lt : ∀ (l : List UInt8), Dg l → valF 0 l < 10 ^ l.length
  | [], _ => by rw [valF_nil]; decide
  | c :: l, h => by
    have ih := val_lt l fun d hd => h d (List.mem_cons_of_mem _ hd)
    have hc := dg_le (h c (List.mem_cons_self ..))
    rw [valF_cons, valF_add, List.length_cons, Nat.pow_succ]
    have : (0 * 10 + dv c) * 10 ^ l.length ≤ 9 * 10 ^ l.length := Nat.mul_le_mul_right _ (by omega)
    omega
theorem val_ge {c : UInt8} {l : List UInt8} (hc : isD c = true) (h : c ≠ 48) : 10 ^ l.length ≤ valF 0 (c :: l) := by
  have hc := dg_le hc
  have hne : c.toNat ≠ 48 := fun e => h (UInt8.toNat_inj.1 e)
  rw [valF_cons, valF_add]
  have : 1 * 10 ^ l.length ≤ (0 * 10 + dv c) * 10 ^ l.length := Nat.mul_le_mul_right _ (by omega)
  omega
theorem dig_inj : ∀ (a b : List UInt8), Dg a → Dg b → a.length = b.length → valF 0 a = valF 0 b → a = b
  | [], [], _, _, _, _ => rfl
  | c :: a, d :: b, ha, hb, hl, hv => by
    have ha' : Dg a := fun x hx => ha x (List.mem_cons_of_mem _ hx)
    have hb' : Dg b := fun x hx => hb x (List.mem_cons_of_mem _ hx)
    have hl' : a.length = b.length := by simpa using hl
    have h1 := val_lt a ha'
    have h2 := val_lt b hb'
    have hc := dg_le (ha c (List.mem_cons_self ..))
    have hd := dg_le (hb d (List.mem_cons_self ..))
    rw [valF_cons, valF_cons, valF_add a, valF_add b, hl'] at hv
    rw [hl'] at h1
    have hq : dv c = dv d := by
      have e1 : ((0 * 10 + dv c) * 10 ^ b.length + valF 0 a) / 10 ^ b.length = 0 * 10 + dv c := by
        rw [Nat.mul_comm, Nat.mul_add_div (Nat.pow_pos (by decide)), Nat.div_eq_of_lt h1, Nat.add_zero]
      have e2 : ((0 * 10 + dv d) * 10 ^ b.length + valF 0 b) / 10 ^ b.length = 0 * 10 + dv d := by
        rw [Nat.mul_comm, Nat.mul_add_div (Nat.pow_pos (by decide)), Nat.div_eq_of_lt h2, Nat.add_zero]
      rw [hv, e2] at e1
      omega
    have hcd : c = d := UInt8.toNat_inj.1 (by omega)
    rw [hcd] at hv ⊢
    rw [dig_inj a b ha' hb' hl' (by omega)]
theorem fold_val : ∀ (l : List UInt8) (v : Nat), Dg l → v < 115792089237316195423570985008687907853269984665640564039457584007913129639936 → foldD (v : Int) l = if valF v l < 115792089237316195423570985008687907853269984665640564039457584007913129639936 then some ((valF v l : Nat) : Int) else none
  | [], v, _, hv => by rw [foldD, valF_nil, if_pos hv]
  | c :: l, v, h, hv => by
    have hc := dg_le (h c (List.mem_cons_self ..))
    have hl : Dg l := fun d hd => h d (List.mem_cons_of_mem _ hd)
    have e : (v : Int) * 10 + ((c.toNat : Int) - 48) = ((v * 10 + dv c : Nat) : Int) := by omega
    rw [foldD, valF_cons, e]
    split
    · rename_i hb
      have := valF_add l (v * 10 + dv c)
      have hp : 1 ≤ 10 ^ l.length := Nat.pow_pos (by decide)
      have : (v * 10 + dv c) * 1 ≤ (v * 10 + dv c) * 10 ^ l.length := Nat.mul_le_mul_left _ hp
      rw [if_neg (by omega)]
    · rename_i hb
      exact fold_val l _ hl (by omega)
theorem dv_dig (d : Nat) (h : d < 10) : dv (48 + d).toUInt8 = d := by
  have := dig_u8 d h
  unfold dv; omega
theorem lsb_val : ∀ (n v : Nat), v ≤ n → valF 0 (lsb v).reverse = v
  | n, v, h => by
    by_cases h0 : v = 0
    · subst h0; rw [lsb_zero]; exact valF_nil 0
    · match n, h with
      | 0, h => exact absurd (by omega) h0
      | n + 1, h =>
        have ih := lsb_val n (v / 10) (by omega)
        have hd := dv_dig (v % 10) (by omega)
        rw [lsb_pos h0, List.reverse_cons, val_app, ih, List.length_singleton, Nat.pow_one, valF_cons, valF_nil, hd]
        omega
theorem textN_val (v : Nat) : valF 0 (textN v) = v := by
  unfold textN
  split
  · rename_i h
    rw [h, valF_cons, valF_nil]; rfl
  · exact lsb_val v v (Nat.le_refl _)
theorem lsb_head : ∀ (n v : Nat), v ≤ n → v ≠ 0 → ∃ c l, (lsb v).reverse = c :: l ∧ c ≠ 48
  | 0, v, h, h0 => absurd (by omega) h0
  | n + 1, v, h, h0 => by
    rw [lsb_pos h0, List.reverse_cons]
    by_cases h1 : v / 10 = 0
    · rw [h1, lsb_zero]
      refine ⟨_, [], rfl, fun e => ?_⟩
      have := dv_dig (v % 10) (by omega)
      rw [e] at this
      have : (0 : Nat) = v % 10 := this
      omega
    · obtain ⟨c, l, e, hc⟩ := lsb_head n (v / 10) (by omega) h1
      rw [e]
      exact ⟨c, _, rfl, hc⟩
theorem textN_head {v : Nat} (h0 : v ≠ 0) : ∃ c l, textN v = c :: l ∧ c ≠ 48 := by
  unfold textN
  rw [if_neg h0]
  exact lsb_head v v (Nat.le_refl _) h0
theorem text_uniq {c : UInt8} {l : List UInt8} (hd : Dg (c :: l)) (h : c ≠ 48) : textN (valF 0 (c :: l)) = c :: l := by
  have g1 := val_ge (l := l) (hd c (List.mem_cons_self ..)) h
  have g2 := val_lt _ hd
  have hv := textN_val (valF 0 (c :: l))
  have hg := textN_dig (valF 0 (c :: l))
  have hp : 0 < 10 ^ l.length := Nat.pow_pos (by decide)
  obtain ⟨d, m, e, hm⟩ := textN_head (v := valF 0 (c :: l)) (by omega)
  rw [e] at hv hg ⊢
  have k1 := val_ge (l := m) (hg d (List.mem_cons_self ..)) hm
  have k2 := val_lt _ hg
  rw [hv] at k1 k2
  rw [List.length_cons] at g2 k2
  have a1 : l.length < m.length + 1 := (Nat.pow_lt_pow_iff_right (by decide : 1 < 10)).1 (Nat.lt_of_le_of_lt g1 k2)
  have a2 : m.length < l.length + 1 := (Nat.pow_lt_pow_iff_right (by decide : 1 < 10)).1 (Nat.lt_of_le_of_lt k1 g2)
  exact dig_inj _ _ hg hd (by simp only [List.length_cons]; omega) hv
theorem dw_len : ∀ l : List UInt8, (dw l).length ≤ l.length
  | [] => Nat.le_refl _
  | c :: l => by
    have := dw_len l
    rw [dw_cons]
    split
    · simp only [List.length_cons]; omega
    · exact Nat.le_refl _
theorem dw_split : ∀ l : List UInt8, l = List.replicate (l.length - (dw l).length) 48 ++ dw l
  | [] => rfl
  | c :: l => by
    have hl := dw_len l
    have ih := dw_split l
    rw [dw_cons]
    split
    · rename_i h
      rw [beq_iff_eq] at h
      rw [List.length_cons, show l.length + 1 - (dw l).length = (l.length - (dw l).length) + 1 by omega, List.replicate_succ, List.cons_append, ← ih, h]
    · rw [Nat.sub_self]; rfl
theorem dw_head : ∀ l : List UInt8, dw l = [] ∨ ∃ c m, dw l = c :: m ∧ c ≠ 48
  | [] => .inl rfl
  | c :: l => by
    rw [dw_cons]
    split
    · exact dw_head l
    · rename_i h
      exact .inr ⟨c, l, rfl, fun e => h (by rw [e]; rfl)⟩
theorem dw_dg {l : List UInt8} (h : Dg l) : Dg (dw l) := fun c hc => h c (by rw [dw_split l]; exact List.mem_append_right _ hc)
theorem allD_dg {l : List UInt8} (h : Dg l) : allD l = true := by
  unfold allD
  rw [List.all_eq_true]; exact h
/-- What a decimal text says. -/
theorem parse_mk {neg : Bool} {W D : List UInt8} (h : OkD neg W D) : parseD (mk neg W D) = if D.length > 18 then (false, 0, 0, 31) else if valF 0 (W ++ D) < 115792089237316195423570985008687907853269984665640564039457584007913129639936 then (neg, ((valF 0 (W ++ D) : Nat) : Int), (D.length : Int), 0) else (false, 0, 0, 7) := by
  obtain ⟨m1, m2⟩ := mk_all h
  have hdg := dw_dg (dg_app h.1.1 h.1.2)
  have hvd := val_dw (W ++ D)
  rw [← parse_same]
  unfold parse44
  rw [mk_whole h, if_neg (by decide), m1, m2, mk_neg h]
  split
  · rfl
  · rcases dw_head (W ++ D) with e | ⟨c, m, e, hc⟩
    · rw [e, valF_nil] at hvd
      rw [e, ← hvd]
      rfl
    · rw [e] at hdg hvd ⊢
      have hp := pn_rest (s := c :: m) (List.cons_ne_nil _ _) (.inl (by show (c == 48) = false; rw [beq_eq_false_iff_ne]; exact hc))
      have hf := fold_val (c :: m) 0 hdg (by decide)
      rw [hvd] at hf
      rw [allD_dg hdg, if_pos rfl, show (0 : Int) = ((0 : Nat) : Int) from rfl, hf] at hp
      rw [if_neg (by show ¬ (false = true); decide), hp]
      by_cases hb : valF 0 (W ++ D) < 115792089237316195423570985008687907853269984665640564039457584007913129639936
      · rw [if_pos hb, if_pos hb]
        rfl
      · rw [if_neg hb, if_neg hb]
        rfl
theorem nz_zeros (z : Nat) : nz (List.replicate z 48) = false := by
  unfold nz
  rw [List.any_eq_false]
  intro x hx
  rw [List.eq_of_mem_replicate hx]; decide
theorem nz_val {l : List UInt8} (h : valF 0 l ≠ 0) : nz l = true := by
  cases e : nz l with
  | true => rfl
  | false =>
    exfalso
    apply h
    have : l = List.replicate l.length 48 := by
      rw [List.eq_replicate_iff]
      refine ⟨rfl, fun c hc => ?_⟩
      unfold nz at e
      rw [List.any_eq_false] at e
      have := e c hc
      simpa using this
    rw [this]; exact val_zeros _
/-- A number's text: its parts. -/
theorem textD_mk {neg : Bool} {v k : Nat} (hn : neg = true → v ≠ 0) : ∃ W D, textD neg v k = mk neg W D ∧ OkD neg W D ∧ W ++ D = padD (textN v) k ∧ D.length = k := by
  have hdg : Dg (padD (textN v) k) := padD_dig v k
  have hval : valF 0 (padD (textN v) k) = v := by
    unfold padD
    rw [val_app, val_zeros, textN_val]; omega
  have hl1 : 1 ≤ (textN v).length := by
    by_cases h0 : v = 0
    · rw [h0]; exact Nat.le_refl _
    · obtain ⟨c, l, e, _⟩ := textN_head h0
      rw [e, List.length_cons]; omega
  have hlen : k + 1 ≤ (padD (textN v) k).length := by
    unfold padD
    rw [List.length_append, List.length_replicate]; omega
  refine ⟨(padD (textN v) k).take ((padD (textN v) k).length - k), (padD (textN v) k).drop ((padD (textN v) k).length - k), ?_, ?_, List.take_append_drop .., by rw [List.length_drop]; omega⟩
  · unfold textD mk pointD tlD
    congr 1
    by_cases hk : k = 0
    · subst hk
      rw [if_pos rfl, Nat.sub_zero, List.take_length, List.drop_length, if_pos rfl, List.append_nil]
    · rw [if_neg hk, if_neg (by intro e; have := congrArg List.length e; rw [List.length_drop, List.length_nil] at this; omega)]
  · refine ⟨⟨fun c hc => hdg c (List.mem_of_mem_take hc), fun c hc => hdg c (List.mem_of_mem_drop hc)⟩, ⟨?_, fun h48 => ?_⟩, fun hneg => ?_⟩
    · intro e
      have := congrArg List.length e
      rw [List.length_take, List.length_nil] at this
      omega
    · rw [List.length_take, Nat.min_eq_left (by omega)]
      by_cases hs : (textN v).length ≤ k
      · unfold padD
        rw [List.length_append, List.length_replicate]; omega
      · have hp : padD (textN v) k = textN v := by
          unfold padD
          rw [show k + 1 - (textN v).length = 0 by omega]; rfl
        rw [hp] at h48 ⊢
        by_cases h0 : v = 0
        · subst h0
          have : (textN 0).length = 1 := rfl
          omega
        · obtain ⟨c, l, e, hc⟩ := textN_head h0
          rw [e] at h48
          rw [e] at hs
          have : ((c :: l).take ((c :: l).length - k)).getD 0 0 = c := by
            rw [show (c :: l).length - k = ((c :: l).length - k - 1) + 1 by omega]; rfl
          rw [this] at h48
          exact absurd h48 hc
    · rw [List.take_append_drop]
      exact nz_val (by rw [hval]; exact hn hneg)
theorem val_pad (v k : Nat) : valF 0 (padD (textN v) k) = v := by
  unfold padD
  rw [val_app, val_zeros, textN_val]; omega
theorem text_says {neg : Bool} {v k : Nat} (hn : neg = true → v ≠ 0) (hv : v < 115792089237316195423570985008687907853269984665640564039457584007913129639936) (hk : k ≤ 18) : parseD (textD neg v k) = (neg, (v : Int), (k : Int), 0) := by
  obtain ⟨W, D, e, ho, hp, hl⟩ := textD_mk (k := k) hn
  rw [e, parse_mk ho, hp, val_pad, hl, if_neg (by omega), if_pos hv]
theorem tr_split : ∀ (n : Nat) (l : List UInt8), l.length ≤ n → ∃ z, l = Lib.trimRightB l 48 ++ List.replicate z 48 ∧ (Lib.trimRightB l 48 = [] ∨ ∃ a c, Lib.trimRightB l 48 = a ++ [c] ∧ (c == 48) = false)
  | 0, l, hn => by
    have : l = [] := List.length_eq_zero_iff.1 (by omega)
    subst this
    exact ⟨0, rfl, .inl rfl⟩
  | n + 1, l, hn => by
    by_cases hl : 0 < l.length
    · have hs := snoc_of hl
      generalize l.getD (l.length - 1) 0 = d at hs
      by_cases hd : (d == 48) = true
      · rw [beq_iff_eq] at hd
        rw [hd] at hs
        obtain ⟨z, h1, h2⟩ := tr_split n (l.take (l.length - 1)) (by rw [List.length_take]; omega)
        have e : Lib.trimRightB l 48 = Lib.trimRightB (l.take (l.length - 1)) 48 := by
          conv => lhs; rw [hs]
          rw [tr_snoc48]
        rw [e]
        refine ⟨z + 1, ?_, h2⟩
        conv => lhs; rw [hs, h1]
        rw [List.replicate_succ', List.append_assoc]
      · have hd : (d == 48) = false := by simpa using hd
        have e : Lib.trimRightB l 48 = l := by
          conv => lhs; rw [hs]
          rw [tr_snoc hd, ← hs]
        rw [e]
        exact ⟨0, by simp, .inr ⟨_, _, hs, hd⟩⟩
    · have : l = [] := List.length_eq_zero_iff.1 (by omega)
      subst this
      exact ⟨0, rfl, .inl rfl⟩
theorem tr_zeros (l : List UInt8) : ∀ z : Nat, Lib.trimRightB (l ++ List.replicate z 48) 48 = Lib.trimRightB l 48
  | 0 => by simp
  | z + 1 => by
    rw [List.replicate_succ', ← List.append_assoc, tr_snoc48, tr_zeros l z]
theorem short_mk {neg : Bool} {v k : Nat} {W D : List UInt8} (e : textD neg v k = mk neg W D) (hd : Dg D) (hl : D.length = k) : shortD neg v k = mk neg W (Lib.trimRightB D 48) := by
  unfold shortD
  by_cases hk : k = 0
  · subst hk
    have : D = [] := List.length_eq_zero_iff.1 hl
    subst this
    rw [if_pos rfl, e]; rfl
  · have hD : D ≠ [] := fun e => hk (by rw [← hl, e]; rfl)
    rw [if_neg hk, e]
    obtain ⟨z, h1, h2⟩ := tr_split _ D (Nat.le_refl _)
    obtain ⟨P, hP⟩ : ∃ P, P = (if neg then [45] else [] : List UInt8) ++ W := ⟨_, rfl⟩
    have em : ∀ X : List UInt8, mk neg W X = P ++ tlD X := fun X => by unfold mk; rw [hP, List.append_assoc]
    rw [em, em]
    have et : tlD D = 46 :: D := if_neg hD
    rw [et]
    generalize Lib.trimRightB D 48 = D' at h1 h2 ⊢
    have e1 : P ++ 46 :: D = (P ++ 46 :: D') ++ List.replicate z 48 := by rw [h1]; simp
    rw [e1, tr_zeros]
    rcases h2 with h2 | ⟨a, c, h2, hc⟩
    · rw [h2]
      have : P ++ [46] = P ++ [46] := rfl
      rw [tr_snoc (c := 46) (by decide) P, ts_snoc, if_pos (by decide)]
      exact (List.append_nil P).symm
    · have hc46 : (c == 46) = false := isD_46 (hd c (by rw [h1, h2]; simp))
      have hne : D' ≠ [] := by rw [h2]; simp
      have et' : tlD D' = 46 :: D' := if_neg hne
      rw [et', h2]
      have e2 : P ++ 46 :: (a ++ [c]) = (P ++ 46 :: a) ++ [c] := by simp
      rw [e2, tr_snoc hc, ts_snoc, if_neg (by rw [hc46]; decide)]
theorem short_says {neg : Bool} {v k : Nat} (hn : neg = true → v ≠ 0) (hv : v < 115792089237316195423570985008687907853269984665640564039457584007913129639936) (hk : k ≤ 18) :
    ∃ u j : Nat, parseD (shortD neg v k) = (neg, (u : Int), (j : Int), 0) ∧ j ≤ k ∧ u * 10 ^ (k - j) = v := by
  obtain ⟨W, D, e, ho, hp, hl⟩ := textD_mk (k := k) hn
  have hs := short_mk e ho.1.2 hl
  obtain ⟨z, h1, h2⟩ := tr_split _ D (Nat.le_refl _)
  rw [hs]
  generalize Lib.trimRightB D 48 = D' at h1 h2 ⊢
  have hz : D.length = D'.length + z := by rw [h1]; simp
  have hval : valF 0 (W ++ D') * 10 ^ z = v := by
    have : valF 0 (W ++ D) = v := by rw [hp, val_pad]
    rw [h1, ← List.append_assoc, val_app, val_zeros, List.length_replicate, Nat.add_zero] at this
    exact this
  have ho' : OkD neg W D' := by
    refine ⟨⟨ho.1.1, fun c hc => ho.1.2 c (by rw [h1]; exact List.mem_append_left _ hc)⟩, ho.2.1, fun h => ?_⟩
    have := ho.2.2 h
    rw [h1, ← List.append_assoc, nz_app, nz_zeros, Bool.or_false] at this
    exact this
  have hle : valF 0 (W ++ D') ≤ v := by
    rw [← hval]
    exact Nat.le_mul_of_pos_right _ (Nat.pow_pos (by decide))
  refine ⟨valF 0 (W ++ D'), D'.length, ?_, by omega, ?_⟩
  · rw [parse_mk ho', if_neg (by omega), if_pos (by omega)]
  · rw [show k - D'.length = z by omega]; exact hval
theorem short_at {neg : Bool} {v k : Nat} (hn : neg = true → v ≠ 0) (hv : v < 115792089237316195423570985008687907853269984665640564039457584007913129639936) (hk : k ≤ 18) : parseAtX (shortD neg v k) k = .tup [decV neg v k, .int .i64 0] := by
  obtain ⟨u, j, e, hj, hu⟩ := short_says hn hv hk
  unfold parseAtX
  rw [e]
  simp only
  rw [if_neg (by omega), if_neg (by decide), if_neg (by omega)]
  have hw : (u : Int) * 10 ^ ((k : Int) - (j : Int)).toNat = (v : Int) := by
    rw [show ((k : Int) - (j : Int)).toNat = k - j by omega, ← hu]
    push_cast
    rfl
  rw [hw]
  unfold scX
  rw [if_neg (by omega)]
  have hneg : (neg && decide ((v : Int) ≠ 0)) = neg := by
    cases neg
    · rfl
    · have := hn rfl
      simp; exact this
  rw [hneg]
theorem run_dg (t : List UInt8) : Dg (t.take (runD t)) := take_run t
theorem whole_mk {s : List UInt8} (h : wR s = true) : ∃ neg W D, s = mk neg W D ∧ OkD neg W D := by
  obtain ⟨n, hn⟩ : ∃ n : Bool, n = (decide (0 < s.length) && s.getD 0 0 == 45) := ⟨_, rfl⟩
  unfold wR at h
  rw [← hn] at h
  obtain ⟨pre, t, hs, hpl, hpre, h45⟩ : ∃ pre t, s = pre ++ t ∧ pre.length = (if n then 1 else 0) ∧ pre = (if n then [45] else []) ∧ (n = true → s.getD 0 0 = 45) := by
    cases n with
    | false => exact ⟨[], s, rfl, rfl, rfl, fun h => by cases h⟩
    | true =>
      have h2 := hn.symm
      simp only [Bool.and_eq_true, decide_eq_true_eq, beq_iff_eq] at h2
      cases s with
      | nil => exact absurd h2.1 (by decide)
      | cons c l =>
        have : c = 45 := h2.2
        subst this
        exact ⟨[45], l, rfl, rfl, rfl, fun _ => rfl⟩
  rw [← hpl] at h
  have e0 := drop_pre pre t 0
  have g0 := getD_pre pre t 0
  rw [Nat.add_zero, List.drop_zero, ← hs] at e0
  rw [Nat.add_zero, ← hs] at g0
  have hlen : s.length = pre.length + t.length := by rw [hs, List.length_append]
  have hrl := runD_le t
  unfold wRf at h
  rw [e0, g0] at h
  split at h
  · cases h
  · rename_i h1
    simp only [Bool.or_eq_true, Bool.and_eq_true, beq_iff_eq, decide_eq_true_eq, not_or, not_and] at h1
    have hW := run_dg t
    have hWl : (t.take (runD t)).length = runD t := by rw [List.length_take]; omega
    have hW0 : t.take (runD t) ≠ [] := fun e => by rw [e] at hWl; exact h1.1 hWl.symm
    have hWh : (t.take (runD t)).getD 0 0 = t.getD 0 0 := by
      rw [List.getD_eq_getElem?_getD, List.getElem?_take_of_lt (by omega), ← List.getD_eq_getElem?_getD]
    have hW1 : (t.take (runD t)).getD 0 0 = 48 → (t.take (runD t)).length = 1 := fun e => by
      rw [hWh] at e
      have := h1.2 e
      omega
    split at h
    · rename_i h2
      simp only [decide_eq_true_eq] at h2
      have g1 := getD_pre pre t (runD t)
      have e1 := drop_pre pre t (runD t + 1)
      rw [← hs] at g1
      rw [← hs, ← Nat.add_assoc] at e1
      rw [g1, e1] at h
      split at h
      · cases h
      · rename_i h3
        simp only [Bool.or_eq_true, bne_iff_ne, ne_eq, beq_iff_eq, not_or, Decidable.not_not] at h3
        split at h
        · rename_i h4
          rw [beq_iff_eq] at h4
          have hDl : (t.drop (runD t + 1)).length = t.length - (runD t + 1) := List.length_drop
          have hD : Dg (t.drop (runD t + 1)) := all_run (by rw [hDl]; omega)
          have hDne : t.drop (runD t + 1) ≠ [] := fun e => by
            have := congrArg List.length e
            rw [hDl, List.length_nil] at this
            omega
          have ht : t = t.take (runD t) ++ 46 :: t.drop (runD t + 1) := by
            have : t.drop (runD t) = 46 :: t.drop (runD t + 1) := by
              rw [drop_cons (by omega), h3.1]
            rw [← this, List.take_append_drop]
          refine ⟨n, t.take (runD t), t.drop (runD t + 1), ?_, ⟨hW, hD⟩, ⟨hW0, hW1⟩, fun hneg => ?_⟩
          · unfold mk
            have : tlD (t.drop (runD t + 1)) = 46 :: t.drop (runD t + 1) := if_neg hDne
            rw [this, ← ht, ← hpre]; exact hs
          · have h5 : (s.getD 0 0 != 45) = false := by rw [h45 hneg]; rfl
            rw [h5, Bool.or_false] at h
            have hx : nzD t = nz (t.take (runD t)) := by
              conv => lhs; rw [ht]
              rw [nzD_app _ hW, nzD_dot, Bool.or_false]
            rw [hx, nzD_all hD] at h
            rw [nz_app]; exact h
        · cases h
    · rename_i h2
      simp only [decide_eq_true_eq] at h2
      have hk : runD t = t.length := by omega
      have ht : t.take (runD t) = t := by rw [hk, List.take_length]
      rw [ht] at hW hW0 hW1
      refine ⟨n, t, [], ?_, ⟨hW, fun c hc => by cases hc⟩, ⟨hW0, hW1⟩, fun hneg => ?_⟩
      · unfold mk
        have : tlD [] = [] := rfl
        rw [this, List.append_nil, ← hpre]; exact hs
      · have h5 : (s.getD 0 0 != 45) = false := by rw [h45 hneg]; rfl
        rw [h5, Bool.or_false, nzD_all hW] at h
        rw [List.append_nil]; exact h
theorem text_of {s : List UInt8} (h : (parseD s).2.2.2 = 0) : textD (parseD s).1 (parseD s).2.1.toNat (parseD s).2.2.1.toNat = s ∧ (parseD s).2.1.toNat < 115792089237316195423570985008687907853269984665640564039457584007913129639936 ∧ ((parseD s).1 = true → (parseD s).2.1.toNat ≠ 0) ∧ 0 ≤ (parseD s).2.1 ∧ 0 ≤ (parseD s).2.2.1 ∧ (parseD s).2.2.1 ≤ 18 := by
  have hw : wR s = true := by
    have := err30 s
    rw [h] at this
    rw [← this]; rfl
  obtain ⟨neg, W, D, hs, ho⟩ := whole_mk hw
  have hp := parse_mk ho
  rw [← hs] at hp
  rw [hp] at h ⊢
  by_cases h18 : D.length > 18
  · rw [if_pos h18] at h; cases h
  · rw [if_neg h18] at h ⊢
    by_cases hb : valF 0 (W ++ D) < 115792089237316195423570985008687907853269984665640564039457584007913129639936
    · rw [if_pos hb]
      have hnz : neg = true → valF 0 (W ++ D) ≠ 0 := fun hneg e => by
        have hz := ho.2.2 hneg
        have hd := dw_split (W ++ D)
        have hv := val_dw (W ++ D)
        rcases dw_head (W ++ D) with q | ⟨c, m, q, hc⟩
        · rw [q, List.append_nil] at hd
          rw [hd, nz_zeros] at hz
          cases hz
        · have hdg := dw_dg (dg_app ho.1.1 ho.1.2)
          rw [q] at hv hdg
          have := val_ge (l := m) (hdg c (List.mem_cons_self ..)) hc
          have hp : 0 < 10 ^ m.length := Nat.pow_pos (by decide)
          omega
      refine ⟨?_, by show ((valF 0 (W ++ D) : Nat) : Int).toNat < _; rw [Int.toNat_natCast]; exact hb, fun hneg => by show ((valF 0 (W ++ D) : Nat) : Int).toNat ≠ 0; rw [Int.toNat_natCast]; exact hnz hneg, Int.natCast_nonneg _, Int.natCast_nonneg _, by show (D.length : Int) ≤ 18; omega⟩
      show textD neg ((valF 0 (W ++ D) : Nat) : Int).toNat (D.length : Int).toNat = s
      rw [Int.toNat_natCast, Int.toNat_natCast]
      have hW : 0 < W.length := List.length_pos_iff.2 ho.2.1.1
      have hdg := dg_app ho.1.1 ho.1.2
      have hlen : (W ++ D).length = W.length + D.length := List.length_append
      have hpad : padD (textN (valF 0 (W ++ D))) D.length = W ++ D := by
        have hd := dw_split (W ++ D)
        have hvd := val_dw (W ++ D)
        have hdl := dw_len (W ++ D)
        have h48 : ∀ z r, W ++ D = List.replicate (z + 1) 48 ++ r → W.length = 1 := fun z r e => by
          apply ho.2.1.2
          cases hWc : W with
          | nil => rw [hWc] at hW; cases hW
          | cons c l =>
            rw [hWc] at e
            have : c = 48 := by
              have := congrArg (fun x => x.getD 0 0) e
              exact this
            rw [this]; rfl
        rcases dw_head (W ++ D) with q | ⟨c, m, q, hc⟩
        · rw [q, valF_nil] at hvd
          rw [q, List.append_nil, List.length_nil, Nat.sub_zero] at hd
          rw [← hvd]
          have hW1 : W.length = 1 := h48 ((W ++ D).length - 1) [] (by rw [List.append_nil, show (W ++ D).length - 1 + 1 = (W ++ D).length by omega]; exact hd)
          have : padD (textN 0) D.length = List.replicate (W ++ D).length 48 := by
            unfold padD
            have e1 : textN 0 = [48] := rfl
            rw [e1, List.length_singleton, Nat.add_sub_cancel, hlen, hW1, Nat.add_comm 1, List.replicate_succ']
          rw [this, ← hd]
        · have hT : textN (valF 0 (W ++ D)) = dw (W ++ D) := by
            rw [← hvd, q]
            have := dw_dg hdg
            rw [q] at this
            exact text_uniq this hc
          rw [hT]
          by_cases hz : (dw (W ++ D)).length = (W ++ D).length
          · rw [hz, Nat.sub_self] at hd
            have hd' : W ++ D = dw (W ++ D) := hd
            rw [← hd']
            exact pad_done (by omega)
          · have hW1 : W.length = 1 := h48 ((W ++ D).length - (dw (W ++ D)).length - 1) (dw (W ++ D)) (by rw [show (W ++ D).length - (dw (W ++ D)).length - 1 + 1 = (W ++ D).length - (dw (W ++ D)).length by omega]; exact hd)
            unfold padD
            rw [show D.length + 1 - (dw (W ++ D)).length = (W ++ D).length - (dw (W ++ D)).length by omega]
            exact hd.symm
      obtain ⟨W2, D2, e2, ho2, hp2, hl2⟩ := textD_mk (neg := neg) (v := valF 0 (W ++ D)) (k := D.length) hnz
      rw [hpad] at hp2
      have hWW : W2 = W ∧ D2 = D := List.append_inj hp2 (by
        have := congrArg List.length hp2
        rw [List.length_append, List.length_append] at this
        omega)
      rw [e2, hWW.1, hWW.2]
      exact hs.symm
    · rw [if_neg hb] at h; cases h
noncomputable def tb6s : List TbE := [⟨19, fun vs _ => sCheck vs, .of (.one (.int .i64))⟩, ⟨9, fun vs _ => sTextD vs, .of (.one .str)⟩, ⟨13, fun vs _ => sParseD vs, .tup [ag6, .one (.int .i64)]⟩, ⟨11, fun vs _ => sShortD vs, .of (.one .str)⟩, ⟨15, fun vs _ => sParseAt vs, .tup [ag6, .one (.int .i64)]⟩, ⟨8, sLive, .of (.one .bool)⟩]
theorem v6s (n : Bool) (a0 a1 a2 a3 sc : Int) (s : List UInt8) (R : AV → AHeap → Prop) : (∃ (n_1 : Int), some (AV.int .i64 (if (decide (sc < 0) || decide (sc > 18) || n && !nz4 a0 a1 a2 a3) = true then 20 else 0)) = some (AV.int .i64 n_1) ∧ askB (n_1 == 0) (∃ (s_1 : List UInt8), sTextD [AV.agg [AV.bool n, AV.int .u64 a0, AV.int .u64 a1, AV.int .u64 a2, AV.int .u64 a3, AV.int .i64 sc]] = some (AV.str s_1) ∧ ∃ (b : Bool), ∃ (n_2 : Int), ∃ (n_3 : Int), ∃ (n_4 : Int), ∃ (n_5 : Int), ∃ (n_6 : Int), ∃ (n_7 : Int), sParseD [AV.str s_1] = some (AV.tup [AV.agg [AV.bool b, AV.int .u64 n_2, AV.int .u64 n_3, AV.int .u64 n_4, AV.int .u64 n_5, AV.int .i64 n_6], AV.int .i64 n_7]) ∧ ∃ (s_2 : List UInt8), sShortD [AV.agg [AV.bool n, AV.int .u64 a0, AV.int .u64 a1, AV.int .u64 a2, AV.int .u64 a3, AV.int .i64 sc]] = some (AV.str s_2) ∧ ∃ (b_1 : Bool), ∃ (n_8 : Int), ∃ (n_9 : Int), ∃ (n_10 : Int), ∃ (n_11 : Int), ∃ (n_12 : Int), ∃ (n_13 : Int), sParseAt [AV.str s_2, AV.int .i64 sc] = some (AV.tup [AV.agg [AV.bool b_1, AV.int .u64 n_8, AV.int .u64 n_9, AV.int .u64 n_10, AV.int .u64 n_11, AV.int .i64 n_12], AV.int .i64 n_13]) ∧ askB (n_7 != 0) (R (AV.bool false) [AObj.row 26 6 [AV.bool n, AV.int .u64 a0, AV.int .u64 a1, AV.int .u64 a2, AV.int .u64 a3, AV.int .i64 sc], AObj.row 26 6 [AV.bool b, AV.int .u64 n_2, AV.int .u64 n_3, AV.int .u64 n_4, AV.int .u64 n_5, AV.int .i64 n_6], AObj.row 26 6 [AV.bool b_1, AV.int .u64 n_8, AV.int .u64 n_9, AV.int .u64 n_10, AV.int .u64 n_11, AV.int .i64 n_12]]) (askB (n_13 != 0) (R (AV.bool false) [AObj.row 26 6 [AV.bool n, AV.int .u64 a0, AV.int .u64 a1, AV.int .u64 a2, AV.int .u64 a3, AV.int .i64 sc], AObj.row 26 6 [AV.bool b, AV.int .u64 n_2, AV.int .u64 n_3, AV.int .u64 n_4, AV.int .u64 n_5, AV.int .i64 n_6], AObj.row 26 6 [AV.bool b_1, AV.int .u64 n_8, AV.int .u64 n_9, AV.int .u64 n_10, AV.int .u64 n_11, AV.int .i64 n_12]]) (askB (!(b == n && (n_2 == a0 && (n_3 == a1 && (n_4 == a2 && (n_5 == a3 && true))) && (n_6 == sc && true)))) (R (AV.bool false) [AObj.row 26 6 [AV.bool n, AV.int .u64 a0, AV.int .u64 a1, AV.int .u64 a2, AV.int .u64 a3, AV.int .i64 sc], AObj.row 26 6 [AV.bool b, AV.int .u64 n_2, AV.int .u64 n_3, AV.int .u64 n_4, AV.int .u64 n_5, AV.int .i64 n_6], AObj.row 26 6 [AV.bool b_1, AV.int .u64 n_8, AV.int .u64 n_9, AV.int .u64 n_10, AV.int .u64 n_11, AV.int .i64 n_12]]) (askB (!(b_1 == n && (n_8 == a0 && (n_9 == a1 && (n_10 == a2 && (n_11 == a3 && true))) && (n_12 == sc && true)))) (R (AV.bool false) [AObj.row 26 6 [AV.bool n, AV.int .u64 a0, AV.int .u64 a1, AV.int .u64 a2, AV.int .u64 a3, AV.int .i64 sc], AObj.row 26 6 [AV.bool b, AV.int .u64 n_2, AV.int .u64 n_3, AV.int .u64 n_4, AV.int .u64 n_5, AV.int .i64 n_6], AObj.row 26 6 [AV.bool b_1, AV.int .u64 n_8, AV.int .u64 n_9, AV.int .u64 n_10, AV.int .u64 n_11, AV.int .i64 n_12]]) (∃ (b_2 : Bool), ∃ (n_14 : Int), ∃ (n_15 : Int), ∃ (n_16 : Int), ∃ (n_17 : Int), ∃ (n_18 : Int), ∃ (n_19 : Int), sParseD [AV.str s] = some (AV.tup [AV.agg [AV.bool b_2, AV.int .u64 n_14, AV.int .u64 n_15, AV.int .u64 n_16, AV.int .u64 n_17, AV.int .i64 n_18], AV.int .i64 n_19]) ∧ askB (n_19 == 0) (∃ (s_3 : List UInt8), sTextD [AV.agg [AV.bool b_2, AV.int .u64 n_14, AV.int .u64 n_15, AV.int .u64 n_16, AV.int .u64 n_17, AV.int .i64 n_18]] = some (AV.str s_3) ∧ askB (!s_3 == s) (R (AV.bool false) [AObj.row 26 6 [AV.bool n, AV.int .u64 a0, AV.int .u64 a1, AV.int .u64 a2, AV.int .u64 a3, AV.int .i64 sc], AObj.row 26 6 [AV.bool b, AV.int .u64 n_2, AV.int .u64 n_3, AV.int .u64 n_4, AV.int .u64 n_5, AV.int .i64 n_6], AObj.row 26 6 [AV.bool b_1, AV.int .u64 n_8, AV.int .u64 n_9, AV.int .u64 n_10, AV.int .u64 n_11, AV.int .i64 n_12], AObj.row 26 6 [AV.bool b_2, AV.int .u64 n_14, AV.int .u64 n_15, AV.int .u64 n_16, AV.int .u64 n_17, AV.int .i64 n_18]]) (∃ (b_3 : Bool), TbE.s { f := 8, s := sLive, r := Rs.of (Rs1.one K1.bool) } [] [AObj.row 26 6 [AV.bool n, AV.int .u64 a0, AV.int .u64 a1, AV.int .u64 a2, AV.int .u64 a3, AV.int .i64 sc], AObj.row 26 6 [AV.bool b, AV.int .u64 n_2, AV.int .u64 n_3, AV.int .u64 n_4, AV.int .u64 n_5, AV.int .i64 n_6], AObj.row 26 6 [AV.bool b_1, AV.int .u64 n_8, AV.int .u64 n_9, AV.int .u64 n_10, AV.int .u64 n_11, AV.int .i64 n_12], AObj.row 26 6 [AV.bool b_2, AV.int .u64 n_14, AV.int .u64 n_15, AV.int .u64 n_16, AV.int .u64 n_17, AV.int .i64 n_18]] = some (AV.bool b_3) ∧ askB b_3 (R (AV.bool true) [AObj.row 26 6 [AV.bool n, AV.int .u64 a0, AV.int .u64 a1, AV.int .u64 a2, AV.int .u64 a3, AV.int .i64 sc], AObj.row 26 6 [AV.bool b, AV.int .u64 n_2, AV.int .u64 n_3, AV.int .u64 n_4, AV.int .u64 n_5, AV.int .i64 n_6], AObj.row 26 6 [AV.bool b_1, AV.int .u64 n_8, AV.int .u64 n_9, AV.int .u64 n_10, AV.int .u64 n_11, AV.int .i64 n_12], AObj.row 26 6 [AV.bool b_2, AV.int .u64 n_14, AV.int .u64 n_15, AV.int .u64 n_16, AV.int .u64 n_17, AV.int .i64 n_18]]) (R (AV.bool false) [AObj.row 26 6 [AV.bool n, AV.int .u64 a0, AV.int .u64 a1, AV.int .u64 a2, AV.int .u64 a3, AV.int .i64 sc], AObj.row 26 6 [AV.bool b, AV.int .u64 n_2, AV.int .u64 n_3, AV.int .u64 n_4, AV.int .u64 n_5, AV.int .i64 n_6], AObj.row 26 6 [AV.bool b_1, AV.int .u64 n_8, AV.int .u64 n_9, AV.int .u64 n_10, AV.int .u64 n_11, AV.int .i64 n_12], AObj.row 26 6 [AV.bool b_2, AV.int .u64 n_14, AV.int .u64 n_15, AV.int .u64 n_16, AV.int .u64 n_17, AV.int .i64 n_18]]))) (∃ (b_3 : Bool), TbE.s { f := 8, s := sLive, r := Rs.of (Rs1.one K1.bool) } [] [AObj.row 26 6 [AV.bool n, AV.int .u64 a0, AV.int .u64 a1, AV.int .u64 a2, AV.int .u64 a3, AV.int .i64 sc], AObj.row 26 6 [AV.bool b, AV.int .u64 n_2, AV.int .u64 n_3, AV.int .u64 n_4, AV.int .u64 n_5, AV.int .i64 n_6], AObj.row 26 6 [AV.bool b_1, AV.int .u64 n_8, AV.int .u64 n_9, AV.int .u64 n_10, AV.int .u64 n_11, AV.int .i64 n_12], AObj.row 26 6 [AV.bool b_2, AV.int .u64 n_14, AV.int .u64 n_15, AV.int .u64 n_16, AV.int .u64 n_17, AV.int .i64 n_18]] = some (AV.bool b_3) ∧ askB b_3 (R (AV.bool true) [AObj.row 26 6 [AV.bool n, AV.int .u64 a0, AV.int .u64 a1, AV.int .u64 a2, AV.int .u64 a3, AV.int .i64 sc], AObj.row 26 6 [AV.bool b, AV.int .u64 n_2, AV.int .u64 n_3, AV.int .u64 n_4, AV.int .u64 n_5, AV.int .i64 n_6], AObj.row 26 6 [AV.bool b_1, AV.int .u64 n_8, AV.int .u64 n_9, AV.int .u64 n_10, AV.int .u64 n_11, AV.int .i64 n_12], AObj.row 26 6 [AV.bool b_2, AV.int .u64 n_14, AV.int .u64 n_15, AV.int .u64 n_16, AV.int .u64 n_17, AV.int .i64 n_18]]) (R (AV.bool false) [AObj.row 26 6 [AV.bool n, AV.int .u64 a0, AV.int .u64 a1, AV.int .u64 a2, AV.int .u64 a3, AV.int .i64 sc], AObj.row 26 6 [AV.bool b, AV.int .u64 n_2, AV.int .u64 n_3, AV.int .u64 n_4, AV.int .u64 n_5, AV.int .i64 n_6], AObj.row 26 6 [AV.bool b_1, AV.int .u64 n_8, AV.int .u64 n_9, AV.int .u64 n_10, AV.int .u64 n_11, AV.int .i64 n_12], AObj.row 26 6 [AV.bool b_2, AV.int .u64 n_14, AV.int .u64 n_15, AV.int .u64 n_16, AV.int .u64 n_17, AV.int .i64 n_18]]))))))) (∃ (b : Bool), ∃ (n_2 : Int), ∃ (n_3 : Int), ∃ (n_4 : Int), ∃ (n_5 : Int), ∃ (n_6 : Int), ∃ (n_7 : Int), sParseD [AV.str s] = some (AV.tup [AV.agg [AV.bool b, AV.int .u64 n_2, AV.int .u64 n_3, AV.int .u64 n_4, AV.int .u64 n_5, AV.int .i64 n_6], AV.int .i64 n_7]) ∧ askB (n_7 == 0) (∃ (s_1 : List UInt8), sTextD [AV.agg [AV.bool b, AV.int .u64 n_2, AV.int .u64 n_3, AV.int .u64 n_4, AV.int .u64 n_5, AV.int .i64 n_6]] = some (AV.str s_1) ∧ askB (!s_1 == s) (R (AV.bool false) [AObj.row 26 6 [AV.bool n, AV.int .u64 a0, AV.int .u64 a1, AV.int .u64 a2, AV.int .u64 a3, AV.int .i64 sc], AObj.row 26 6 [AV.bool b, AV.int .u64 n_2, AV.int .u64 n_3, AV.int .u64 n_4, AV.int .u64 n_5, AV.int .i64 n_6]]) (∃ (b_1 : Bool), TbE.s { f := 8, s := sLive, r := Rs.of (Rs1.one K1.bool) } [] [AObj.row 26 6 [AV.bool n, AV.int .u64 a0, AV.int .u64 a1, AV.int .u64 a2, AV.int .u64 a3, AV.int .i64 sc], AObj.row 26 6 [AV.bool b, AV.int .u64 n_2, AV.int .u64 n_3, AV.int .u64 n_4, AV.int .u64 n_5, AV.int .i64 n_6]] = some (AV.bool b_1) ∧ askB b_1 (R (AV.bool true) [AObj.row 26 6 [AV.bool n, AV.int .u64 a0, AV.int .u64 a1, AV.int .u64 a2, AV.int .u64 a3, AV.int .i64 sc], AObj.row 26 6 [AV.bool b, AV.int .u64 n_2, AV.int .u64 n_3, AV.int .u64 n_4, AV.int .u64 n_5, AV.int .i64 n_6]]) (R (AV.bool false) [AObj.row 26 6 [AV.bool n, AV.int .u64 a0, AV.int .u64 a1, AV.int .u64 a2, AV.int .u64 a3, AV.int .i64 sc], AObj.row 26 6 [AV.bool b, AV.int .u64 n_2, AV.int .u64 n_3, AV.int .u64 n_4, AV.int .u64 n_5, AV.int .i64 n_6]]))) (∃ (b_1 : Bool), TbE.s { f := 8, s := sLive, r := Rs.of (Rs1.one K1.bool) } [] [AObj.row 26 6 [AV.bool n, AV.int .u64 a0, AV.int .u64 a1, AV.int .u64 a2, AV.int .u64 a3, AV.int .i64 sc], AObj.row 26 6 [AV.bool b, AV.int .u64 n_2, AV.int .u64 n_3, AV.int .u64 n_4, AV.int .u64 n_5, AV.int .i64 n_6]] = some (AV.bool b_1) ∧ askB b_1 (R (AV.bool true) [AObj.row 26 6 [AV.bool n, AV.int .u64 a0, AV.int .u64 a1, AV.int .u64 a2, AV.int .u64 a3, AV.int .i64 sc], AObj.row 26 6 [AV.bool b, AV.int .u64 n_2, AV.int .u64 n_3, AV.int .u64 n_4, AV.int .u64 n_5, AV.int .i64 n_6]]) (R (AV.bool false) [AObj.row 26 6 [AV.bool n, AV.int .u64 a0, AV.int .u64 a1, AV.int .u64 a2, AV.int .u64 a3, AV.int .i64 sc], AObj.row 26 6 [AV.bool b, AV.int .u64 n_2, AV.int .u64 n_3, AV.int .u64 n_4, AV.int .u64 n_5, AV.int .i64 n_6]])))) = (wpF Tryd.prog (tbC Q tb6s (fun _ => false) kdU) 120 pz6 [(.agg [.bool n, .int .u64 a0, .int .u64 a1, .int .u64 a2, .int .u64 a3, .int .i64 sc]), .str s] [] R) := by kernel_rfl
theorem shortD_len {neg : Bool} {v k : Nat} (hv : v < 115792089237316195423570985008687907853269984665640564039457584007913129639936) (hk : k ≤ 18) : (shortD neg v k).length ≤ 99 := by
  unfold shortD
  split
  · exact textD_len hv (by omega)
  · have h1 := textD_len (neg := neg) hv hk
    have h2 := tr_len (textD neg v k)
    generalize Lib.trimRightB (textD neg v k) 48 = r at h2 ⊢
    unfold Lib.trimSuffix
    split
    · rw [List.length_take]; omega
    · omega
theorem bad_lim {neg : Bool} {v : Nat} {sc : Int} (hv : v < 115792089237316195423570985008687907853269984665640564039457584007913129639936) : badD neg ((v : Int) % 18446744073709551616) ((v : Int) / 18446744073709551616 % 18446744073709551616) ((v : Int) / 18446744073709551616 / 18446744073709551616 % 18446744073709551616) ((v : Int) / 18446744073709551616 / 18446744073709551616 / 18446744073709551616 % 18446744073709551616) sc = (decide (sc < 0) || decide (sc > 18) || (neg && decide (v = 0))) := by
  unfold badD
  rw [nz_limbs (by omega) (by omega)]
  congr 2
  rw [← decide_not]
  congr 1
  simp only [ne_eq, Decidable.not_not, eq_iff_iff]
  omega
theorem bad_false {neg : Bool} {v : Nat} {sc : Int} (hv : v < 115792089237316195423570985008687907853269984665640564039457584007913129639936) (h : badD neg ((v : Int) % 18446744073709551616) ((v : Int) / 18446744073709551616 % 18446744073709551616) ((v : Int) / 18446744073709551616 / 18446744073709551616 % 18446744073709551616) ((v : Int) / 18446744073709551616 / 18446744073709551616 / 18446744073709551616 % 18446744073709551616) sc = false) : ∃ k : Nat, sc = k ∧ k ≤ 18 ∧ (neg = true → v ≠ 0) := by
  rw [bad_lim hv] at h
  simp only [Bool.or_eq_false_iff, decide_eq_false_iff_not, Bool.and_eq_false_iff] at h
  obtain ⟨⟨h1, h2⟩, h3⟩ := h
  refine ⟨sc.toNat, by omega, by omega, fun e => ?_⟩
  rcases h3 with h3 | h3
  · rw [e] at h3; cases h3
  · exact h3
theorem bad_mk {neg : Bool} {v k : Nat} (hv : v < 115792089237316195423570985008687907853269984665640564039457584007913129639936) (hk : k ≤ 18) (hn : neg = true → v ≠ 0) : badD neg ((v : Int) % 18446744073709551616) ((v : Int) / 18446744073709551616 % 18446744073709551616) ((v : Int) / 18446744073709551616 / 18446744073709551616 % 18446744073709551616) ((v : Int) / 18446744073709551616 / 18446744073709551616 / 18446744073709551616 % 18446744073709551616) (k : Int) = false := by
  rw [bad_lim hv]
  rw [decide_eq_false (by omega), decide_eq_false (by omega)]
  cases neg
  · rfl
  · rw [decide_eq_false (hn rfl)]; rfl
theorem num_lim {v : Nat} (hv : v < 115792089237316195423570985008687907853269984665640564039457584007913129639936) : (num4 ((v : Int) % 18446744073709551616) ((v : Int) / 18446744073709551616 % 18446744073709551616) ((v : Int) / 18446744073709551616 / 18446744073709551616 % 18446744073709551616) ((v : Int) / 18446744073709551616 / 18446744073709551616 / 18446744073709551616 % 18446744073709551616)).toNat = v := by
  rw [num_limbs (by omega) (by omega), Int.toNat_natCast]
theorem textV_at {neg : Bool} {v k : Nat} (hv : v < 115792089237316195423570985008687907853269984665640564039457584007913129639936) (hk : k ≤ 18) (hn : neg = true → v ≠ 0) : sTextD [.agg [.bool neg, .int .u64 ((v : Int) % 18446744073709551616), .int .u64 ((v : Int) / 18446744073709551616 % 18446744073709551616), .int .u64 ((v : Int) / 18446744073709551616 / 18446744073709551616 % 18446744073709551616), .int .u64 ((v : Int) / 18446744073709551616 / 18446744073709551616 / 18446744073709551616 % 18446744073709551616), .int .i64 (k : Int)]] = some (.str (textD neg v k)) := by
  rw [textD_at (u64_limbs _), bad_mk hv hk hn, num_lim hv, Int.toNat_natCast]; rfl
theorem shortV_at {neg : Bool} {v k : Nat} (hv : v < 115792089237316195423570985008687907853269984665640564039457584007913129639936) (hk : k ≤ 18) (hn : neg = true → v ≠ 0) : sShortD [.agg [.bool neg, .int .u64 ((v : Int) % 18446744073709551616), .int .u64 ((v : Int) / 18446744073709551616 % 18446744073709551616), .int .u64 ((v : Int) / 18446744073709551616 / 18446744073709551616 % 18446744073709551616), .int .u64 ((v : Int) / 18446744073709551616 / 18446744073709551616 / 18446744073709551616 % 18446744073709551616), .int .i64 (k : Int)]] = some (.str (shortD neg v k)) := by
  rw [shortD_at (u64_limbs _), bad_mk hv hk hn, num_lim hv, Int.toNat_natCast]; rfl
theorem parseT_at {neg : Bool} {v k : Nat} (hv : v < 115792089237316195423570985008687907853269984665640564039457584007913129639936) (hk : k ≤ 18) (hn : neg = true → v ≠ 0) : sParseD [.str (textD neg v k)] = some (.tup [.agg [.bool neg, .int .u64 ((v : Int) % 18446744073709551616), .int .u64 ((v : Int) / 18446744073709551616 % 18446744073709551616), .int .u64 ((v : Int) / 18446744073709551616 / 18446744073709551616 % 18446744073709551616), .int .u64 ((v : Int) / 18446744073709551616 / 18446744073709551616 / 18446744073709551616 % 18446744073709551616), .int .i64 (k : Int)], .int .i64 0]) := by
  have hl := textD_len (neg := neg) hv hk
  rw [parseD_at (by omega), text_says hn hv hk]; rfl
theorem parseS_at {neg : Bool} {v k : Nat} (hv : v < 115792089237316195423570985008687907853269984665640564039457584007913129639936) (hk : k ≤ 18) (hn : neg = true → v ≠ 0) : sParseAt [.str (shortD neg v k), .int .i64 (k : Int)] = some (.tup [.agg [.bool neg, .int .u64 ((v : Int) % 18446744073709551616), .int .u64 ((v : Int) / 18446744073709551616 % 18446744073709551616), .int .u64 ((v : Int) / 18446744073709551616 / 18446744073709551616 % 18446744073709551616), .int .u64 ((v : Int) / 18446744073709551616 / 18446744073709551616 / 18446744073709551616 % 18446744073709551616), .int .i64 (k : Int)], .int .i64 0]) := by
  have hl := shortD_len (neg := neg) hv hk
  have : sParseAt [.str (shortD neg v k), .int .i64 (k : Int)] = some (parseAtX (shortD neg v k) k) := if_pos (by omega)
  rw [this, short_at hn hv hk]; rfl
theorem tb6s_ok : (tbS Q tb6s).OK Tryd.prog := tbS_ok quietText (by
  intro x hx
  simp only [tb6s, List.mem_cons, List.not_mem_nil, or_false] at hx
  rcases hx with rfl | rfl | rfl | rfl | rfl | rfl
  · exact refCheck_ok
  · exact textD9_ok
  · exact parse_dec_ok
  · exact shortD11_ok
  · exact parseAt_ok
  · exact live_ok)
theorem back_run (neg : Bool) (a0 a1 a2 a3 sc : Int) (hs : u64s a0 a1 a2 a3 = true) (s : List UInt8) (hl : s.length ≤ 1048577) : ∃ h', CallSem Tryd.prog 6 [.agg [.bool neg, .int .u64 a0, .int .u64 a1, .int .u64 a2, .int .u64 a3, .int .i64 sc], .str s] [] (.bool true) h' := by
  obtain ⟨v, hv, e1, e2, e3⟩ := num_nat hs
  obtain ⟨rfl, rfl, rfl, rfl⟩ := limbs_eq e3
  clear e1 e2 e3 hs
  obtain ⟨p1, hp1⟩ : ∃ x, x = (parseD s).1 := ⟨_, rfl⟩
  obtain ⟨w, hw⟩ : ∃ x, x = (parseD s).2.1 := ⟨_, rfl⟩
  obtain ⟨j, hj⟩ : ∃ x, x = (parseD s).2.2.1 := ⟨_, rfl⟩
  obtain ⟨er, her⟩ : ∃ x, x = (parseD s).2.2.2 := ⟨_, rfl⟩
  have hP : sParseD [.str s] = some (.tup [.agg [.bool p1, .int .u64 (w % 18446744073709551616), .int .u64 (w / 18446744073709551616 % 18446744073709551616), .int .u64 (w / 18446744073709551616 / 18446744073709551616 % 18446744073709551616), .int .u64 (w / 18446744073709551616 / 18446744073709551616 / 18446744073709551616 % 18446744073709551616), .int .i64 j], .int .i64 er]) := by
    rw [parseD_at hl, hp1, hw, hj, her]; rfl
  have hT : er = 0 → sTextD [.agg [.bool p1, .int .u64 (w % 18446744073709551616), .int .u64 (w / 18446744073709551616 % 18446744073709551616), .int .u64 (w / 18446744073709551616 / 18446744073709551616 % 18446744073709551616), .int .u64 (w / 18446744073709551616 / 18446744073709551616 / 18446744073709551616 % 18446744073709551616), .int .i64 j]] = some (.str s) := fun h0 => by
    obtain ⟨t1, t2, t3, t4, t5, t6⟩ := text_of (s := s) (by rw [← her]; exact h0)
    rw [← hp1, ← hw, ← hj] at t1
    rw [← hw] at t2 t4
    rw [← hp1, ← hw] at t3
    rw [← hj] at t5 t6
    obtain ⟨w, rfl⟩ : ∃ n : Nat, w = n := ⟨w.toNat, by omega⟩
    obtain ⟨j, rfl⟩ : ∃ n : Nat, j = n := ⟨j.toNat, by omega⟩
    rw [Int.toNat_natCast] at t1 t2 t3
    rw [Int.toNat_natCast] at t1
    rw [textV_at t2 (by omega) t3, t1]
  obtain ⟨u, h', rfl, hsem⟩ := sem_vc mixed (C := tbC Q tb6s (fun _ => false) kdU) tb6s_ok (tbS_q _ _) (tbW_ok rfl) htz6 cz6 (no_parts rfl) (v6s neg _ _ _ _ sc s fun u _ => u = .bool true) (by
    cases hb : badD neg ((v : Int) % 18446744073709551616) ((v : Int) / 18446744073709551616 % 18446744073709551616) ((v : Int) / 18446744073709551616 / 18446744073709551616 % 18446744073709551616) ((v : Int) / 18446744073709551616 / 18446744073709551616 / 18446744073709551616 % 18446744073709551616) sc with
    | true =>
      rw [bad_yes hb]
      refine ⟨_, rfl, askF rfl ⟨p1, w % 18446744073709551616, w / 18446744073709551616 % 18446744073709551616, w / 18446744073709551616 / 18446744073709551616 % 18446744073709551616, w / 18446744073709551616 / 18446744073709551616 / 18446744073709551616 % 18446744073709551616, j, er, by (try dsimp only); exact hP, askI (fun g => ?_) fun g => ?_⟩⟩
      · rw [beq_iff_eq] at g
        exact ⟨s, by (try dsimp only); exact hT g, askF (by simp) ⟨true, by (try dsimp only); exact live_at _, askT rfl rfl⟩⟩
      · exact ⟨true, by (try dsimp only); exact live_at _, askT rfl rfl⟩
    | false =>
      rw [bad_no hb]
      obtain ⟨k, rfl, hk, hn⟩ := bad_false hv hb
      refine ⟨_, rfl, askT rfl ⟨textD neg v k, by (try dsimp only); exact textV_at hv hk hn, neg, (v : Int) % 18446744073709551616, (v : Int) / 18446744073709551616 % 18446744073709551616, (v : Int) / 18446744073709551616 / 18446744073709551616 % 18446744073709551616, (v : Int) / 18446744073709551616 / 18446744073709551616 / 18446744073709551616 % 18446744073709551616, (k : Int), 0, by (try dsimp only); exact parseT_at hv hk hn, shortD neg v k, by (try dsimp only); exact shortV_at hv hk hn, neg, (v : Int) % 18446744073709551616, (v : Int) / 18446744073709551616 % 18446744073709551616, (v : Int) / 18446744073709551616 / 18446744073709551616 % 18446744073709551616, (v : Int) / 18446744073709551616 / 18446744073709551616 / 18446744073709551616 % 18446744073709551616, (k : Int), 0, by (try dsimp only); exact parseS_at hv hk hn, askF rfl (askF rfl (askF (by simp) (askF (by simp) ?_)))⟩⟩
      refine ⟨p1, w % 18446744073709551616, w / 18446744073709551616 % 18446744073709551616, w / 18446744073709551616 / 18446744073709551616 % 18446744073709551616, w / 18446744073709551616 / 18446744073709551616 / 18446744073709551616 % 18446744073709551616, j, er, by (try dsimp only); exact hP, askI (fun g => ?_) fun g => ?_⟩
      · rw [beq_iff_eq] at g
        exact ⟨s, by (try dsimp only); exact hT g, askF (by simp) ⟨true, by (try dsimp only); exact live_at _, askT rfl rfl⟩⟩
      · exact ⟨true, by (try dsimp only); exact live_at _, askT rfl rfl⟩)
  exact ⟨h', hsem⟩
theorem cells26 : Tryd.prog.cellsOf 26 = 6 := by kernel_rfl
theorem cells24 : Tryd.prog.cellsOf 24 = 4 := by kernel_rfl
theorem cells22 : Tryd.prog.cellsOf 22 = 1 := by kernel_rfl
theorem cells4 : Tryd.prog.cellsOf 4 = 1 := by kernel_rfl
theorem cells3 : Tryd.prog.cellsOf 3 = 1 := by kernel_rfl
section
variable {H : Type} {enc : TypeId × Value → H} {w : World} {base : Nat} {spare : Nat → Bool} {held : Bool} {fuel : Nat} {cs : List Value} {x : DataW H × List MemPlace}
theorem fld {fs : Array Field} {n : Nat} {xs : List (DataW H × List MemPlace)} (hf : ∀ (i : Nat) (f : Field), fs[i]? = some f → DataW.trod enc Tryd.prog w base spare held n f.type ((cs.drop f.offset).take (Tryd.prog.cellsOf f.type)) = xs[i]?)
    (i : Nat) {t off : Nat} (h : (fs[i]?).map (fun f => (f.type, f.offset)) = some (t, off)) {k : Nat} (hc : Tryd.prog.cellsOf t = k) : DataW.trod enc Tryd.prog w base spare held n t ((cs.drop off).take k) = xs[i]? := by
  simp only [Option.map_eq_some_iff, Prod.mk.injEq] at h
  obtain ⟨f, h1, rfl, rfl⟩ := h
  rw [← hc]
  exact hf i f h1
theorem u64_wf {n : Int} (h : (Lit.int .u64 n).wf = true) : u64B n = true := by
  unfold Lit.wf at h
  simp only [Bool.and_eq_true, decide_eq_true_eq] at h
  have h1 : (0 : Int) ≤ n := h.1
  have h2 : n ≤ 18446744073709551615 := h.2
  unfold u64B
  simp only [Bool.and_eq_true, decide_eq_true_eq]; omega
theorem open_dec (h : DataW.trod enc Tryd.prog w base spare held fuel 26 cs = some x) : ∃ (neg : Bool) (a0 a1 a2 a3 sc : Int), cs = [.bool neg, .int .u64 a0, .int .u64 a1, .int .u64 a2, .int .u64 a3, .int .i64 sc] ∧ u64s a0 a1 a2 a3 = true := by
  obtain ⟨xs, n, rfl, rfl, hl, hx, hf⟩ := DataW.trod_struct Tryd.underlying26 h
  rw [cells26] at hl
  obtain ⟨v0, v1, v2, v3, v4, v5, rfl⟩ : ∃ v0 v1 v2 v3 v4 v5, cs = [v0, v1, v2, v3, v4, v5] := by
    match cs, hl with
    | [v0, v1, v2, v3, v4, v5], _ => exact ⟨_, _, _, _, _, _, rfl⟩
  obtain ⟨y0, y1, y2, rfl⟩ : ∃ y0 y1 y2, xs = [y0, y1, y2] := by
    match xs, hx with
    | [y0, y1, y2], _ => exact ⟨_, _, _, rfl⟩
  have h0 : DataW.trod enc Tryd.prog w base spare held n 4 [v0] = some y0 := fld hf 0 rfl cells4
  have h1 : DataW.trod enc Tryd.prog w base spare held n 24 [v1, v2, v3, v4] = some y1 := fld hf 1 rfl cells24
  have h2 : DataW.trod enc Tryd.prog w base spare held n 3 [v5] = some y2 := fld hf 2 rfl cells3
  obtain ⟨neg, e0, -⟩ := DataW.trod_bool Tryd.underlying4 h0
  obtain ⟨sc, e5, -, -⟩ := DataW.trod_int Tryd.underlying3 h2
  obtain ⟨ys, m, -, -, -, hy, hg⟩ := DataW.trod_array Tryd.underlying24 h1
  rw [cells22] at hg
  obtain ⟨z0, z1, z2, z3, rfl⟩ : ∃ z0 z1 z2 z3, ys = [z0, z1, z2, z3] := by
    match ys, hy with
    | [z0, z1, z2, z3], _ => exact ⟨_, _, _, _, rfl⟩
  have g0 : DataW.trod enc Tryd.prog w base spare held m 22 [v1] = some z0 := hg 0 (by omega)
  have g1 : DataW.trod enc Tryd.prog w base spare held m 22 [v2] = some z1 := hg 1 (by omega)
  have g2 : DataW.trod enc Tryd.prog w base spare held m 22 [v3] = some z2 := hg 2 (by omega)
  have g3 : DataW.trod enc Tryd.prog w base spare held m 22 [v4] = some z3 := hg 3 (by omega)
  obtain ⟨a, e1, -, w1⟩ := DataW.trod_int Tryd.underlying22 g0
  obtain ⟨b, e2, -, w2⟩ := DataW.trod_int Tryd.underlying22 g1
  obtain ⟨c, e3, -, w3⟩ := DataW.trod_int Tryd.underlying22 g2
  obtain ⟨d, e4, -, w4⟩ := DataW.trod_int Tryd.underlying22 g3
  simp only [List.cons.injEq, and_true] at e0 e1 e2 e3 e4 e5
  subst e0 e1 e2 e3 e4 e5
  refine ⟨neg, a, b, c, d, sc, rfl, ?_⟩
  unfold u64s
  rw [u64_wf w1, u64_wf w2, u64_wf w3, u64_wf w4]; rfl
theorem open_decA {v : Value} {d : DataW H} {ps : List MemPlace} (hval : Value.okWide Tryd.prog w .any base 26 v) (hd : DataW.Trod enc Tryd.prog w 0 spare held 26 v d ps) : ∃ (neg : Bool) (a0 a1 a2 a3 sc : Int), v = .agg #[.bool neg, .int .u64 a0, .int .u64 a1, .int .u64 a2, .int .u64 a3, .int .i64 sc] ∧ u64s a0 a1 a2 a3 = true := by
  obtain ⟨cs, rfl, -⟩ := okWide_struct Tryd.underlying26 hval
  obtain ⟨f0, t0⟩ := hd
  obtain ⟨l, rfl⟩ : ∃ l, cs = ⟨l⟩ := ⟨cs.toList, rfl⟩
  obtain ⟨neg, a0, a1, a2, a3, sc, e, hu⟩ := open_dec t0
  have e' : l = _ := e
  subst e'
  exact ⟨neg, a0, a1, a2, a3, sc, rfl, hu⟩
end

end Go.Proofs.YtddalcnajejibaaDoor
