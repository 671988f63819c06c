/- Hex of both sides, as contracts. -/
import Derived.Test.YtiijphmpkmmpjaaShaTb
namespace Go.Proofs.Ytiijphmpkmmpjaa
open Go Go.Am
set_option maxRecDepth 100000
set_option linter.unusedVariables false
set_option linter.unusedSimpArgs false

def tbl : List UInt8 := [48, 49, 50, 51, 52, 53, 54, 55, 56, 57, 97, 98, 99, 100, 101, 102]
def dgE (n : Int) : UInt8 := byteD (.int .u8 ((tbl.getD n.toNat 0).toNat : Nat))
def hexV (f : Nat → Int) : List UInt8 := (List.range 32).flatMap fun i => [dgE (IntKind.u8.wrap ((f i).tdiv 16)), dgE ((f i).tmod 16)]
def g2 (f : Nat → Int) (i : Nat) : List Bool := [decide (0 ≤ IntKind.u8.wrap ((f i).tdiv 16)), decide ((IntKind.u8.wrap ((f i).tdiv 16)).toNat < tbl.length)]
def g3 (f : Nat → Int) (i : Nat) : List Bool := [decide (0 ≤ (f i).tmod 16), decide (((f i).tmod 16).toNat < tbl.length)]
def tr (n : Nat) : List Bool := List.replicate n true
def con25 (f : Nat → Int) : List Bool := (g2 f 0 ++ g3 f 0) ++ (List.range 31).flatMap (fun i => g2 f (i + 1) ++ g3 f (i + 1) ++ tr 7) ++ tr 2
def con26 (f : Nat → Int) : List Bool := (List.range 32).flatMap fun i => tr 2 ++ g2 f i ++ tr 2 ++ g3 f i ++ tr 2
theorem hex25 (f : Nat → Int) : (runV Try.prog S0 (fun _ => none) noCV (fun _ => []) 100 p25 [.agg (ints .u8 32 f)] [] (List.replicate 33 .lit)).map (fun r => (r.1.1, r.2)) = some (.str (hexV f), con25 f) := by kernel_rfl
/-- All are bytes. -/
def inB (f : Nat → Int) : Bool := (List.range 32).all fun i => decide (0 ≤ f i) && decide (f i < 256)
theorem inB_at {f : Nat → Int} (h : inB f = true) {i : Nat} (hi : i < 32) : 0 ≤ f i ∧ f i < 256 := by
  have := List.all_eq_true.1 h i (List.mem_range.2 hi)
  simpa using this
theorem q16 {n : Int} (h : 0 ≤ n ∧ n < 256) : IntKind.u8.wrap (n.tdiv 16) = n / 16 ∧ n.tmod 16 = n % 16 := by
  rw [Int.tdiv_eq_ediv_of_nonneg h.1, Int.tmod_eq_emod_of_nonneg h.1, wu8]
  omega
theorem g2_ok {f : Nat → Int} (h : inB f = true) {i : Nat} (hi : i < 32) : (g2 f i).all id = true := by
  have := inB_at h hi
  obtain ⟨h1, h2⟩ := q16 this
  simp only [g2, h1, tbl, List.all_cons, List.all_nil, id, Bool.and_true, Bool.and_eq_true, decide_eq_true_eq, List.length_cons, List.length_nil]
  omega
theorem g3_ok {f : Nat → Int} (h : inB f = true) {i : Nat} (hi : i < 32) : (g3 f i).all id = true := by
  have := inB_at h hi
  obtain ⟨h1, h2⟩ := q16 this
  simp only [g3, h2, tbl, List.all_cons, List.all_nil, id, Bool.and_true, Bool.and_eq_true, decide_eq_true_eq, List.length_cons, List.length_nil]
  omega
theorem tr_ok (n : Nat) : (tr n).all id = true := by simp [tr]
theorem con25_ok {f : Nat → Int} (h : inB f = true) : (con25 f).all id = true := by
  simp only [con25, List.all_append, Bool.and_eq_true]
  refine ⟨⟨⟨g2_ok h (by omega), g3_ok h (by omega)⟩, ?_⟩, tr_ok _⟩
  rw [List.all_flatMap, List.all_eq_true]
  intro i hi
  have := List.mem_range.1 hi
  simp only [List.all_append, Bool.and_eq_true]
  exact ⟨⟨g2_ok h (by omega), g3_ok h (by omega)⟩, tr_ok _⟩
theorem con26_ok {f : Nat → Int} (h : inB f = true) : (con26 f).all id = true := by
  simp only [con26]
  rw [List.all_flatMap, List.all_eq_true]
  intro i hi
  have := List.mem_range.1 hi
  simp only [List.all_append, Bool.and_eq_true]
  exact ⟨⟨⟨⟨tr_ok _, g2_ok h this⟩, tr_ok _⟩, g3_ok h this⟩, tr_ok _⟩
def hexS : List AV → Option AV
  | [.agg cs] => if isInts .u8 32 cs && inB (dec cs) then some (.str (hexV (dec cs))) else none
  | _ => none
/-- The same with what it asks. -/
def hexC (args : List AV) (h : AHeap) : Option ((AV × AHeap) × List Bool) := match args with
  | [.agg cs] => some ((.str (hexV (dec cs)), h), [isInts .u8 32 cs, inB (dec cs)])
  | _ => none
theorem hex25_ok : QuietOK Try.prog 25 fun args _ => hexS args := quiet_of_plain mixed S0_ok ht25 fun args v hv => by
  unfold hexS at hv
  split at hv
  · rename_i cs
    split at hv
    · rename_i hc
      cases hv
      simp only [Bool.and_eq_true] at hc
      obtain ⟨h1, h2⟩ := hc
      have e := ints_dec h1
      have h := hex25 (dec cs)
      rw [← e] at h
      simp only [Option.map_eq_some_iff] at h
      obtain ⟨⟨⟨v1, hp⟩, cl⟩, h3, h4⟩ := h
      simp only [Prod.mk.injEq] at h4
      obtain ⟨rfl, rfl⟩ := h4
      refine ⟨?_, rfl, _, _, _, runF_sound S0_q c25 (runV_ok _ _ _ _ (noCV_ok _) h3 (con25_ok h2))⟩
      rw [e]
      kernel_rfl
    · cases hv
  · cases hv
end Go.Proofs.Ytiijphmpkmmpjaa
