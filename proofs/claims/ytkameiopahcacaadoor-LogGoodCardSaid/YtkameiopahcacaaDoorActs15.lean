/- (layer 15) The row's argument '[]Act', opened: the calls as data. Condition: it reads (DataW.trod). -/
import Derived.Test.YtkameiopahcacaaDoorDskCopy
import Derived.Test.YtkameiopahcacaaDoorEqBy
import Derived.ProofKit
import Derived.OpenShut
import Derived.ShutString
import Derived.ChangeOld
import Derived.Below
import Derived.Deep.Slices
import Derived.Lib.SmallJoins
set_option linter.unusedVariables false
set_option linter.unusedSimpArgs false
namespace Go.Proofs.YtkameiopahcacaaDoor
open Go.RowKit Go.ChangeShapes Go.WideShapes Go.Deep

instance : Inhabited DAct := ⟨⟨0, 0, 0, none, 0, 0, []⟩⟩

theorem act_bounds {n : Int} (h : (Lit.int .i64 n).wf = true) : -9223372036854775808 ≤ n ∧ n ≤ 9223372036854775807 := by
  have := bounds_i64 h
  omega

section
variable {H : Type} {enc : TypeId × Value → H} {w : World}

theorem open_bytes15 {fuel : Nat} {v : Value} {x : DataW H × List MemPlace} (h : DataW.trod enc Tryd.prog w 0 (fun _ => true) true fuel 38 [v] = some x) :
    ∃ A n c b, v = .slice A n c ∧ b.length = n ∧ Rd w A n c (B8 b) ∧ (∀ ad, A = some ad → b ≠ [] → ad.block < w.heap.size) ∧ IsB b := by
  rcases open_ints Tryd.underlying38 Tryd.underlying5 (by kernel_rfl) h with ⟨hcs, _⟩ | ⟨x, l, c, zs, hcs, _, hl, hm, hz, _, hcell, hwz⟩
  · simp only [List.cons.injEq, and_true] at hcs
    exact ⟨none, 0, 0, [], hcs, rfl, Rd.nil w, fun _ h => by simp at h, fun c hc => by simp at hc⟩
  · simp only [List.cons.injEq, and_true] at hcs
    simp only [if_true] at hz
    have hlen : (zs.take l).length = l := by rw [List.length_take]; omega
    refine ⟨some x, l, c, zs.take l, hcs, hlen, ⟨hl, hm, by simp, ?_⟩, ?_, fun z hz => bounds_u8 (hwz z (List.mem_of_mem_take hz))⟩
    · intro ad ha j u hu
      simp only [Option.some.injEq] at ha
      subst ha
      have hj : j < l := by
        have := (List.getElem?_eq_some_iff.1 hu).1
        simpa [hlen] using this
      have := hcell j (by omega)
      rw [this]
      rw [← hu]
      simp [B8, hj, List.getD_eq_getElem?_getD, show j < zs.length by omega]
    · intro ad ha hne
      simp only [Option.some.injEq] at ha
      subst ha
      have hp : 0 < zs.length := by
        cases zs with
        | nil => simp at hne
        | cons z zs => simp
      have := World.block_lt_of_cell? w _ (hcell 0 hp)
      rwa [add_block] at this

theorem list4 {α : Type} {l : List α} (h : l.length = 4) : ∃ a b c d, l = [a, b, c, d] := by
  match l, h with
  | [a, b, c, d], _ => exact ⟨a, b, c, d, rfl⟩

theorem open_act {fuel : Nat} {cs : List Value} {x : DataW H × List MemPlace} (h : DataW.trod enc Tryd.prog w 0 (fun _ => true) true fuel 56 cs = some x) :
    ∃ a : DAct, cs = a.cells ∧ a.Ok w w.heap.size ∧ IsB a.b := by
  obtain ⟨y0, y1, y2, y3, n, _, hl, h0, h1, h2, h3⟩ := Go.Joins.trod_struct4 Tryd.underlying56 h
  have c4 : Tryd.prog.cellsOf 56 = 4 := by kernel_rfl
  have c1 : Tryd.prog.cellsOf 3 = 1 := by kernel_rfl
  have c2 : Tryd.prog.cellsOf 38 = 1 := by kernel_rfl
  rw [c4] at hl
  obtain ⟨v0, v1, v2, v3, rfl⟩ := list4 hl
  simp only [c1, c2, List.drop_zero, List.drop_succ_cons, List.take_succ_cons, List.take_zero] at h0 h1 h2 h3
  obtain ⟨m0, e0, _, w0⟩ := DataW.trod_int Tryd.underlying3 h0
  obtain ⟨m1, e1, _, w1⟩ := DataW.trod_int Tryd.underlying3 h1
  obtain ⟨m2, e2, _, w2⟩ := DataW.trod_int Tryd.underlying3 h2
  obtain ⟨A, l, c, b, e3, hb, hrd, hlow, hbb⟩ := open_bytes15 h3
  simp only [List.cons.injEq, and_true] at e0 e1 e2
  subst e0; subst e1; subst e2; subst e3
  exact ⟨⟨m0, m1, m2, A, l, c, b⟩, rfl, ⟨act_bounds w0, act_bounds w1, act_bounds w2, hb, hrd, hlow⟩, hbb⟩

theorem rd_of_cells {w : World} {ad : Addr} {n c : Nat} {l : List DAct} (hl : l.length = n) (hc : n ≤ c) (hm : c ≤ maxLen)
    (h : ∀ i (hi : i < l.length) j, j < 4 → w.cell? (ad.add (i * 4 + j)) = l[i].cells[j]?) : Rd w (some ad) n c (actCells l) := by
  refine ⟨hc, hm, by simp, ?_⟩
  intro ad' ha j u hu
  simp only [Option.some.injEq] at ha
  subst ha
  have hj : j < l.length * 4 := by
    have := (List.getElem?_eq_some_iff.1 hu).1
    rwa [actCells_length] at this
  have hi : j / 4 < l.length := by omega
  have h4 : j % 4 < 4 := by omega
  have e : j / 4 * 4 + j % 4 = j := by omega
  have := h (j / 4) hi (j % 4) h4
  rw [e] at this
  rw [this]
  have h5 := actCells_at l (j / 4) (j % 4) hi h4
  rw [e] at h5
  rw [← h5, hu]

/-- The calls l lie in memory. -/
def IsActs (w : World) (A : Option Addr) (n c : Nat) (l : List DAct) : Prop :=
  l.length = n ∧ Rd w A n c (actCells l) ∧ (∀ ad, A = some ad → actCells l ≠ [] → ad.block < w.heap.size) ∧ ∀ a ∈ l, a.Ok w w.heap.size ∧ IsB a.b

theorem open_acts {v : Value} {d : DataW H} {p : List MemPlace} (h : DataW.Trod enc Tryd.prog w 0 (fun _ => true) true 46 v d p) {A : Option Addr} {n c : Nat} (hv : v = .slice A n c) :
    ∃ l : List DAct, IsActs w A n c l := by
  subst hv
  obtain ⟨fuel, hf⟩ := h
  have c4 : Tryd.prog.cellsOf 56 = 4 := by kernel_rfl
  rcases open_slice Tryd.underlying46 hf with ⟨hcs, _⟩ | ⟨ad, len, cap, m, k, D, Pl, hcs, _, hl, hm, hmm, _, hx⟩
  · simp [Value.cells] at hcs
    obtain ⟨rfl, rfl, rfl⟩ := hcs
    exact ⟨[], rfl, Rd.nil w, fun _ h => by simp at h, fun a ha => by simp at ha⟩
  · simp [Value.cells] at hcs
    obtain ⟨rfl, rfl, rfl⟩ := hcs
    simp only [if_true] at hmm
    subst hmm
    rw [c4] at hx
    obtain ⟨F, hF⟩ := choose_lt (α := DAct) (n := n) (p := fun i a => (∀ j, j < 4 → w.cell? (ad.add (i * 4 + j)) = a.cells[j]?) ∧ a.Ok w w.heap.size ∧ IsB a.b) (fun i hi => by
      obtain ⟨cs', h1, h2⟩ := hx i (by omega)
      obtain ⟨a, rfl, ha⟩ := open_act h2
      obtain ⟨_, _, h3⟩ := World.cells?_some h1
      exact ⟨a, fun j hj => by rw [← h3 j hj, Addr.add_add], ha⟩)
    have hlen : ((List.range n).map F).length = n := by simp
    refine ⟨(List.range n).map F, hlen, rd_of_cells hlen hl hm ?_, ?_, ?_⟩
    · intro i hi j hj
      rw [hlen] at hi
      have := (hF i hi).1 j hj
      simpa using this
    · intro ad' ha hne
      simp only [Option.some.injEq] at ha
      subst ha
      have hp : 0 < n := by
        cases n with
        | zero => simp [actCells] at hne
        | succ n => omega
      have := (hF 0 hp).1 0 (by omega)
      have := World.block_lt_of_cell? w _ (u := .int .i64 (F 0).what) this
      rwa [add_block] at this
    · intro a ha
      simp only [List.mem_map, List.mem_range] at ha
      obtain ⟨i, hi, rfl⟩ := ha
      exact (hF i hi).2
end

end Go.Proofs.YtkameiopahcacaaDoor
