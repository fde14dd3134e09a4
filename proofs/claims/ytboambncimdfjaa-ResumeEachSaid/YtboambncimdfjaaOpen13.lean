/- The rows' arguments of layer 13, opened: what is had, what is told, as data. Condition: it reads (DataW.trod). -/
import Derived.Test.YtboambncimdfjaaRes13
import Derived.ProofKit
import Derived.OpenShut
import Derived.ShutString
import Derived.ChangeOld
import Derived.Below
import Derived.Deep.Slices
import Derived.Lib.SmallJoins
set_option linter.unusedVariables false
set_option linter.unusedSimpArgs false
namespace Go.Proofs.Ytboambncimdfjaa
open Go.RowKit Go.ChangeShapes Go.WideShapes Go.Deep

instance : Inhabited Hv := ⟨⟨0, 0, 0, false⟩⟩

section
variable {H : Type} {enc : TypeId × Value → H} {w : World}

theorem list4h {α : Type} {l : List α} (h : l.length = 4) : ∃ a b c d, l = [a, b, c, d] := by
  match l, h with
  | [a, b, c, d], _ => exact ⟨a, b, c, d, rfl⟩

theorem open_have {fuel : Nat} {cs : List Value} {x : DataW H × List MemPlace} (h : DataW.trod enc Try.prog w 0 (fun _ => true) true fuel 35 cs = some x) :
    ∃ a : Hv, cs = a.cells ∧ a.ok := by
  obtain ⟨y0, y1, y2, y3, n, _, hl, h0, h1, h2, h3⟩ := Go.Joins.trod_struct4 Try.underlying35 h
  have c4 : Try.prog.cellsOf 35 = 4 := by kernel_rfl
  have c1 : Try.prog.cellsOf 24 = 1 := by kernel_rfl
  have c2 : Try.prog.cellsOf 4 = 1 := by kernel_rfl
  rw [c4] at hl
  obtain ⟨v0, v1, v2, v3, rfl⟩ := list4h hl
  simp only [c1, c2, List.drop_zero, List.drop_succ_cons, List.take_succ_cons, List.take_zero] at h0 h1 h2 h3
  obtain ⟨m0, e0, _, w0⟩ := DataW.trod_int Try.underlying24 h0
  obtain ⟨m1, e1, _, w1⟩ := DataW.trod_int Try.underlying24 h1
  obtain ⟨m2, e2, _, w2⟩ := DataW.trod_int Try.underlying24 h2
  obtain ⟨b, e3, _⟩ := DataW.trod_bool Try.underlying4 h3
  simp only [List.cons.injEq, and_true] at e0 e1 e2 e3
  subst e0; subst e1; subst e2; subst e3
  have q0 := bounds_u32 w0
  have q1 := bounds_u32 w1
  have q2 := bounds_u32 w2
  exact ⟨⟨m0, m1, m2, b⟩, rfl, ⟨q0.1, by simp only; omega, q1.1, by simp only; omega, q2.1, by simp only; omega⟩⟩

theorem rd_of_hv {w : World} {ad : Addr} {n c : Nat} {l : List Hv} (hl : l.length = n) (hc : n ≤ c) (hm : c ≤ maxLen)
    (h : ∀ i (hi : i < l.length) j, j < 4 → w.cell? (ad.add (i * 4 + j)) = l[i].cells[j]?) : Rd w (some ad) n c (hvCells l) := by
  refine ⟨hc, hm, by simp, ?_⟩
  intro ad' ha j u hu
  simp only [Option.some.injEq] at ha
  subst ha
  have hj : j < l.length * 4 := by
    have := (List.getElem?_eq_some_iff.1 hu).1
    rwa [hvCells_length] at this
  have hi : j / 4 < l.length := by omega
  have h4 : j % 4 < 4 := by omega
  have e : j / 4 * 4 + j % 4 = j := by omega
  have := h (j / 4) hi (j % 4) h4
  rw [e] at this
  rw [this]
  have h5 := hvCells_at l (j / 4) (j % 4) hi h4
  rw [e] at h5
  rw [← h5, hu]

/-- What is had lies in memory. -/
def IsHaves (w : World) (A : Option Addr) (n c : Nat) (l : List Hv) : Prop :=
  l.length = n ∧ Rd w A n c (hvCells l) ∧ (∀ ad, A = some ad → hvCells l ≠ [] → ad.block < w.heap.size) ∧ ∀ a ∈ l, a.ok

theorem open_haves0 {fuel : Nat} {v : Value} {x : DataW H × List MemPlace} (hf : DataW.trod enc Try.prog w 0 (fun _ => true) true fuel 23 [v] = some x) :
    ∃ A n c l, v = .slice A n c ∧ IsHaves w A n c l := by
  have c4 : Try.prog.cellsOf 35 = 4 := by kernel_rfl
  rcases open_slice Try.underlying23 hf with ⟨hcs, _⟩ | ⟨ad, n, cap, m, k, D, Pl, hcs, _, hl, hm, hmm, _, hx⟩
  · simp only [List.cons.injEq, and_true] at hcs
    exact ⟨none, 0, 0, [], hcs, rfl, Rd.nil w, fun _ h => by simp at h, fun a ha => by simp at ha⟩
  · simp only [List.cons.injEq, and_true] at hcs
    simp only [if_true] at hmm
    subst hmm
    rw [c4] at hx
    obtain ⟨F, hF⟩ := choose_lt (α := Hv) (n := n) (p := fun i a => (∀ j, j < 4 → w.cell? (ad.add (i * 4 + j)) = a.cells[j]?) ∧ a.ok) (fun i hi => by
      obtain ⟨cs', h1, h2⟩ := hx i (by omega)
      obtain ⟨a, rfl, ha⟩ := open_have h2
      obtain ⟨_, _, h3⟩ := World.cells?_some h1
      exact ⟨a, fun j hj => by rw [← h3 j hj, Addr.add_add], ha⟩)
    have hlen : ((List.range n).map F).length = n := by simp
    refine ⟨some ad, n, m, (List.range n).map F, hcs, hlen, rd_of_hv hlen hl hm ?_, ?_, ?_⟩
    · intro i hi j hj
      rw [hlen] at hi
      have := (hF i hi).1 j hj
      simpa using this
    · intro ad' ha hne
      simp only [Option.some.injEq] at ha
      subst ha
      have hp : 0 < n := by
        cases n with
        | zero => simp [hvCells] at hne
        | succ n => omega
      have := (hF 0 hp).1 0 (by omega)
      have := World.block_lt_of_cell? w _ (u := .int .u32 (F 0).id) this
      rwa [add_block] at this
    · intro a ha
      simp only [List.mem_map, List.mem_range] at ha
      obtain ⟨i, hi, rfl⟩ := ha
      exact (hF i hi).2

theorem open_haves {v : Value} {d : DataW H} {p : List MemPlace} (h : DataW.Trod enc Try.prog w 0 (fun _ => true) true 23 v d p) {A : Option Addr} {n c : Nat} (hv : v = .slice A n c) :
    ∃ l : List Hv, IsHaves w A n c l := by
  subst hv
  obtain ⟨fuel, hf⟩ := h
  obtain ⟨A', n', c', l, he, hi⟩ := open_haves0 (v := .slice A n c) (by simpa [Value.cells] using hf)
  simp only [Value.slice.injEq] at he
  obtain ⟨rfl, rfl, rfl⟩ := he
  exact ⟨l, hi⟩

set_option maxRecDepth 100000 in
theorem open_ask {r : Reach} {b0 : Nat} {v : Value} {d : DataW H} {p : List MemPlace} (hv : Value.okWide Try.prog w r b0 26 v) (h : DataW.Trod enc Try.prog w 0 (fun _ => true) true 26 v d p) :
    ∃ (next : Nat) (A : Option Addr) (n c : Nat) (l : List Hv), v = .agg #[.int .u32 next, .slice A n c] ∧ next < 4294967296 ∧ IsHaves w A n c l := by
  obtain ⟨v0, v1, y0, y1, m, rfl, _, _, h0, h1⟩ := Go.Joins.open_agg2 Try.underlying26 (by kernel_rfl) (by kernel_rfl) hv h
  obtain ⟨m0, e0, _, w0⟩ := DataW.trod_int Try.underlying24 h0
  obtain ⟨A, n, c, l, e1, hi⟩ := open_haves0 h1
  simp only [List.cons.injEq, and_true] at e0
  subst e0; subst e1
  have q0 := bounds_u32 w0
  obtain ⟨k, rfl⟩ : ∃ k : Nat, m0 = k := ⟨m0.toNat, by omega⟩
  exact ⟨k, A, n, c, l, rfl, by omega, hi⟩
end

end Go.Proofs.Ytboambncimdfjaa
