/- The row's argument '[][]byte', opened: the pieces as data. Condition: it reads (DataW.trod). -/
import Derived.Test.YtkameiopahcacaaDoorActs15
import Derived.Test.YtkameiopahcacaaDoorSame15
set_option linter.unusedVariables false
set_option linter.unusedSimpArgs false
namespace Go.Proofs.YtkameiopahcacaaDoor
open Go.RowKit Go.ChangeShapes Go.WideShapes Go.Deep

instance : Inhabited Pc := ⟨⟨none, 0, 0, [], none⟩⟩
/-- The pieces l lie in memory, below w's size. -/
def IsBss (w : World) (A : Option Addr) (n c : Nat) (l : List Pc) : Prop :=
  l.length = n ∧ Rd w A n c (l.map Pc.val) ∧ (∀ ad, A = some ad → l ≠ [] → ad.block < w.heap.size) ∧ ∀ p ∈ l, p.b.length = p.n ∧ Rd w p.A p.n p.c (B8 p.b) ∧ (∀ ad, p.A = some ad → p.b ≠ [] → ad.block < w.heap.size) ∧ IsB p.b

section
variable {H : Type} {enc : TypeId × Value → H} {w : World}
theorem open_bss {v : Value} {d : DataW H} {p : List MemPlace} (h : DataW.Trod enc Tryd.prog w 0 (fun _ => true) true 34 v d p) {A : Option Addr} {n c : Nat} (hv : v = .slice A n c) :
    ∃ l : List Pc, IsBss w A n c l := by
  subst hv
  obtain ⟨fuel, hf⟩ := h
  have c1 : Tryd.prog.cellsOf 38 = 1 := by kernel_rfl
  rcases open_slice Tryd.underlying34 hf with ⟨hcs, _⟩ | ⟨ad, len, cap, m, k, D, Pl, hcs, _, hl, hm, hmm, _, hx⟩
  · simp [Value.cells] at hcs
    obtain ⟨rfl, rfl, rfl⟩ := hcs
    exact ⟨[], rfl, Rd.nil w, fun _ _ h => by simp at h, fun a ha => by simp at ha⟩
  · simp [Value.cells] at hcs
    obtain ⟨rfl, rfl, rfl⟩ := hcs
    simp only [if_true] at hmm
    subst hmm
    rw [c1] at hx
    obtain ⟨F, hF⟩ := choose_lt (α := Pc) (n := n) (p := fun i a => w.cell? (ad.add i) = some a.val ∧ a.b.length = a.n ∧ Rd w a.A a.n a.c (B8 a.b) ∧ (∀ ad, a.A = some ad → a.b ≠ [] → ad.block < w.heap.size) ∧ IsB a.b) (fun i hi => by
      obtain ⟨cs', h1, h2⟩ := hx i (by omega)
      obtain ⟨hlen, _, h3⟩ := World.cells?_some h1
      obtain ⟨v, rfl⟩ : ∃ v, cs' = [v] := by
        match cs', hlen with
        | [v], _ => exact ⟨v, rfl⟩
      obtain ⟨A', n', c', b, rfl, hb, hrd, hlow, hbb⟩ := open_bytes15 h2
      have h4 := h3 0 (by omega)
      rw [Nat.mul_one, Addr.add_add, Nat.add_zero] at h4
      exact ⟨⟨A', n', c', b, none⟩, by simpa [Pc.val] using h4, hb, hrd, hlow, hbb⟩)
    have hlen : ((List.range n).map F).length = n := by simp
    refine ⟨(List.range n).map F, hlen, ⟨hl, hm, by simp, ?_⟩, ?_, ?_⟩
    · intro ad' ha j u hu
      simp only [Option.some.injEq] at ha
      subst ha
      have hj : j < n := by
        have := (List.getElem?_eq_some_iff.1 hu).1
        simpa using this
      have := (hF j hj).1
      rw [this, ← hu]
      simp [hj]
    · intro ad' ha hne
      simp only [Option.some.injEq] at ha
      subst ha
      have hp : 0 < n := by
        cases n with
        | zero => simp at hne
        | succ n => omega
      have := World.block_lt_of_cell? w _ (hF 0 hp).1
      rwa [add_block] at this
    · intro a ha
      simp only [List.mem_map, List.mem_range] at ha
      obtain ⟨i, hi, rfl⟩ := ha
      exact (hF i hi).2
end

end Go.Proofs.YtkameiopahcacaaDoor
