/- What a client tells (layer 13), in plain words: lists of what is had; what may be; what is missing. No program here. -/
import Derived.Lib.Hide
namespace Go.Proofs.Ytboambncimdfjaa

structure Hv where
  id : Int
  out : Int
  err : Int
  st : Bool
deriving DecidableEq
structure Hv.ok (h : Hv) : Prop where
  i0 : 0 ≤ h.id
  i1 : h.id < 4294967296
  o0 : 0 ≤ h.out
  o1 : h.out < 4294967296
  e0 : 0 ≤ h.err
  e1 : h.err < 4294967296

def hasB (l : List Hv) (x : Int) : Bool := l.any (fun h => h.id == x)
/-- From a least id on, below next, rising. -/
def mayF (next : Int) : Int → List Hv → Bool
  | _, [] => true
  | least, h :: t => decide (least ≤ h.id) && decide (h.id < next) && mayF next (h.id + 1) t
def may (next : Int) (l : List Hv) : Bool := mayF next 1 l && decide (0 < next) && decide (l.length ≤ 16)

theorem mayF_append (next : Int) (a b : List Hv) : ∀ least, mayF next least (a ++ b) = (mayF next least a && mayF next (match a.getLast? with | some h => h.id + 1 | none => least) b) := by
  induction a with
  | nil => intro least; simp [mayF]
  | cons h t ih =>
    intro least
    simp only [List.cons_append, mayF, ih, Bool.and_assoc]
    congr 3
    cases t with
    | nil => simp
    | cons h2 t2 => simp [List.getLast?_cons]

theorem hasB_take_succ (l : List Hv) (x : Int) (k : Nat) (h : k < l.length) : hasB (l.take (k + 1)) x = (hasB (l.take k) x || (l[k].id == x)) := by
  unfold hasB
  rw [List.take_succ_eq_append_getElem h, List.any_append]
  simp

/-- Where the next id may begin, behind the first k. -/
def leastAt (l : List Hv) (k : Nat) : Int := match (l.take k).getLast? with | some h => h.id + 1 | none => 1
theorem leastAt_succ (l : List Hv) (k : Nat) (h : k < l.length) : leastAt l (k + 1) = l[k].id + 1 := by
  unfold leastAt
  rw [List.take_succ_eq_append_getElem h, List.getLast?_concat]
theorem leastAt_zero (l : List Hv) : leastAt l 0 = 1 := rfl
theorem mayF_step (next : Int) (l : List Hv) (k : Nat) (h : k < l.length) :
    mayF next 1 l = (mayF next 1 (l.take k) && (decide (leastAt l k ≤ l[k].id) && decide (l[k].id < next) && mayF next (l[k].id + 1) (l.drop (k + 1)))) := by
  conv => lhs; rw [← List.take_append_drop k l]
  rw [mayF_append, List.drop_eq_getElem_cons h]
  rfl
theorem mayF_take_succ (next : Int) (l : List Hv) (k : Nat) (h : k < l.length) :
    mayF next 1 (l.take (k + 1)) = (mayF next 1 (l.take k) && (decide (leastAt l k ≤ l[k].id) && decide (l[k].id < next))) := by
  rw [List.take_succ_eq_append_getElem h, mayF_append]
  simp only [mayF, Bool.and_true]
  rfl

theorem leastAt_pos (l : List Hv) (k : Nat) (h0 : 0 < k) (h : k ≤ l.length) : leastAt l k = (l[k - 1]'(by omega)).id + 1 := by
  obtain ⟨j, rfl⟩ : ∃ j, k = j + 1 := ⟨k - 1, by omega⟩
  exact leastAt_succ l j (by omega)

/-- Two rising lists with the same members are one. -/
theorem rising_ext : ∀ {a b : List Int}, a.Pairwise (· < ·) → b.Pairwise (· < ·) → (∀ x, x ∈ a ↔ x ∈ b) → a = b
  | [], [], _, _, _ => rfl
  | [], y :: b, _, _, h => by have := (h y).2 (by simp); simp at this
  | x :: a, [], _, _, h => by have := (h x).1 (by simp); simp at this
  | x :: a, y :: b, ha, hb, h => by
    rw [List.pairwise_cons] at ha hb
    have hxy : x = y := by
      have h1 := (h x).1 (by simp)
      have h2 := (h y).2 (by simp)
      rcases List.mem_cons.1 h1 with rfl | h1
      · rfl
      · rcases List.mem_cons.1 h2 with rfl | h2
        · rfl
        · have := hb.1 x h1
          have := ha.1 y h2
          omega
    subst hxy
    have : a = b := rising_ext ha.2 hb.2 (fun z => by
      constructor
      · intro hz
        have hlt := ha.1 z hz
        rcases List.mem_cons.1 ((h z).1 (by simp [hz])) with rfl | h3
        · omega
        · exact h3
      · intro hz
        have hlt := hb.1 z hz
        rcases List.mem_cons.1 ((h z).2 (by simp [hz])) with rfl | h3
        · omega
        · exact h3)
    rw [this]

theorem mayF_rising (next : Int) (l : List Hv) : ∀ least, mayF next least l = true → (l.map (·.id)).Pairwise (· < ·) ∧ ∀ h ∈ l, least ≤ h.id ∧ h.id < next := by
  induction l with
  | nil => intro _ _; simp
  | cons a l ih =>
    intro least h
    simp only [mayF, Bool.and_eq_true, decide_eq_true_eq] at h
    obtain ⟨h1, h2⟩ := ih _ h.2
    constructor
    · rw [List.map_cons, List.pairwise_cons]
      refine ⟨?_, h1⟩
      intro x hx
      obtain ⟨g, hg, rfl⟩ := List.mem_map.1 hx
      have := (h2 g hg).1
      omega
    · intro g hg
      rcases List.mem_cons.1 hg with rfl | hg
      · exact h.1
      · have := h2 g hg
        exact ⟨by omega, this.2⟩

end Go.Proofs.Ytboambncimdfjaa
