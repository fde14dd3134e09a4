/- The plain model of the document's disk (longwireref14), and that it answers as the program's does. No condition. -/
import Derived.Test.YtihmkddnfceoiaaDskM
set_option linter.unusedVariables false
namespace Go.Proofs.Ytihmkddnfceoiaa

structure Rdk where
  cap : Int
  b : List Int
  puts : Int
  st : Bool
  left : Int
  bytes : Int

def Rdk.many (e : Rdk) (x : List Int) : Int := if e.left = 0 ∧ e.bytes < x.length then e.bytes else x.length

def Rdk.put (e : Rdk) (at_ : Int) (x : List Int) : Int × Rdk :=
  if e.st then (10, e)
  else if at_ < 0 ∨ (e.b.length : Int) < at_ then (1, e)
  else if e.cap < at_ + x.length then (7, e)
  else if e.left = 0 then (10, { e with b := layB e.b at_.toNat (x.take (e.many x).toNat), left := -1, st := true })
  else (0, { e with b := layB e.b at_.toNat (x.take (e.many x).toNat), left := if 0 < e.left then wr64 (e.left - 1) else e.left, puts := wr64 (e.puts + 1) })

/-- What a put leaves that is laid with so many bytes. -/
def Rdk.laid (e : Rdk) (at_ : Nat) (x : List Int) (m : Nat) : Int × Rdk :=
  if e.left = 0 then (10, { e with b := layB e.b at_ (x.take m), left := -1, st := true })
  else (0, { e with b := layB e.b at_ (x.take m), left := if 0 < e.left then wr64 (e.left - 1) else e.left, puts := wr64 (e.puts + 1) })

def Rdk.plan (e : Rdk) (puts bytes : Int) : Int × Rdk :=
  if e.st then (10, e) else if puts < 0 ∨ bytes < 0 then (1, e) else (0, { e with left := puts, bytes := bytes })

def Rdk.revive (e : Rdk) : Int × Rdk := if e.st then (0, { e with st := false }) else (10, e)

def Rdk.read (e : Rdk) (at_ many : Int) : List Int :=
  if at_ < 0 then [] else (e.b.drop at_.toNat).take many.toNat

/-- The program's disk and the document's are one. -/
structure Dsk.like (d : Dsk) (e : Rdk) : Prop where
  cap : d.cap = e.cap
  b : d.b = e.b
  puts : d.puts = e.puts
  st : d.st = e.st
  plan : d.is = true → d.p = e.left ∧ d.n = e.bytes ∧ 0 ≤ e.left ∧ e.left ≤ 9223372036854775807 ∧ 0 ≤ e.bytes
  none_ : d.is = false → e.left = -1

theorem Dsk.put_like {d : Dsk} {e : Rdk} (hl : d.like e) (hok : d.ok) (at_ : Int) (x : List Int) :
    (d.put at_ x).1 = (e.put at_ x).1 ∧ (d.put at_ x).2.like (e.put at_ x).2 := by
  obtain ⟨cap, b, puts, st, left, bytes⟩ := e
  obtain ⟨cap', b', puts', st', is, p, n⟩ := d
  obtain ⟨rfl, rfl, rfl, rfl, hp, hn⟩ := hl
  obtain ⟨c0, c1, hlen, _⟩ := hok
  simp only at *
  unfold Dsk.put Rdk.put
  simp only
  by_cases h1 : st' = true
  · rw [if_pos h1, if_pos h1]
    exact ⟨rfl, ⟨rfl, rfl, rfl, rfl, hp, hn⟩⟩
  rw [if_neg h1, if_neg h1]
  by_cases h2 : at_ < 0 ∨ (b'.length : Int) < at_
  · rw [if_pos h2, if_pos h2]
    exact ⟨rfl, ⟨rfl, rfl, rfl, rfl, hp, hn⟩⟩
  rw [if_neg h2, if_neg h2]
  by_cases h3 : cap' - at_ < x.length
  · have h3' : cap' < at_ + x.length := by omega
    rw [if_pos h3, if_pos h3']
    exact ⟨rfl, ⟨rfl, rfl, rfl, rfl, hp, hn⟩⟩
  have h3' : ¬ cap' < at_ + x.length := by omega
  rw [if_neg h3, if_neg h3']
  have hk : at_.toNat ≤ b'.length := by omega
  cases is with
  | true =>
    obtain ⟨rfl, rfl, hl0, hl1, hb0⟩ := hp rfl
    by_cases h4 : p = 0
    · subst h4
      rw [if_pos ⟨rfl, rfl⟩, if_pos rfl]
      have e1 : x.take (Rdk.many ⟨cap', b', puts', st', 0, n⟩ x).toNat = x.take n.toNat := by
        unfold Rdk.many
        simp only
        by_cases h5 : n < x.length
        · rw [if_pos ⟨trivial, h5⟩]
        · rw [if_neg (fun h => h5 h.2), Int.toNat_natCast, List.take_length, List.take_of_length_le (by omega)]
      rw [e1]
      exact ⟨rfl, ⟨rfl, rfl, rfl, rfl, by simp, fun _ => rfl⟩⟩
    · rw [if_neg (fun h => h4 h.2), if_neg h4]
      have e1 : x.take (Rdk.many ⟨cap', b', puts', st', p, n⟩ x).toNat = x := by
        unfold Rdk.many
        simp only
        rw [if_neg (fun h => h4 h.1), Int.toNat_natCast, List.take_length]
      have h6 : 0 < p := by omega
      rw [e1, if_pos h6]
      have h7 : wr64 (p - 1) = p - 1 := by unfold wr64; omega
      have h8 : 0 ≤ p - 1 ∧ p - 1 ≤ 9223372036854775807 := by omega
      refine ⟨rfl, ⟨rfl, rfl, rfl, rfl, fun _ => ?_, by simp⟩⟩
      exact ⟨rfl, rfl, by rw [h7]; exact h8.1, by rw [h7]; exact h8.2, hb0⟩
  | false =>
    have hm := hn rfl
    subst hm
    have h6 : ¬ ((-1 : Int) = 0) := by omega
    have h7 : ¬ (0 < (-1 : Int)) := by omega
    have h8 : ¬ (false = true ∧ p = 0) := by simp
    rw [if_neg h8, if_neg h6, if_neg h7]
    have e1 : x.take (Rdk.many ⟨cap', b', puts', st', -1, bytes⟩ x).toNat = x := by
      unfold Rdk.many
      simp only
      have h9 : ¬ ((-1 : Int) = 0 ∧ bytes < x.length) := by omega
      rw [if_neg h9, Int.toNat_natCast, List.take_length]
    rw [e1]
    exact ⟨rfl, ⟨rfl, rfl, rfl, rfl, by simp, fun _ => rfl⟩⟩

theorem Dsk.plan_like {d : Dsk} {e : Rdk} (hl : d.like e) (hok : d.ok) (puts bytes : Int) (hp : puts ≤ 9223372036854775807) :
    (d.plan puts bytes).1 = (e.plan puts bytes).1 ∧ (d.plan puts bytes).2.like (e.plan puts bytes).2 := by
  unfold Dsk.plan Rdk.plan
  rw [hl.st]
  by_cases h1 : e.st = true
  · rw [if_pos h1, if_pos h1]; exact ⟨rfl, hl⟩
  rw [if_neg h1, if_neg h1]
  by_cases h2 : puts < 0 ∨ bytes < 0
  · rw [if_pos h2, if_pos h2]; exact ⟨rfl, hl⟩
  rw [if_neg h2, if_neg h2]
  have h3 : 0 ≤ puts := by omega
  have h4 : 0 ≤ bytes := by omega
  exact ⟨rfl, ⟨hl.cap, hl.b, hl.puts, rfl, fun _ => ⟨rfl, rfl, h3, hp, h4⟩, by simp⟩⟩

theorem Dsk.revive_like {d : Dsk} {e : Rdk} (hl : d.like e) (hok : d.ok) :
    d.revive.1 = e.revive.1 ∧ d.revive.2.like e.revive.2 := by
  unfold Dsk.revive Rdk.revive
  rw [hl.st]
  by_cases h1 : e.st = true
  · rw [if_pos h1, if_pos h1]; exact ⟨rfl, ⟨hl.cap, hl.b, hl.puts, rfl, hl.plan, hl.none_⟩⟩
  · rw [if_neg h1, if_neg h1]; exact ⟨rfl, hl⟩

theorem Dsk.read_like {d : Dsk} {e : Rdk} (hl : d.like e) (at_ many : Int) : d.read at_ many = e.read at_ many := by
  unfold Dsk.read Rdk.read
  rw [hl.b]
  by_cases h1 : at_ < 0
  · rw [if_pos (.inl h1), if_pos h1]
  · by_cases h2 : many < 0 ∨ (e.b.length : Int) < at_
    · rw [if_pos (.inr h2), if_neg h1]
      rcases h2 with h2 | h2
      · rw [show many.toNat = 0 by omega]; rfl
      · rw [List.drop_eq_nil_of_le (by omega)]; simp
    · have h3 : ¬ (at_ < 0 ∨ many < 0 ∨ (e.b.length : Int) < at_) := by omega
      rw [if_neg h3, if_neg h1]

theorem layB_over (b x : List Int) (at_ k : Nat) (hk : k < x.length) (h : at_ + k < b.length) :
    layB b at_ (x.take (k + 1)) = (layB b at_ (x.take k)).set (at_ + k) (x[k]) := by
  have h1 : (x.take (k + 1)).length = k + 1 := by rw [List.length_take]; omega
  have h2 : (x.take k).length = k := by rw [List.length_take]; omega
  unfold layB
  rw [h1, h2, List.set_append_right _ _ (by rw [List.length_take]; omega), List.length_take, show at_ + k - min at_ b.length = k by omega,
    List.set_append_right _ _ (by omega), h2, List.take_succ_eq_append_getElem hk, List.append_assoc]
  congr 2
  rw [show k - k = 0 by omega, show at_ + (k + 1) = at_ + k + 1 by omega, List.drop_eq_getElem_cons h]
  rfl

theorem layB_more (b x : List Int) (at_ k : Nat) (hk : k < x.length) (h : at_ ≤ b.length) (h' : b.length ≤ at_ + k) :
    layB b at_ (x.take (k + 1)) = (layB b at_ (x.take k) ++ [0]).set (at_ + k) (x[k]) := by
  have h1 : (x.take (k + 1)).length = k + 1 := by rw [List.length_take]; omega
  have h2 : (x.take k).length = k := by rw [List.length_take]; omega
  unfold layB
  rw [h1, h2, List.drop_eq_nil_of_le (by omega), List.drop_eq_nil_of_le h', List.append_nil, List.append_nil, List.set_append_right _ _ (by simp; omega),
    List.take_succ_eq_append_getElem hk, List.append_assoc]
  congr 2
  simp only [List.length_append, List.length_take]
  rw [show at_ + k - (min at_ b.length + min k x.length) = 0 by omega]
  rfl

end Go.Proofs.Ytihmkddnfceoiaa
