/- The plain model of the disk (layer 14), without the program: what each call answers and leaves. No condition. -/
set_option linter.unusedVariables false
namespace Go.Proofs.YtkameiopahcacaaDoor

/-- A disk's fields; what is planned: is, so many puts, so many bytes. -/
structure Dsk where
  cap : Int
  b : List Int
  puts : Int
  st : Bool
  is : Bool
  p : Int
  n : Int

structure Dsk.ok (d : Dsk) : Prop where
  c0 : 0 ≤ d.cap
  c1 : d.cap ≤ 1048576
  len : (d.b.length : Int) ≤ d.cap
  pn : d.is = true → 0 ≤ d.n

def layB (b : List Int) (at_ : Nat) (x : List Int) : List Int := b.take at_ ++ (x ++ b.drop (at_ + x.length))

theorem layB_length (b : List Int) (at_ : Nat) (x : List Int) (h : at_ ≤ b.length) : (layB b at_ x).length = max b.length (at_ + x.length) := by
  simp only [layB, List.length_append, List.length_take, List.length_drop]
  omega

def wr64 (x : Int) : Int := (x + 9223372036854775808) % 18446744073709551616 - 9223372036854775808

/-- Put: the answer, and the disk behind it. -/
def Dsk.put (d : Dsk) (at_ : Int) (x : List Int) : Int × Dsk :=
  if d.st then (10, d)
  else if at_ < 0 ∨ (d.b.length : Int) < at_ then (1, d)
  else if d.cap - at_ < x.length then (7, d)
  else if d.is = true ∧ d.p = 0 then (10, { d with b := layB d.b at_.toNat (x.take d.n.toNat), st := true, is := false, p := 0, n := 0 })
  else (0, { d with b := layB d.b at_.toNat x, puts := wr64 (d.puts + 1), p := wr64 (d.p - 1) })

def Dsk.plan (d : Dsk) (puts bytes : Int) : Int × Dsk :=
  if d.st then (10, d) else if puts < 0 ∨ bytes < 0 then (1, d) else (0, { d with is := true, p := puts, n := bytes })

def Dsk.revive (d : Dsk) : Int × Dsk := if d.st then (0, { d with st := false }) else (10, d)

def Dsk.read (d : Dsk) (at_ many : Int) : List Int :=
  if at_ < 0 ∨ many < 0 ∨ (d.b.length : Int) < at_ then [] else (d.b.drop at_.toNat).take many.toNat

theorem Dsk.put_ok {d : Dsk} (h : d.ok) (at_ : Int) (x : List Int) : (d.put at_ x).2.ok := by
  unfold Dsk.put
  by_cases h1 : d.st = true
  · rw [if_pos h1]; exact h
  rw [if_neg h1]
  by_cases h2 : at_ < 0 ∨ (d.b.length : Int) < at_
  · rw [if_pos h2]; exact h
  rw [if_neg h2]
  by_cases h3 : d.cap - at_ < x.length
  · rw [if_pos h3]; exact h
  rw [if_neg h3]
  obtain ⟨c0, c1, hlen, pn⟩ := h
  have hk : at_.toNat ≤ d.b.length := by omega
  by_cases h4 : d.is = true ∧ d.p = 0
  · rw [if_pos h4]
    refine ⟨c0, c1, ?_, by simp⟩
    show (((layB d.b at_.toNat (x.take d.n.toNat)).length : Nat) : Int) ≤ d.cap
    rw [layB_length _ _ _ hk, List.length_take]
    omega
  · rw [if_neg h4]
    refine ⟨c0, c1, ?_, pn⟩
    show (((layB d.b at_.toNat x).length : Nat) : Int) ≤ d.cap
    rw [layB_length _ _ _ hk]
    omega

theorem Dsk.plan_ok {d : Dsk} (h : d.ok) (p b : Int) : (d.plan p b).2.ok := by
  unfold Dsk.plan
  by_cases h1 : d.st = true
  · rw [if_pos h1]; exact h
  rw [if_neg h1]
  by_cases h2 : p < 0 ∨ b < 0
  · rw [if_pos h2]; exact h
  rw [if_neg h2]
  have h3 : 0 ≤ b := by omega
  exact ⟨h.c0, h.c1, h.len, fun _ => h3⟩

theorem Dsk.revive_ok {d : Dsk} (h : d.ok) : d.revive.2.ok := by
  unfold Dsk.revive
  by_cases h1 : d.st = true
  · rw [if_pos h1]; exact ⟨h.c0, h.c1, h.len, h.pn⟩
  · rw [if_neg h1]; exact h

theorem Dsk.new_ok {cap : Int} (h0 : 0 ≤ cap) (h1 : cap ≤ 1048576) : (⟨cap, [], 0, false, false, 0, 0⟩ : Dsk).ok := ⟨h0, h1, h0, fun h => by simp at h⟩

end Go.Proofs.YtkameiopahcacaaDoor
