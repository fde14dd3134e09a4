/- General words for the walks of this place: what a call keeps ('Kp'), a block known whole ('Blk'), a slice that is read ('Rd'), a row that a value owns ('Row'), and the laws of append, copy and make in these words. No condition. -/
import Derived.WalkKit
import Derived.Lib.AppendZerosOnto
import Derived.Laws.CopyOwn
import Derived.Laws.MakeOwn
import Derived.Lib.ConvBytes
import Derived.Laws.BytesArg
import Derived.Lib.SliceRun
import Derived.Lib.Hide
import Derived.Deep.Draws
import Derived.Deep.QuietTactic
import Derived.BigQuiet
import Derived.WalkSpells
import Derived.WalkLawsBesides
set_option linter.unusedVariables false
set_option linter.unusedSimpArgs false
namespace Go.Proofs.YtkameiopahcacaaDoor
open Go.RowKit

/-! ### 1. What a call keeps -/
/-- All blocks but those of S are as they were; the streams too. -/
structure Kp (w w' : World) (S : Nat → Prop) : Prop where
  os : w'.os = w.os
  tape : w'.tape = w.tape
  output : w'.output = w.output
  size : w.heap.size ≤ w'.heap.size
  blk : ∀ k, k < w.heap.size → ¬ S k → w'.heap[k]? = w.heap[k]?

section
variable {w w1 w2 : World} {S S' T : Nat → Prop}
theorem Kp.refl (w : World) (S : Nat → Prop) : Kp w w S := ⟨rfl, rfl, rfl, Nat.le_refl _, fun _ _ _ => rfl⟩
theorem Kp.mono (h : Kp w w1 S) (hs : ∀ k, S k → S' k) : Kp w w1 S' := ⟨h.os, h.tape, h.output, h.size, fun k hk hn => h.blk k hk (fun h2 => hn (hs k h2))⟩
theorem Kp.trans (h : Kp w w1 S) (k : Kp w1 w2 T) (hs : ∀ k, T k → S k ∨ w.heap.size ≤ k) : Kp w w2 S :=
  ⟨k.os.trans h.os, k.tape.trans h.tape, k.output.trans h.output, Nat.le_trans h.size k.size, fun i hi hn =>
    (k.blk i (Nat.lt_of_lt_of_le hi h.size) (fun h2 => (hs i h2).elim hn (fun h3 => by omega))).trans (h.blk i hi hn)⟩
theorem Kp.trans_same (h : Kp w w1 S) (k : Kp w1 w2 S) : Kp w w2 S := h.trans k (fun _ h => .inl h)
theorem Kp.alloc (h : Kp w w1 S) (o : Obj) : Kp w (w1.alloc o) S := h.trans (T := fun _ => False) ⟨rfl, rfl, rfl, by simp, fun k hk _ => Below.heap_alloc _ _ _ hk⟩ (fun _ h => h.elim)
theorem Kp.setCell (h : Kp w w1 S) {p : Addr} (hp : S p.block ∨ w.heap.size ≤ p.block) (u : Value) : Kp w (w1.setCell p u) S :=
  h.trans (T := fun k => k = p.block) ⟨rfl, rfl, rfl, by simp, fun k _ hk => Below.heap_setCell _ _ _ _ hk⟩ (fun k hk => by subst hk; exact hp)
theorem Kp.set (h : Kp w w1 S) (g j : Nat) (u : Value) (hp : S g ∨ w.heap.size ≤ g) : Kp w (w1.setCell ⟨g, j, none⟩ u) S := h.setCell (p := ⟨g, j, none⟩) hp u
theorem Kp.drew (h : Kp w w1 S) : Kp w w1.drew S := ⟨h.os, h.tape, h.output, h.size, h.blk⟩
theorem Kp.drewN (h : Kp w w1 S) (n : Nat) : Kp w (w1.drewN n) S := ⟨h.os, h.tape, h.output, h.size, h.blk⟩
theorem Kp.of_below {B : Nat} (h : Below B w w1) (hs : ∀ k, B ≤ k → k < w.heap.size → S k) : Kp w w1 S :=
  ⟨h.os, h.tape, h.output, h.size, fun k hk hn => h.block k (Nat.lt_of_not_le fun hb => hn (hs k hb hk))⟩
theorem Kp.below (h : Kp w w1 S) {B : Nat} (hB : B ≤ w.heap.size) (hs : ∀ k, S k → B ≤ k) : Below B w w1 :=
  ⟨h.os, h.tape, h.output, h.size, fun k hk => h.blk k (by omega) (fun h2 => by have := hs k h2; omega)⟩
theorem Kp.of_grown {row : Option Nat} (hg : w.grownBy w1 row) : Kp w w1 (fun k => row = some k) :=
  ⟨hg.os, hg.tape, hg.output, hg.size, fun k hk hn => hg.block k hk (fun e => hn e.symm)⟩
theorem Kp.cell (h : Kp w w1 S) {a : Addr} {v : Value} (hc : w.cell? a = some v) (hn : ¬ S a.block) : w1.cell? a = some v :=
  (World.cell?_of_block (h.blk a.block (World.block_lt_of_cell? w a hc) hn)).trans hc
end

/-- A row's block behind a call: the same one, or a new one. -/
def Fr (w : World) (r r' : Option Nat) : Prop := r' = r ∨ ∃ k, r' = some k ∧ w.heap.size ≤ k
theorem Fr.refl (w : World) (r : Option Nat) : Fr w r r := .inl rfl
theorem Fr.trans {w w1 : World} {r r1 r2 : Option Nat} (h : Fr w r r1) (hs : w.heap.size ≤ w1.heap.size) (k : Fr w1 r1 r2) : Fr w r r2 := by
  rcases k with rfl | ⟨k, rfl, hk⟩
  · exact h
  · exact .inr ⟨k, rfl, by omega⟩
theorem Fr.of_lt {w : World} {r r' : Option Nat} (h : Fr w r r') {k : Nat} (hr : r' = some k) : r = some k ∨ w.heap.size ≤ k := by
  rcases h with rfl | ⟨j, rfl, hj⟩
  · exact .inl hr
  · simp at hr; subst hr; exact .inr hj

/-- A fact that the walk's simp doesn't look into. -/
structure V (p : Prop) : Prop where mk :: (out : p)

/-! ### 2. A block known whole -/
def Blk (w : World) (g : Nat) (cs : Array Value) (t : TypeId) : Prop := w.heap[g]? = some (.cells cs t (0, 0))
section
variable {w w1 : World} {g : Nat} {cs : Array Value} {t : TypeId} {S : Nat → Prop}
theorem Blk.lt (h : Blk w g cs t) : g < w.heap.size := (Array.getElem?_eq_some_iff.1 h).1
theorem Blk.cell (h : Blk w g cs t) (j : Nat) : w.cell? ⟨g, j, none⟩ = cs[j]? := cell_of_row w g j cs t _ h
theorem Blk.cell' (h : Blk w g cs t) (j : Nat) {v : Value} (hv : cs[j]? = some v) : w.cell? ⟨g, j, none⟩ = some v := (h.cell j).trans hv
theorem Blk.free (h : Blk w g cs t) (j : Nat) : w.frozen? ⟨g, j, none⟩ = false := frozen_of_row w g j cs t h
theorem Blk.kp (h : Blk w g cs t) (hk : Kp w w1 S) (hn : ¬ S g) : Blk w1 g cs t := (hk.blk g h.lt hn).trans h
theorem Blk.alloc (h : Blk w g cs t) (o : Obj) : Blk (w.alloc o) g cs t := (Below.heap_alloc w o g h.lt).trans h
theorem Blk.drew (h : Blk w g cs t) : Blk w.drew g cs t := h
theorem Blk.set (h : Blk w g cs t) (j : Nat) (u : Value) : Blk (w.setCell ⟨g, j, none⟩ u) g (cs.setIfInBounds j u) t := by
  unfold Blk at h ⊢
  simp only [World.setCell, Array.getElem?_modify, if_true, h, Option.map_some]
  simp
theorem Blk.far (h : Blk w g cs t) {p : Addr} (hp : g ≠ p.block) (u : Value) : Blk (w.setCell p u) g cs t := (Below.heap_setCell w p u g hp).trans h
theorem Blk.new (w : World) (cs : Array Value) (t : TypeId) : Blk (w.alloc (.cells cs t)) w.heap.size cs t := heap_alloc_new w _
theorem Blk.size_le (h : Blk w g cs t) (hs : w.heap.size ≤ w1.heap.size) : g < w1.heap.size := Nat.lt_of_lt_of_le h.lt hs
theorem Blk.ne_type {g' : Nat} {cs' : Array Value} {t' : TypeId} (h : Blk w g cs t) (h' : Blk w g' cs' t') (ht : t ≠ t') : g ≠ g' := by
  rintro rfl
  unfold Blk at h h'
  rw [h] at h'
  simp only [Option.some.injEq, Obj.cells.injEq] at h'
  exact ht h'.2.1
end

/-! ### 3. A slice that is read -/
/-- The slice (A, n, c) reads the cells xs (n elements, of whatever number of cells each). -/
def Rd (w : World) (A : Option Addr) (n c : Nat) (xs : List Value) : Prop :=
  n ≤ c ∧ c ≤ maxLen ∧ (A = none → c = 0) ∧ ∀ ad, A = some ad → ∀ j u, xs[j]? = some u → w.cell? (ad.add j) = some u
/-- Where it lies: S. -/
def Lies (A : Option Addr) (n : Nat) (S : Nat → Prop) : Prop := 0 < n → ∀ ad, A = some ad → S ad.block
theorem add_block (ad : Addr) (j : Nat) : (ad.add j).block = ad.block := by unfold Addr.add; split <;> rfl
theorem add_zero' (g j : Nat) : (⟨g, 0, none⟩ : Addr).add j = ⟨g, j, none⟩ := by unfold Addr.add; split <;> simp_all
section
variable {w w1 : World} {A : Option Addr} {n c : Nat} {xs : List Value} {S T : Nat → Prop}
theorem Rd.kp (h : Rd w A n c xs) (hk : Kp w w1 S) (hn : ∀ ad, A = some ad → xs ≠ [] → ¬ S ad.block) : Rd w1 A n c xs :=
  ⟨h.1, h.2.1, h.2.2.1, fun ad ha j u hu => hk.cell (h.2.2.2 ad ha j u hu) (by rw [add_block]; exact hn ad ha (by rintro rfl; simp at hu))⟩
theorem Rd.below {B : Nat} (h : Rd w A n c xs) (hk : Below B w w1) (hn : ∀ ad, A = some ad → xs ≠ [] → ad.block < B) : Rd w1 A n c xs :=
  ⟨h.1, h.2.1, h.2.2.1, fun ad ha j u hu => (hk.cell (p := ad.add j) (by rw [add_block]; exact hn ad ha (by rintro rfl; simp at hu))).trans (h.2.2.2 ad ha j u hu)⟩
theorem Rd.alloc (h : Rd w A n c xs) (o : Obj) : Rd (w.alloc o) A n c xs :=
  h.kp (S := fun _ => False) ((Kp.refl w _).alloc o) (fun _ _ _ h => h)
theorem Rd.drew (h : Rd w A n c xs) : Rd w.drew A n c xs := h
theorem Rd.nil (w : World) : Rd w none 0 0 [] := ⟨Nat.le_refl _, by simp [maxLen], fun _ => rfl, fun _ h => by simp at h⟩
end

theorem Addr.add_add (ad : Addr) (i j : Nat) : (ad.add i).add j = ad.add (i + j) := by
  unfold Addr.add
  by_cases hi : i = 0
  · subst hi; simp
  · by_cases hj : j = 0
    · subst hj; simp [hi]
    · simp [hi, hj, Nat.add_assoc]
/-- A piece of a slice (elements of one cell): s[lo:][:m]. -/
theorem Rd.sub {w : World} {A : Option Addr} {n c : Nat} {xs : List Value} (h : Rd w A n c xs) (lo m : Nat) (hm : lo + m ≤ n) :
    Rd w (if c = lo then A else A.map (fun x => x.add lo)) m (c - lo) ((xs.drop lo).take m) := by
  have h1 := h.1
  refine ⟨by omega, by have := h.2.1; omega, ?_, ?_⟩
  · intro hA
    split at hA
    · omega
    · have := h.2.2.1 (by simpa using hA)
      omega
  · intro ad ha j u hu
    rw [List.getElem?_take] at hu
    split at hu
    · rename_i hj
      rw [if_neg (by omega)] at ha
      obtain ⟨ad0, rfl, rfl⟩ := Option.map_eq_some_iff.1 ha
      rw [List.getElem?_drop] at hu
      rw [Addr.add_add]
      exact h.2.2.2 ad0 rfl _ u hu
    · simp at hu
theorem Rd.pre {w : World} {A : Option Addr} {n c : Nat} {xs : List Value} (h : Rd w A n c xs) (m : Nat) (hm : m ≤ n) : Rd w A m c (xs.take m) :=
  ⟨by have := h.1; omega, h.2.1, h.2.2.1, fun ad ha j u hu => h.2.2.2 ad ha j u (by
    rw [List.getElem?_take] at hu
    split at hu
    · exact hu
    · simp at hu)⟩

theorem Rd.box (w : World) (v : Value) (e : TypeId) : Rd (w.alloc (.cells #[v] e)) (some ⟨w.heap.size, 0, none⟩) 1 1 [v] := by
  refine ⟨Nat.le_refl _, by simp [maxLen], by simp, ?_⟩
  intro ad ha j u hu
  simp only [Option.some.injEq] at ha
  subst ha
  have hj : j = 0 := by
    cases j with
    | zero => rfl
    | succ j => simp at hu
  subst hj
  simp only [List.getElem?_cons_zero, Option.some.injEq] at hu
  subst hu
  rw [add_zero', World.cell?_alloc_new]
  rfl
theorem Kp.of_drew {w w1 : World} {S : Nat → Prop} (h : Kp w.drew w1 S) : Kp w w1 S := ⟨h.os, h.tape, h.output, h.size, h.blk⟩

theorem Rd.base {w : World} {A : Option Addr} {n c : Nat} {xs : List Value} (h : Rd w A n c xs) (hn : 0 < n) (h0 : 0 < xs.length) :
    ∃ b o, A = some ⟨b, o, none⟩ ∧ ∀ j u, xs[j]? = some u → w.cell? ⟨b, o + j, none⟩ = some u := by
  obtain ⟨ad, rfl⟩ : ∃ ad, A = some ad := by
    cases A with
    | some ad => exact ⟨ad, rfl⟩
    | none => have := h.2.2.1 rfl; have := h.1; omega
  have hc := h.2.2.2 ad rfl
  obtain ⟨b, o, sp⟩ := ad
  have h1 := hc 0 xs[0] (by simp [h0])
  have hsp : sp = none := by
    cases sp with
    | none => rfl
    | some s =>
      simp only [Addr.add, if_true, World.cell?] at h1
      split at h1 <;> simp at h1
  subst hsp
  refine ⟨b, o, rfl, fun j u hu => ?_⟩
  have := hc j u hu
  rwa [Addr.add_lit] at this

/-! ### 4. A row that a value owns -/
/-- The slice (A, n, c) owns the row of block r (none: it is nil), whose first cells are xs; elements of type e, sz cells each. -/
def Row (w : World) (e : TypeId) (sz : Nat) (A : Option Addr) (n c : Nat) (xs : List Value) (r : Option Nat) : Prop :=
  xs.length = n * sz ∧ ((A = none ∧ n = 0 ∧ c = 0 ∧ r = none) ∨
    ∃ g cur, A = some ⟨g, 0, none⟩ ∧ r = some g ∧ w.heap[g]? = some (.cells cur e (0, 0)) ∧ n ≤ c ∧ c ≤ maxLen ∧ cur.size = c * sz ∧ cur.toList.take (n * sz) = xs)
section
variable {w w1 : World} {e : TypeId} {sz : Nat} {A : Option Addr} {n c : Nat} {xs : List Value} {r : Option Nat} {S T : Nat → Prop}
theorem Row.nil (w : World) (e : TypeId) (sz : Nat) : Row w e sz none 0 0 [] none := ⟨by simp, .inl ⟨rfl, rfl, rfl, rfl⟩⟩
theorem Row.made (w : World) (cur : Array Value) (e : TypeId) (sz n c : Nat) (hn : n ≤ c) (hc : c ≤ maxLen) (hs : cur.size = c * sz) :
    Row (w.alloc (.cells cur e)) e sz (some ⟨w.heap.size, 0, none⟩) n c (cur.toList.take (n * sz)) (some w.heap.size) := by
  refine ⟨?_, .inr ⟨w.heap.size, cur, rfl, rfl, heap_alloc_new w _, hn, hc, hs, rfl⟩⟩
  have : n * sz ≤ c * sz := Nat.mul_le_mul_right _ hn
  simp only [List.length_take, Array.length_toList]
  omega
theorem Row.made0 (w : World) (e : TypeId) (sz : Nat) : Row (w.alloc (.cells #[] e)) e sz (some ⟨w.heap.size, 0, none⟩) 0 0 [] (some w.heap.size) := by
  simpa using Row.made w #[] e sz 0 0 (Nat.le_refl _) (by simp [maxLen]) (by simp)
theorem Row.lt (h : Row w e sz A n c xs r) {k : Nat} (hk : r = some k) : k < w.heap.size := by
  rcases h.2 with ⟨_, _, _, rfl⟩ | ⟨g, cur, _, rfl, hg, _⟩
  · simp at hk
  · simp at hk; subst hk; exact (Array.getElem?_eq_some_iff.1 hg).1
theorem Row.kp (h : Row w e sz A n c xs r) (hk : Kp w w1 S) (hn : ∀ k, r = some k → ¬ S k) : Row w1 e sz A n c xs r := by
  refine ⟨h.1, h.2.imp id ?_⟩
  rintro ⟨g, cur, hA, hr, hg, hrest⟩
  exact ⟨g, cur, hA, hr, (hk.blk g (Array.getElem?_eq_some_iff.1 hg).1 (hn g hr)).trans hg, hrest⟩
theorem Row.alloc (h : Row w e sz A n c xs r) (o : Obj) : Row (w.alloc o) e sz A n c xs r := h.kp (S := fun _ => False) ((Kp.refl w _).alloc o) (fun _ _ h => h)
theorem Row.drew (h : Row w e sz A n c xs r) : Row w.drew e sz A n c xs r := h
theorem Row.far (h : Row w e sz A n c xs r) {p : Addr} (hp : r ≠ some p.block) (u : Value) : Row (w.setCell p u) e sz A n c xs r :=
  h.kp (S := fun k => k = p.block) (Kp.setCell (S := fun k => k = p.block) (Kp.refl w _) (.inl rfl) u) (fun k hk h2 => hp (by rw [hk, h2]))
theorem Row.len (h : Row w e sz A n c xs r) : xs.length = n * sz := h.1
theorem Row.le (h : Row w e sz A n c xs r) : n ≤ c ∧ c ≤ maxLen := by
  rcases h.2 with ⟨_, rfl, rfl, _⟩ | ⟨g, cur, _, _, _, h1, h2, _⟩
  · exact ⟨Nat.le_refl _, by simp [maxLen]⟩
  · exact ⟨h1, h2⟩
theorem Row.rd (h : Row w e sz A n c xs r) : Rd w A n c xs := by
  refine ⟨h.le.1, h.le.2, ?_, ?_⟩
  · rcases h.2 with ⟨_, _, hc, _⟩ | ⟨g, cur, hA, _⟩
    · exact fun _ => hc
    · rintro rfl; simp at hA
  · intro ad ha j u hu
    rcases h.2 with ⟨hA, _⟩ | ⟨g, cur, hA, _, hg, _, _, _, htake⟩
    · rw [hA] at ha; simp at ha
    · rw [hA] at ha
      simp only [Option.some.injEq] at ha
      subst ha
      rw [add_zero', cell_of_row w g j cur e (0, 0) hg]
      rw [← htake, List.getElem?_take] at hu
      split at hu
      · simpa using hu
      · cases hu
theorem Row.ne_type {g : Nat} {cs : Array Value} {t : TypeId} (h : Row w e sz A n c xs r) (hb : Blk w g cs t) (ht : e ≠ t) : r ≠ some g := by
  rintro rfl
  rcases h.2 with ⟨_, _, _, h⟩ | ⟨g', cur, _, h, hg, _⟩
  · simp at h
  · simp only [Option.some.injEq] at h
    subst h
    unfold Blk at hb
    rw [hg] at hb
    simp only [Option.some.injEq, Obj.cells.injEq] at hb
    exact ht hb.2.1
theorem Row.addr (h : Row w e sz A n c xs r) (h0 : 0 < n) : ∃ g, A = some ⟨g, 0, none⟩ ∧ r = some g := by
  rcases h.2 with ⟨_, h1, _⟩ | ⟨g, cur, hA, hr, _⟩
  · omega
  · exact ⟨g, hA, hr⟩
theorem Row.addr_some (h : Row w e sz A n c xs r) {ad : Addr} (ha : A = some ad) : ∃ g, ad = ⟨g, 0, none⟩ ∧ r = some g := by
  rcases h.2 with ⟨hA, _⟩ | ⟨g, cur, hA, hr, _⟩
  · rw [hA] at ha; simp at ha
  · rw [hA] at ha; simp only [Option.some.injEq] at ha; exact ⟨g, ha.symm, hr⟩
/-- A store into the row. -/
theorem Row.stored {g : Nat} (h : Row w e sz (some ⟨g, 0, none⟩) n c xs r) (j : Nat) (u : Value) : Row (w.setCell ⟨g, j, none⟩ u) e sz (some ⟨g, 0, none⟩) n c (xs.set j u) r := by
  rcases h.2 with ⟨hA, _⟩ | ⟨g', cur, hA, hr, hg, hnc, hcm, hcs, htake⟩
  · simp at hA
  · simp only [Option.some.injEq, Addr.mk.injEq, and_true] at hA
    subst hA
    refine ⟨by simp [h.1], .inr ⟨g, cur.setIfInBounds j u, rfl, hr, ?_, hnc, hcm, by simp [hcs], ?_⟩⟩
    · simp only [World.setCell, Array.getElem?_modify, if_true, hg, Option.map_some]
      simp
    · simp only [Array.toList_setIfInBounds]
      rw [← htake]
      rw [List.take_set]
theorem Row.free {g : Nat} (h : Row w e sz (some ⟨g, 0, none⟩) n c xs r) (j : Nat) : w.frozen? ⟨g, j, none⟩ = false := by
  rcases h.2 with ⟨hA, _⟩ | ⟨g', cur, hA, hr, hg, _⟩
  · simp at hA
  · simp only [Option.some.injEq, Addr.mk.injEq, and_true] at hA
    subst hA
    exact frozen_of_row w g j cur e hg
theorem Row.at_ {g : Nat} (h : Row w e sz (some ⟨g, 0, none⟩) n c xs r) (j : Nat) (u : Value) (hu : xs[j]? = some u) : w.cell? ⟨g, j, none⟩ = some u := by
  have := h.rd.2.2.2 _ rfl j u hu
  rwa [add_zero'] at this
/-- The kit's word and ours. -/
theorem Row.of_owns {v : Value} {base : Nat} (h : w.ownsRow base e sz v n xs) : ∃ A c r, v = .slice A n c ∧ r = v.ownBlock ∧ Row w e sz A n c xs r := by
  obtain ⟨h1, h2⟩ := h
  rcases h2 with ⟨rfl, rfl⟩ | ⟨g, cap, cur, rfl, _, hg, hnc, hcm, hcs, htake⟩
  · exact ⟨none, 0, none, rfl, rfl, h1, .inl ⟨rfl, rfl, rfl, rfl⟩⟩
  · exact ⟨_, cap, some g, rfl, rfl, h1, .inr ⟨g, cur, rfl, rfl, hg, hnc, hcm, hcs, htake⟩⟩
theorem Row.owns (h : Row w e sz A n c xs r) : w.ownsRow 0 e sz (.slice A n c) n xs ∧ (Value.slice A n c).ownBlock = r := by
  refine ⟨⟨h.1, ?_⟩, ?_⟩
  · rcases h.2 with ⟨rfl, rfl, rfl, rfl⟩ | ⟨g, cur, rfl, rfl, hg, hnc, hcm, hcs, htake⟩
    · exact .inl ⟨rfl, rfl⟩
    · exact .inr ⟨g, c, cur, rfl, Nat.zero_le _, hg, hnc, hcm, hcs, htake⟩
  · rcases h.2 with ⟨rfl, rfl, rfl, rfl⟩ | ⟨g, cur, rfl, rfl, hg, hnc, hcm, hcs, htake⟩ <;> rfl
end

/-! ### 5. Append -/
theorem wpList_ok {P : Program} {w w' : World} {ops : Array Oper} {rest : List Oper} {o : Oper} {a : Act} {Q : Exit → Act → World → Prop} (hw : Region.wanted o (yielded ops a.tmps) = true) {v : Value}
    (hrun : (execOp a.eval o).run P w = .ok (.value v) w') (h : wpList P ops Q rest (a.put o.dst v) w') : wpList P ops Q (o :: rest) a w := by
  refine BigFrame.wpList_want hw fun K hK => ?_
  unfold Oper.wp
  rw [hrun]
  exact hK _ _ h
section
variable {P : Program} {w : World}
/-- append(s, x...): s owns its row; x is whatever slice is read. -/
theorem run_app (t ty e : TypeId) (i : TypeInfo) (z : Value) (sz bytes : Nat) (ht : P.underlying t = some (.slice e)) (hi : P.info? e = some i) (hz : i.zero = some z)
    (hsize : i.size = sz) (hby : i.bytes = bytes) (hzs : z.cells.size = sz) (hsz : 0 < sz)
    (A : Option Addr) (n c : Nat) (xs : List Value) (r : Option Nat) (hrow : Row w e sz A n c xs r)
    (B : Option Addr) (m d : Nat) (news : List Value) (hrd : Rd w B m d news) (hl : news.length = m * sz) (h1 : ∀ u ∈ news, u.oneCell' = true)
    (hbytes : (n + m) * bytes ≤ 140737488355328) (hmax : n + m ≤ maxLen) :
    ∃ A' c' r' w', (Builtin.append_ #[t, t] ty #[.slice A n c, .slice B m d]).run P w = .ok (.slice A' (n + m) c') w' ∧ Row w' e sz A' (n + m) c' (xs ++ news) r' ∧
      Kp w w' (fun k => r = some k) ∧ Fr w r r' ∧ (A' = none ↔ A = none ∧ m = 0) := by
  subst hsize
  subst hby
  have hsmall : n + m ≤ 9223372036854775807 := by simp only [maxLen] at hmax; omega
  have hlen : (xs ++ news).length = (n + m) * i.size := by rw [List.length_append, hrow.1, hl, Nat.add_mul]
  have grown : ∀ (old : Nat), old < n + m →
      Row (w.drew.alloc (.cells (xs.toArray ++ news.toArray ++ Builtin.zeroCells z.cells (grownCap w (n + m) old e - (n + m))) e)) e i.size
        (some ⟨w.heap.size, 0, none⟩) (n + m) (grownCap w (n + m) old e) (xs ++ news) (some w.heap.size) ∧
      Kp w (w.drew.alloc (.cells (xs.toArray ++ news.toArray ++ Builtin.zeroCells z.cells (grownCap w (n + m) old e - (n + m))) e)) (fun k => r = some k) := by
    intro old ho
    have hge := grownCap_ge w (n + m) old e
    have hcm : grownCap w (n + m) old e ≤ maxLen := grownCap_le_maxLen w (n + m) old e hmax
    refine ⟨⟨hlen, .inr ⟨w.heap.size, _, rfl, rfl, heap_alloc_new w.drew _, hge, hcm, ?_, ?_⟩⟩, (Kp.refl w _).drew.alloc _⟩
    · simp only [Array.size_append, List.size_toArray, size_zeroCells, hzs, hrow.1, hl, ← Nat.add_mul]
      congr 1
      omega
    · simp only [Array.toList_append, List.append_assoc]
      rw [← List.append_assoc, ← hlen]
      exact List.take_left
  -- nothing is appended
  by_cases hm : m = 0
  · subst hm
    have hn : news = [] := List.eq_nil_of_length_eq_zero (by simpa using hl)
    subst hn
    refine ⟨A, c, r, w, ?_, by simpa using hrow, Kp.refl _ _, .inl rfl, by simp⟩
    have hle := hrow.le.1
    have h0 : (Builtin.firstCells i.size 0 (.slice B 0 d)).run P w = .ok #[] w := by
      cases B <;> simp [Builtin.firstCells, loadCells, loadCellsFrom]
    rcases hrow.2 with ⟨rfl, rfl, rfl, rfl⟩ | ⟨g, cur, rfl, rfl, hg, hnc, hcm, hcs, htake⟩
    · simp [Builtin.append_, run_underlying ht, sizeOf, typeInfo, hi, Builtin.lenOf, h0]
    · simp [Builtin.append_, run_underlying ht, sizeOf, typeInfo, hi, Builtin.lenOf, h0, hle, storeCells]
  · obtain ⟨ad, rfl⟩ : ∃ ad, B = some ad := by
      cases B with
      | some ad => exact ⟨ad, rfl⟩
      | none => have := hrd.2.2.1 rfl; have := hrd.1; omega
    have hnews := hrd.2.2.2 ad rfl
    rcases hrow.2 with ⟨rfl, rfl, rfl, rfl⟩ | ⟨g, cur, rfl, rfl, hg, hnc, hcm, hcs, htake⟩
    · have hx : xs = [] := List.eq_nil_of_length_eq_zero (by simpa using hrow.1)
      subst hx
      have hr := run_append_nil (P := P) w t ty e i z ht hi hz ad m d news hl hnews (by omega) (by omega) (by have hb := hbytes; simp only [Nat.zero_add] at hb; omega)
      have hgr := grown 0 (by omega)
      simp only [Nat.zero_add, List.nil_append, Array.empty_append] at hgr ⊢
      exact ⟨_, _, _, _, hr, hgr.1, hgr.2, .inr ⟨_, rfl, Nat.le_refl _⟩, by simp [hm]⟩
    · by_cases hroom : n + m ≤ c
      · have hfit : n * i.size + news.length ≤ cur.size := by rw [hl, hcs, ← Nat.add_mul]; exact Nat.mul_le_mul_right _ hroom
        have hr := run_append_room (P := P) w t ty e i ht hi g n c cur hg ad m d news hl hnews h1 hroom hfit
        refine ⟨_, _, some g, _, hr, ⟨hlen, .inr ⟨g, _, rfl, rfl, setRow_heap w g cur _ e _ hg, hroom, hcm, ?_, ?_⟩⟩, ⟨rfl, rfl, rfl, by simp, fun k _ hk => setRow_other w g k _ (fun e => hk (by simp [e]))⟩, .inl rfl, by simp⟩
        · simp only [List.size_toArray, List.length_append, List.length_take, List.length_drop, Array.length_toList]
          omega
        · rw [htake, ← hlen]
          exact List.take_left
      · have holds : ∀ j u, xs[j]? = some u → w.cell? ((⟨g, 0, none⟩ : Addr).add j) = some u := hrow.rd.2.2.2 _ rfl
        have hr := run_append_grow (P := P) w t ty e i z ht hi hz ⟨g, 0, none⟩ n c xs hrow.1 holds ad m d news hl hnews (by omega) (by omega) (growslice_fits (by omega) hbytes)
        have hgr := grown c (by omega)
        exact ⟨_, _, _, _, hr, hgr.1, hgr.2, .inr ⟨_, rfl, Nat.le_refl _⟩, by simp⟩

theorem wpList_app {ops : Array Oper} {rest : List Oper} {o : Oper} {a : Act} {Q : Exit → Act → World → Prop} (hgd : Region.wanted o (yielded ops a.tmps) = true) (s x : Operand) (t : TypeId)
    (ho : o.op = .call { callee := .builtin .append, args := #[s, x], argTypes := #[t, t] })
    (e : TypeId) (i : TypeInfo) (z : Value) (sz bytes : Nat) (ht : P.underlying t = some (.slice e)) (hi : P.info? e = some i) (hz : i.zero = some z)
    (hsize : i.size = sz) (hby : i.bytes = bytes) (hzs : z.cells.size = sz) (hsz : 0 < sz)
    (A : Option Addr) (n c : Nat) (xs : List Value) (r : Option Nat) (hs : a.eval s = .slice A n c) (hrow : Row w e sz A n c xs r)
    (B : Option Addr) (m d : Nat) (news : List Value) (hx : a.eval x = .slice B m d) (hrd : Rd w B m d news) (hl : news.length = m * sz) (h1 : ∀ u ∈ news, u.oneCell' = true)
    (N : Nat) (hN : n + m = N) (hbytes : N * bytes ≤ 140737488355328) (hmax : N ≤ maxLen)
    (h : ∀ A' c' r' w', Row w' e sz A' N c' (xs ++ news) r' → Kp w w' (fun k => r = some k) → Fr w r r' → (A' = none ↔ A = none ∧ m = 0) → wpList P ops Q rest (a.put o.dst (.slice A' N c')) w') :
    wpList P ops Q (o :: rest) a w := by
  subst hN
  obtain ⟨A', c', r', w', hr, q1, q2, q3, q4⟩ := run_app (P := P) (w := w) t o.type e i z sz bytes ht hi hz hsize hby hzs hsz A n c xs r hrow B m d news hrd hl h1 hbytes hmax
  refine wpList_ok hgd ?_ (h A' c' r' w' q1 q2 q3 q4)
  unfold execOp
  simp only [ho, resolve, invoke, builtin, Sem.run_bind, Sem.run_pure, Result.andThen_ok, List.map_toArray, List.map_cons, List.map_nil, hs, hx, hr]

theorem zeroCells_one (z : Value) (m : Nat) : Builtin.zeroCells #[z] m = Array.replicate m z := by
  apply Array.ext
  · simp [Builtin.zeroCells]
  · intro i h1 h2
    simp [Builtin.zeroCells, Nat.mod_one]

/-- append(s, make([]T, m)...), elements of one cell: the row, and m zeros. -/
theorem run_app_zeros (t tn ty e : TypeId) (i : TypeInfo) (z : Value) (bytes : Nat) (k kn : IntKind) (ht : P.underlying t = some (.slice e)) (htn : P.underlying tn = some (.int kn)) (hi : P.info? e = some i) (hz : i.zero = some z)
    (hsize : i.size = 1) (hby : i.bytes = bytes) (hzs : z.cells = #[z]) (hz1 : z.oneCell' = true)
    (A : Option Addr) (n c : Nat) (xs : List Value) (r : Option Nat) (hrow : Row w e 1 A n c xs r)
    (m : Nat) (h0 : 0 < m) (hbytes : (n + m) * bytes ≤ 140737488355328) (hmax : n + m ≤ maxLen) :
    ∃ A' c' r' w', (Builtin.append_ #[t, tn] ty #[.slice A n c, .int k m]).run P w = .ok (.slice A' (n + m) c') w' ∧ Row w' e 1 A' (n + m) c' (xs ++ List.replicate m z) r' ∧
      Kp w w' (fun k => r = some k) ∧ Fr w r r' := by
  subst hby
  have hsmall : n + m ≤ 9223372036854775807 := by simp only [maxLen] at hmax; omega
  have hnx : xs.length = n := by simpa using hrow.1
  have hlen : (xs ++ List.replicate m z).length = (n + m) * 1 := by simp [hnx]
  have hm : m ≠ 0 := by omega
  have hw : IntKind.i64.wrap (m : Int) = m := by rw [IntKind.wrap_i64]; omega
  have h48i : ¬ (281474976710656 < (m : Int) * (i.bytes : Int)) := by
    rw [← Int.natCast_mul]
    have : m * i.bytes ≤ (n + m) * i.bytes := Nat.mul_le_mul_right _ (by omega)
    omega
  have hneg : ¬ ((m : Int) < 0) := by omega
  have h63' : ¬ (9223372036854775807 < ((n : Int) + (m : Int))) := by omega
  have growR : ∀ (cc : Nat), n + m ≤ cc → cc ≤ maxLen →
      Row (w.drew.alloc (.cells (xs.toArray ++ Array.replicate m z ++ Array.replicate (cc - (n + m)) z) e)) e 1
        (some ⟨w.heap.size, 0, none⟩) (n + m) cc (xs ++ List.replicate m z) (some w.heap.size) := by
    intro cc h1 h2
    refine ⟨hlen, .inr ⟨w.heap.size, _, rfl, rfl, heap_alloc_new w.drew _, h1, h2, ?_, ?_⟩⟩
    · simp [hnx]; omega
    · simp only [Array.toList_append, Array.toList_replicate, List.append_assoc]
      rw [← List.append_assoc, ← hlen]
      exact List.take_left
  have hgm : ∀ old, n + m ≤ grownCap w (n + m) old e ∧ grownCap w (n + m) old e ≤ maxLen := fun old => ⟨grownCap_ge w (n + m) old e, grownCap_le_maxLen w (n + m) old e hmax⟩
  rcases hrow.2 with ⟨rfl, rfl, rfl, rfl⟩ | ⟨g, cur, rfl, rfl, hg, hnc, hcm, hcs, htake⟩
  · have hx : xs = [] := List.eq_nil_of_length_eq_zero hnx
    subst hx
    have h48' : ¬ (281474976710656 < Builtin.nextslicecap m 0 * i.bytes) := by
      have := growslice_fits (need := m) (old := 0) (bytes := i.bytes) h0 (by simpa using hbytes)
      omega
    have hgm0 := hgm 0
    have gr := growR (grownCap w (0 + m) 0 e) (hgm 0).1 (hgm 0).2
    simp only [Nat.zero_add, List.nil_append, Array.empty_append] at gr ⊢
    refine ⟨_, _, _, _, ?_, gr, (Kp.refl w _).drew.alloc _, .inr ⟨_, rfl, Nat.le_refl _⟩⟩
    simp [Builtin.append_, run_underlying ht, run_underlying htn, sizeOf, typeInfo, zeroValue, hi, hz, hsize, hzs, asInt, asIntOf, hw, hm, hneg, h63', h48', h48i, Question.forced, run_firstCells_none, newRow, grownCap, zeroCells_one]
    intro hh
    omega
  · by_cases hroom : n + m ≤ c
    · have hst := run_storeCells_at P g n e (List.replicate m z) 0 cur w hg (by simp [hcs]; omega) (fun v hv => by rw [List.eq_of_mem_replicate hv]; exact hz1)
      refine ⟨_, _, some g, _, ?_, ⟨hlen, .inr ⟨g, (cur.toList.take n ++ List.replicate m z ++ cur.toList.drop (n + m)).toArray, rfl, rfl, setRow_heap w g cur _ e _ hg, hroom, hcm, ?_, ?_⟩⟩, ⟨rfl, rfl, rfl, by simp, fun k _ hk => setRow_other w g k _ (fun e => hk (by simp [e]))⟩, .inl rfl⟩
      · simp [Builtin.append_, run_underlying ht, run_underlying htn, sizeOf, typeInfo, zeroValue, hi, hz, hsize, hzs, asInt, asIntOf, hw, hm, hneg, h48i, Builtin.lenOf, hroom, zeroCells_one, Addr.add_lit]
        simp only [Nat.add_zero, List.append_assoc, List.length_replicate, Array.length_toList] at hst
        rw [hst]
        simp
      · simp [hcs]; omega
      · have e1 : cur.toList.take n = xs := by simpa using htake
        rw [e1, ← hlen]
        exact List.take_left
    · have holds : ∀ j u, xs[j]? = some u → w.cell? ((⟨g, 0, none⟩ : Addr).add j) = some u := hrow.rd.2.2.2 _ rfl
      have h48' : ¬ (281474976710656 < Builtin.nextslicecap (n + m) c * i.bytes) := by
        have := growslice_fits (need := n + m) (old := c) (bytes := i.bytes) (by omega) hbytes
        omega
      have gr := growR (grownCap w (n + m) c e) (hgm c).1 (hgm c).2
      have hr := Lib.run_append_grow_zeros (P := P) w t tn ty e i z k kn ht htn hi hz (some ⟨g, 0, none⟩) n c xs
        (by rw [hsize]; exact run_firstCells_some (P := P) w.drew 1 n _ n c xs (by omega) holds) m h0 (by omega) (by omega) (by omega)
        (by have : m * i.bytes ≤ (n + m) * i.bytes := Nat.mul_le_mul_right _ (by omega)
            omega) (by omega)
      rw [hzs, zeroCells_one, zeroCells_one] at hr
      exact ⟨_, _, _, _, hr, gr, (Kp.refl w _).drew.alloc _, .inr ⟨_, rfl, Nat.le_refl _⟩⟩

theorem wpList_app_zeros {ops : Array Oper} {rest : List Oper} {o : Oper} {a : Act} {Q : Exit → Act → World → Prop} (hgd : Region.wanted o (yielded ops a.tmps) = true) (s x : Operand) (t tn : TypeId)
    (ho : o.op = .call { callee := .builtin .append, args := #[s, x], argTypes := #[t, tn] })
    (e : TypeId) (i : TypeInfo) (z : Value) (bytes : Nat) (k kn : IntKind) (ht : P.underlying t = some (.slice e)) (htn : P.underlying tn = some (.int kn)) (hi : P.info? e = some i) (hz : i.zero = some z)
    (hsize : i.size = 1) (hby : i.bytes = bytes) (hzs : z.cells = #[z]) (hz1 : z.oneCell' = true)
    (A : Option Addr) (n c : Nat) (xs : List Value) (r : Option Nat) (hs : a.eval s = .slice A n c) (hrow : Row w e 1 A n c xs r)
    (q : Int) (m : Nat) (hx : a.eval x = .int k q) (hq : q = m) (h0 : 0 < m) (N : Nat) (hN : n + m = N) (hbytes : N * bytes ≤ 140737488355328) (hmax : N ≤ maxLen)
    (h : ∀ A' c' r' w', Row w' e 1 A' N c' (xs ++ List.replicate m z) r' → Kp w w' (fun k => r = some k) → Fr w r r' → wpList P ops Q rest (a.put o.dst (.slice A' N c')) w') :
    wpList P ops Q (o :: rest) a w := by
  subst hq
  subst hN
  obtain ⟨A', c', r', w', hr, q1, q2, q3⟩ := run_app_zeros (P := P) (w := w) t tn o.type e i z bytes k kn ht htn hi hz hsize hby hzs hz1 A n c xs r hrow m h0 hbytes hmax
  refine wpList_ok hgd ?_ (h A' c' r' w' q1 q2 q3)
  unfold execOp
  simp only [ho, resolve, invoke, builtin, Sem.run_bind, Sem.run_pure, Result.andThen_ok, List.map_toArray, List.map_cons, List.map_nil, hs, hx, hr]

/-! ### 6. Copy -/
theorem splice_take {α : Type} (L Y : List α) (n off : Nat) (hn : n ≤ L.length) (hk : off + Y.length ≤ n) :
    (L.take off ++ (Y ++ L.drop (off + Y.length))).take n = (L.take n).take off ++ (Y ++ (L.take n).drop (off + Y.length)) := by
  apply List.ext_getElem?
  intro i
  simp only [List.getElem?_take, List.getElem?_append, List.getElem?_drop, List.length_take]
  have h1 : min off L.length = off := by omega
  have h2 : min off (min n L.length) = off := by omega
  rw [h1, h2]
  by_cases a : i < n
  · rw [if_pos a]
    by_cases b : i < off
    · simp [b, a]
    · rw [if_neg b, if_neg b]
      by_cases c : i - off < Y.length
      · rw [if_pos c, if_pos c]
      · rw [if_neg c, if_neg c, if_pos (by omega)]
  · rw [if_neg a, if_neg (by omega), if_neg (by omega), if_neg (by omega)]

/-- copy(dst, src), elements of one cell: dst lies in a row that is known whole, from place 'off' on; src is whatever slice is read. -/
theorem wpList_cpy {ops : Array Oper} {rest : List Oper} {o : Oper} {a : Act} {Q : Exit → Act → World → Prop} (hgd : Region.wanted o (yielded ops a.tmps) = true) (d s : Operand) (dT sT : TypeId)
    (ho : o.op = .call { callee := .builtin .copy, args := #[d, s], argTypes := #[dT, sT] }) (elem : TypeId) (hu : P.underlying dT = some (.slice elem)) (hsz : (P.info? elem).map (·.size) = some 1)
    (dp sp : Option Addr) (dLen dCap sLen sCap : Nat) (hd : a.eval d = .slice dp dLen dCap) (hs : a.eval s = .slice sp sLen sCap)
    (A : Option Addr) (n c : Nat) (xs : List Value) (r : Option Nat) (hrow : Row w elem 1 A n c xs r)
    (off : Nat) (hoff : off + dLen = n) (hdp : 0 < dLen → ∃ g, A = some ⟨g, 0, none⟩ ∧ dp = some ⟨g, off, none⟩)
    (ys : List Value) (hrd : Rd w sp sLen sCap ys) (hys : ys.length = sLen) (h1 : ∀ v ∈ ys, v.oneCell' = true)
    (h : ∀ w', Row w' elem 1 A n c (xs.take off ++ (ys.take dLen ++ xs.drop (off + Nat.min sLen dLen))) r → Kp w w' (fun k => r = some k) → wpList P ops Q rest (a.put o.dst (goInt (Nat.min sLen dLen))) w') :
    wpList P ops Q (o :: rest) a w := by
  have hnx : xs.length = n := by simpa using hrow.1
  by_cases h0 : Nat.min sLen dLen = 0
  · have hrun0 := run_copy_none (P := P) w dT sT o.type elem dp sp dLen dCap sLen sCap hu hsz h0
    refine wpList_ok (v := goInt 0) (w' := w) hgd (by
      unfold execOp
      simp only [ho, resolve, invoke, builtin, Sem.run_bind, Sem.run_pure, Result.andThen_ok, List.map_toArray, List.map_cons, List.map_nil, hd, hs, hrun0]) ?_
    have e0 : ys.take dLen = [] := by
      have : (ys.take dLen).length = 0 := by rw [List.length_take, hys, Nat.min_comm]; exact h0
      exact List.eq_nil_of_length_eq_zero this
    have hh := h w (by rw [e0, h0]; simpa using hrow) (Kp.refl _ _)
    rw [h0] at hh
    exact hh
  · have hmin : Nat.min sLen dLen = min sLen dLen := rfl
    obtain ⟨g, rfl, rfl⟩ := hdp (by rw [hmin] at h0; omega)
    obtain ⟨ad, rfl⟩ : ∃ ad, sp = some ad := by
      cases sp with
      | some ad => exact ⟨ad, rfl⟩
      | none => have := hrd.2.2.1 rfl; have := hrd.1; rw [hmin] at h0; omega
    rcases hrow.2 with ⟨h, _⟩ | ⟨g', cur, hA, rfl, hg, hnc, hcm, hcs, htake⟩
    · simp at h
    · simp only [Option.some.injEq, Addr.mk.injEq, and_true] at hA
      subst hA
      have hcl : (ys.take dLen).length = Nat.min sLen dLen := by rw [List.length_take, hys, hmin]; omega
      have hrun0 := run_copy_row (P := P) w dT sT o.type elem g off dLen dCap ad sLen sCap cur elem (ys.take dLen) hu hsz hg hcl (by
        intro j v hv
        rw [List.getElem?_take] at hv
        split at hv
        · exact hrd.2.2.2 ad rfl j v hv
        · simp at hv) (by rw [hcl, hmin]; omega) (fun v hv => h1 v (List.mem_of_mem_take hv))
      refine wpList_ok (v := goInt (ys.take dLen).length) (w' := w.setRow g (cur.toList.take off ++ (ys.take dLen ++ cur.toList.drop (off + (ys.take dLen).length))).toArray) hgd (by
        unfold execOp
        simp only [ho, resolve, invoke, builtin, Sem.run_bind, Sem.run_pure, Result.andThen_ok, List.map_toArray, List.map_cons, List.map_nil, hd, hs, hrun0]
        try simp only [List.append_assoc]) ?_
      · have hlen : (ys.take dLen).length ≤ dLen := by rw [hcl, hmin]; omega
        have hh := h (w.setRow g (cur.toList.take off ++ (ys.take dLen ++ cur.toList.drop (off + (ys.take dLen).length))).toArray) ?_ ?_
        · rw [← hcl] at hh; exact hh
        · have ecur : cur.toList.length = c := by simp [hcs]
          refine ⟨?_, .inr ⟨g, _, rfl, rfl, setRow_heap w g cur _ elem _ hg, hnc, hcm, ?_, ?_⟩⟩
          · simp only [List.length_append, List.length_take, List.length_drop, hnx, hys, hmin]; omega
          · simp only [List.size_toArray, List.length_append, List.length_take, List.length_drop, ecur, hys]; omega
          · simp only [Nat.mul_one] at htake ⊢
            rw [← htake, ← hcl]
            exact splice_take _ _ n off (by omega) (by rw [hcl, hmin]; omega)
        · exact ⟨rfl, rfl, rfl, by simp, fun k _ hk => setRow_other w g k _ (fun e => hk (by simp [e]))⟩

/-- copy(row[off:], src). -/
theorem wpList_cpy_at {ops : Array Oper} {rest : List Oper} {o : Oper} {a : Act} {Q : Exit → Act → World → Prop} (hgd : Region.wanted o (yielded ops a.tmps) = true) (d s : Operand) (dT sT : TypeId)
    (ho : o.op = .call { callee := .builtin .copy, args := #[d, s], argTypes := #[dT, sT] }) (elem : TypeId) (hu : P.underlying dT = some (.slice elem)) (hsz : (P.info? elem).map (·.size) = some 1)
    (sp : Option Addr) (dLen dCap sLen sCap : Nat) (hs : a.eval s = .slice sp sLen sCap)
    (A : Option Addr) (n c : Nat) (xs : List Value) (r : Option Nat) (hrow : Row w elem 1 A n c xs r)
    (off : Nat) (hd : a.eval d = .slice (if c = off then A else A.map (fun x => x.add off)) dLen dCap) (hoff : off + dLen = n)
    (ys : List Value) (hrd : Rd w sp sLen sCap ys) (hys : ys.length = sLen) (h1 : ∀ v ∈ ys, v.oneCell' = true)
    (h : ∀ w', Row w' elem 1 A n c (xs.take off ++ (ys.take dLen ++ xs.drop (off + Nat.min sLen dLen))) r → Kp w w' (fun k => r = some k) → wpList P ops Q rest (a.put o.dst (goInt (Nat.min sLen dLen))) w') :
    wpList P ops Q (o :: rest) a w := by
  refine wpList_cpy hgd d s dT sT ho elem hu hsz _ sp dLen dCap sLen sCap hd hs A n c xs r hrow off hoff ?_ ys hrd hys h1 h
  intro h0
  obtain ⟨g, e1, _⟩ := hrow.addr (by omega)
  refine ⟨g, e1, ?_⟩
  have := hrow.le
  rw [if_neg (by omega), e1]
  simp [add_zero']
end

/-! ### 6b. Make -/
/-- make([]T, n), elements of one cell. -/
theorem wpList_mk {P : Program} {w : World} {ops : Array Oper} {rest : List Oper} {o : Oper} {a : Act} {Q : Exit → Act → World → Prop}
    (hg : Region.wanted o (yielded ops a.tmps) = true) (l c : Operand) (t : TypeId) (hop : o.op = Op.makeSlice t l c)
    (e : TypeId) (i : TypeInfo) (z : Value) (h1 : P.underlying t = some (.slice e)) (h2 : P.info? e = some i) (h3 : i.zero = some z) (h4 : i.size = 1) (hz : z.cells = #[z])
    (kl kc : IntKind) (L C : Int) (n : Nat) (hl : a.eval l = .int kl L) (hc : a.eval c = .int kc C) (hL : L = (n : Int)) (hC : C = (n : Int)) (b2 : i.bytes * n ≤ 281474976710656) (b3 : n ≤ maxLen)
    (hK : ∀ w', Row w' e 1 (some ⟨w.heap.size, 0, none⟩) n n (List.replicate n z) (some w.heap.size) → Kp w w' (fun _ => False) → wpList P ops Q rest (a.put o.dst (.slice (some ⟨w.heap.size, 0, none⟩) n n)) w') :
    wpList P ops Q (o :: rest) a w := by
  obtain ⟨w', hrun, hown, hgr⟩ := run_make_full (P := P) w w.heap.size t e i z 1 h1 h2 h3 h4 kl kc n b2 b3 (Nat.le_refl _)
  subst hL
  subst hC
  refine wpList_ok hg (w' := w') (by
    unfold execOp
    simp [hop, hl, hc, hrun, Result.andThen]) (hK w' ?_ ((Kp.of_grown hgr).mono (fun k h => by simp at h)))
  obtain ⟨A, c', r, e1, e2, hrow⟩ := Row.of_owns hown
  simp only [Value.slice.injEq] at e1
  obtain ⟨rfl, -, rfl⟩ := e1
  have e3 : (madeCells z.cells (n * 1)).toList = List.replicate n z := by rw [hz, Nat.mul_one]; exact toList_madeCells_one z n
  rw [e3] at hrow
  rw [e2] at hrow
  exact hrow

/-! ### 7. Small words for laws -/
/-- A block is new since w. -/
def New (w : World) (r : Option Nat) : Prop := ∀ k, r = some k → w.heap.size ≤ k
theorem New.none (w : World) : New w none := fun k h => by simp at h
theorem New.fr {w w1 : World} {r r' : Option Nat} (h : New w r) (hs : w.heap.size ≤ w1.heap.size) (hf : Fr w1 r r') : New w r' := fun k hk => by
  rcases hf.of_lt hk with e | e
  · exact h k e
  · omega
theorem New.mono {w w1 : World} {r : Option Nat} (h : New w1 r) (hs : w.heap.size ≤ w1.heap.size) : New w r := fun k hk => Nat.le_trans hs (h k hk)
theorem Kp.step {w w1 w2 : World} {g : Nat} {r : Option Nat} {S : Nat → Prop} (h : Kp w w1 S) (k : Kp w1 w2 (fun j => j = g ∨ r = some j)) (hg : w.heap.size ≤ g) (hr : New w r) : Kp w w2 S :=
  h.trans k (fun j hj => .inr (by
    rcases hj with e | e
    · omega
    · exact hr j e))
theorem Kp.quiet {w w1 w2 : World} {S : Nat → Prop} (h : Kp w w1 S) (k : Kp w1 w2 (fun _ => False)) : Kp w w2 S := h.trans k (fun _ h => h.elim)
theorem Rd.lit (w : World) (e : TypeId) (fr : Nat × Nat) (n : Nat) (cs : List Value) (hn : n ≤ maxLen) : Rd (w.alloc (.cells cs.toArray e fr)) (some ⟨w.heap.size, 0, none⟩) n n cs := by
  refine ⟨Nat.le_refl _, hn, by simp, ?_⟩
  intro ad ha j u hu
  simp only [Option.some.injEq] at ha
  subst ha
  have hb : (w.alloc (.cells cs.toArray e fr)).heap[w.heap.size]? = some (.cells cs.toArray e fr) := heap_alloc_new w _
  rw [add_zero', cell_of_row _ _ _ _ _ _ hb]
  simpa using hu
/-- string(b). -/
theorem run_string_rd {P : Program} {w : World} {src dst e : TypeId} (hs : P.underlying src = some (.slice e)) (he : P.underlying e = some (.int .u8)) (hd : P.underlying dst = some .string)
    {A : Option Addr} {n c : Nat} {x : List Int} (hrd : Rd w A n c (x.map (Value.int .u8))) (hx : x.length = n) : (convert src dst (.slice A n c)).run P w = .ok (.string (strOfNums x)) w := by
  cases A with
  | none =>
    have h0 := hrd.2.2.1 rfl
    have h1 := hrd.1
    have : x = [] := List.eq_nil_of_length_eq_zero (by omega)
    subst this
    exact run_convert_bytes_nil w src e hs he n c dst hd
  | some ad =>
    by_cases hn : n = 0
    · have : x = [] := List.eq_nil_of_length_eq_zero (by omega)
      subst this
      subst hn
      rw [run_convert_bytes_string w src dst e _ 0 c hs he hd]
      simp [Conv.bytesToString, loadCells, loadCellsFrom]
      rfl
    · obtain ⟨b, o, h, hc⟩ := hrd.base (by omega) (by simp; omega)
      simp only [Option.some.injEq] at h
      subst h
      refine run_convert_bytes_arg w src e hs he b o n c x hx (fun i hi => ?_) dst hd
      refine hc i _ ?_
      rw [List.getElem?_map, List.getD_eq_getElem?_getD, List.getElem?_eq_getElem (by omega)]
      rfl

end Go.Proofs.YtkameiopahcacaaDoor
