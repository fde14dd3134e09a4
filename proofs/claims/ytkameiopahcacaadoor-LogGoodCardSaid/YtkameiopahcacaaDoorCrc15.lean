/- scribe.Crc, as the program reckons it. Condition: the package's table stands as the text lays it. -/
import Derived.Test.YtkameiopahcacaaDoorBy
import Derived.Test.YtkameiopahcacaaDoorEqBy
import Derived.Laws.BitsLemmas
set_option linter.unusedVariables false
set_option linter.unusedSimpArgs false
set_option maxRecDepth 100000
namespace Go.Proofs.YtkameiopahcacaaDoor
open Go.RowKit

def tab16 : List Nat := [0x00000000, 0x1db71064, 0x3b6e20c8, 0x26d930ac, 0x76dc4190, 0x6b6b51f4, 0x4db26158, 0x5005713c, 0xedb88320, 0xf00f9344, 0xd6d6a3e8, 0xcb61b38c, 0x9b64c2b0, 0x86d3d2d4, 0xa00ae278, 0xbdbdf21c]
/-- The package's table stands. -/
def Tab (w : World) : Prop := ∀ (i : Nat) (v : Nat), tab16[i]? = some v → w.cell? ⟨0, i, none⟩ = some (.int .u32 v)
theorem Tab.kp {w w' : World} {S : Nat → Prop} (h : Tab w) (hk : Kp w w' S) (h0 : ¬ S 0) : Tab w' := fun i v hv => hk.cell (h i v hv) h0
def halfN (n : Nat) : Nat := (n / 16) ^^^ tab16.getD (n % 16) 0
theorem tab16_lt (i : Nat) : tab16.getD i 0 < 4294967296 := by
  by_cases h : i < 16
  · have h6 : ∀ j : Fin 16, tab16.getD j.val 0 < 4294967296 := by decide
    exact h6 ⟨i, h⟩
  · rw [List.getD_eq_getElem?_getD, List.getElem?_eq_none (by simp [tab16]; omega)]
    decide
theorem halfN_lt {n : Nat} (h : n < 4294967296) : halfN n < 4294967296 := by
  unfold halfN
  exact Nat.xor_lt_two_pow (n := 32) (by omega) (tab16_lt _)
theorem wraps_u32 (n : Int) (h₀ : 0 ≤ n) (h₁ : n < 2 ^ 32) : IntKind.u32.wrap n = n := by rw [IntKind.wrap_u32]; omega
theorem xor_u32 (a b : Nat) (ha : a < 4294967296) (hb : b < 4294967296) : bits .xor .u32 a b = ((a ^^^ b : Nat) : Int) :=
  by
  have hx : a ^^^ b < 4294967296 := Nat.xor_lt_two_pow (n := 32) ha hb
  have e : bits .xor .u32 (a : Int) (b : Int) = IntKind.u32.wrap ((BitVec.ofInt 32 (a : Int) ^^^ BitVec.ofInt 32 (b : Int)).toNat : Int) := rfl
  rw [e, BitVec.ofInt_natCast, BitVec.ofInt_natCast, BitVec.toNat_xor, BitVec.toNat_ofNat, BitVec.toNat_ofNat, Nat.mod_eq_of_lt (by simpa using ha), Nat.mod_eq_of_lt (by simpa using hb)]
  exact wraps_u32 _ (by omega) (by simpa using (show ((a ^^^ b : Nat) : Int) < 4294967296 by omega))
theorem not_u32 (r : Nat) (h : r < 4294967296) : bits .xor .u32 (IntKind.u32.max) r = 4294967295 - (r : Int) := by
  have e0 : IntKind.u32.max = ((4294967295 : Nat) : Int) := rfl
  rw [e0, xor_u32 4294967295 r (by omega) h]
  have h1 := congrArg BitVec.toNat (BitVec.allOnes_xor (x := BitVec.ofNat 32 r))
  rw [BitVec.toNat_xor, BitVec.toNat_allOnes, BitVec.toNat_ofNat, BitVec.toNat_not, BitVec.toNat_ofNat, Nat.mod_eq_of_lt (by simpa using h)] at h1
  have h2 : 4294967295 ^^^ r = 4294967295 - r := h1
  rw [h2]
  omega
theorem and15_u32 (n : Nat) (h : n < 4294967296) : bits .and .u32 n 15 = ((n % 16 : Nat) : Int) := by
  have := bits_mask .u32 32 (by decide) wraps_u32 4 (by decide) (n : Int) (by omega) (by omega)
  have e1 : ((2 : Int) ^ 4 - 1) = 15 := by decide
  have e2 : ((2 : Int) ^ 4) = 16 := by decide
  rw [e1, e2] at this
  rw [this]
  omega

theorem half_any (w : World) (ht : Tab w) (n : Nat) (h1 : n < 4294967296) :
    Calls Tryd.prog 40 #[.int .u32 n] w fun e w' => e = .returned (.int .u32 (halfN n : Nat)) ∧ w = w' := by
  obtain ⟨i, hi⟩ : ∃ i : Nat, n % 16 = i := ⟨_, rfl⟩
  have hi16 : i < 16 := by omega
  have ha := and15_u32 n h1
  rw [hi] at ha
  have hI0 : (0 : Int) ≤ (i : Int) := by omega
  have hI1 : (i : Int) < 16 := by omega
  have hc := ht i (tab16.getD i 0) (by rw [List.getD_eq_getElem?_getD, List.getElem?_eq_getElem (show i < tab16.length from hi16)]; rfl)
  have hx := xor_u32 (n / 16) (tab16.getD i 0) (by omega) (tab16_lt i)
  have hR : V (halfN n = (n / 16) ^^^ tab16.getD i 0) := ⟨by unfold halfN; rw [hi]⟩
  generalize tab16.getD i 0 = tv at *
  have hd : ((n / 16 : Nat) : Int) = (n : Int) / 16 := by omega
  rw [hd] at hx
  clear hi hd
  go_enter Tryd.func40, Tryd.ntmps40
  go_wp2
  go_ret
  refine ⟨?_, rfl⟩
  rw [hR.out]
  simp

def crcStep (n c : Nat) : Nat := halfN (halfN (n ^^^ c))
def crcFold (l : List Int) (n : Nat) : Nat := l.foldl (fun n c => crcStep n c.toNat) n
def crcN (l : List Int) : Nat := 4294967295 - crcFold l 4294967295
theorem crcStep_lt {n c : Nat} (h : n < 4294967296) (hc : c < 256) : crcStep n c < 4294967296 :=
  halfN_lt (halfN_lt (Nat.xor_lt_two_pow (n := 32) h (by omega)))
theorem crcFold_lt : ∀ (l : List Int) (n : Nat), n < 4294967296 → IsB l → crcFold l n < 4294967296
  | [], n, h, _ => h
  | c :: l, n, h, hb => crcFold_lt l (crcStep n c.toNat) (crcStep_lt h (by have := hb c (by simp); omega)) (fun x hx => hb x (by simp [hx]))
theorem crcFold_take_succ (l : List Int) (n k : Nat) (h : k < l.length) : crcFold (l.take (k + 1)) n = crcStep (crcFold (l.take k) n) (l[k]).toNat := by
  unfold crcFold
  rw [List.take_succ_eq_append_getElem h, List.foldl_append]
  rfl

theorem crc_any (w : World) (ht : Tab w) (A : Option Addr) (n c : Nat) (x : List Int) (hx : x.length = n) (hrd : Rd w A n c (B8 x)) (hb : IsB x) :
    Calls Tryd.prog 14 #[.slice A n c] w fun e w' => e = .returned (.int .u32 (crcN x : Nat)) ∧ w = w' := by
  have hnc : n ≤ c ∧ c ≤ 9223372036854775807 := ⟨hrd.1, by have := hrd.2.1; simpa [maxLen] using this⟩
  have hxV := V.mk hx
  have htV := V.mk ht
  clear hx ht
  go_enter Tryd.func14, Tryd.ntmps14
  go_wp2
  go_loopw [3, 5, 8] (fun r _ i wr => ∃ k : Nat, k ≤ n ∧ i = .int .i64 k ∧ r = .int .u32 (crcFold (x.take k) 4294967295 : Nat) ∧ V (w = wr)) (fun _ _ i _ => n - (intOf i).toNat)
  case atStart => exact ⟨0, Nat.zero_le _, rfl, by simp [crcFold], ⟨rfl⟩⟩
  case round =>
    obtain ⟨k, hk, rfl, rfl, hwr⟩ := hrel
    have hwr' := hwr.out
    subst hwr'
    have hr32 : crcFold (x.take k) 4294967295 < 4294967296 := crcFold_lt _ _ (by omega) (fun c hc => hb c (List.mem_of_mem_take hc))
    by_cases hgo : k < n
    · obtain ⟨ab, ao, rfl, hcs⟩ := hrd.base (by omega) (by simp [hxV.out, B8]; omega)
      have hkx : k < x.length := by rw [hxV.out]; exact hgo
      have hbk := hb x[k] (List.getElem_mem _)
      obtain ⟨y, hy⟩ : ∃ y : Nat, x[k] = y := ⟨x[k].toNat, by omega⟩
      have x0 := hcs k (.int .u8 y) (by simp [B8, hkx, hy])
      have hts := V.mk (crcFold_take_succ x 4294967295 k hkx)
      rw [hy] at hts hbk
      rw [Int.toNat_natCast] at hts
      clear hcs hy
      generalize crcFold (x.take k) 4294967295 = r at *
      have hxr := xor_u32 r y hr32 (by omega)
      have hx2 : r ^^^ y < 4294967296 := Nat.xor_lt_two_pow (n := 32) hr32 (by omega)
      have h1 := V.mk (half_any w htV.out (r ^^^ y) hx2)
      have h2 := V.mk (half_any w htV.out (halfN (r ^^^ y)) (halfN_lt hx2))
      obtain ⟨v1, hv1⟩ : ∃ v, r ^^^ y = v := ⟨_, rfl⟩
      have hst : V (crcFold (x.take (k + 1)) 4294967295 = halfN (halfN v1)) := ⟨by rw [hts.out, ← hv1]; rfl⟩
      rw [hv1] at hxr h1 h2
      clear hts hv1 hx2
      have hgd : decide ((k : Int) < (n : Int)) = true := by simp; omega
      have hgd2 : decide (k < n) = true := by simpa using hgo
      go_wp2_with fail
      refine h1.out.mono ?_
      rintro e w1 ⟨rfl, rfl⟩
      go_wp2_with fail
      refine h2.out.mono ?_
      rintro e w2 ⟨rfl, rfl⟩
      go_wp2
      go_roundw
      case rel => exact ⟨k + 1, by omega, by go_num, by rw [hst.out], ⟨trivial⟩⟩
      case measure => simp [intOf]; omega
    · obtain rfl : k = n := by omega
      have hend : x.take k = x := List.take_of_length_le (by rw [hxV.out]; omega)
      rw [hend] at hr32 ⊢
      have hR : V (((crcN x : Nat) : Int) = 4294967295 - (crcFold x 4294967295 : Nat)) := ⟨by unfold crcN; omega⟩
      generalize crcFold x 4294967295 = r at *
      go_wp2
      go_ret
      refine ⟨?_, rfl⟩
      rw [hR.out]
      simp
      exact not_u32 r hr32

end Go.Proofs.YtkameiopahcacaaDoor
