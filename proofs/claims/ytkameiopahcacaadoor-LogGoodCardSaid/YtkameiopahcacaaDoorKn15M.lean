/- What LogKnown's calls answer, in plain words. No program here. -/
import Derived.Test.YtkameiopahcacaaDoorLogC15
import Derived.Test.YtkameiopahcacaaDoorFrm15X
import Derived.KernelRfl
set_option linter.unusedVariables false
set_option linter.unusedSimpArgs false
set_option maxRecDepth 100000
namespace Go.Proofs.YtkameiopahcacaaDoor

theorem Dsk.put_end {d : Dsk} {at_ : Nat} {x : List Int} (hs : d.st = false) (ha : at_ = d.b.length) (hc : (at_ : Int) + x.length ≤ d.cap) :
    (¬ (d.is = true ∧ d.p = 0) → d.put at_ x = (0, { d with b := d.b ++ x, puts := wr64 (d.puts + 1), p := wr64 (d.p - 1) })) ∧
    (d.is = true ∧ d.p = 0 → d.put at_ x = (10, { d with b := d.b ++ x.take d.n.toNat, st := true, is := false, p := 0, n := 0 })) := by
  have h1 : ¬ d.st = true := by rw [hs]; decide
  have h2 : ¬ ((at_ : Int) < 0 ∨ (d.b.length : Int) < at_) := by omega
  have h3 : ¬ (d.cap - at_ < x.length) := by omega
  have hl : ∀ y : List Int, layB d.b (at_ : Int).toNat y = d.b ++ y := fun y => by
    have e : (at_ : Int).toNat = d.b.length := by omega
    rw [e]
    unfold layB
    rw [List.take_length, List.drop_of_length_le (by omega), List.append_nil]
  constructor
  · intro h4
    unfold Dsk.put
    rw [if_neg h1, if_neg h2, if_neg h3, if_neg h4, hl]
  · intro h4
    unfold Dsk.put
    rw [if_neg h1, if_neg h2, if_neg h3, if_pos h4, hl]

theorem Lg.app_yes {l : Lg} {d d' : Dsk} {x : List Int} {sm : Nat} (hx : x.length ≤ 65535) (hs : checkN l.sum l.next x = sm) (hp : d.put l.at_ (frameN l.next sm x) = (0, d')) :
    l.app d x = ((l.next, 0), ⟨l.at_ + 10 + x.length, sm, (l.next + 1) % 4294967296⟩, d') := by
  subst hs
  unfold Lg.app
  rw [if_neg (by omega), hp, if_pos rfl]
theorem Lg.app_no {l : Lg} {d d' : Dsk} {x : List Int} {sm : Nat} {q : Int} (hx : x.length ≤ 65535) (hs : checkN l.sum l.next x = sm) (hp : d.put l.at_ (frameN l.next sm x) = (q, d')) (hq : q ≠ 0) :
    l.app d x = ((0, q), l, d') := by
  subst hs
  unfold Lg.app
  rw [if_neg (by omega), hp, if_neg hq]
def kx1 : List Int := [111, 110, 101]
def kbig : List Int := List.replicate 65535 0
def ks1 : Nat := 1404069162
def ks2 : Nat := checkN ks1 2 kbig
theorem ks1_eq : checkN 0 1 kx1 = ks1 := by kernel_rfl
theorem kbig_len : kbig.length = 65535 := List.length_replicate ..
def kc1 : List Int := frameN 1 ks1 kx1
def kc : List Int := kc1 ++ frameN 2 ks2 kbig
theorem kc1_len : kc1.length = 13 := frameN_length _ _ _
theorem kc_len : kc.length = 65558 := by
  unfold kc
  rw [List.length_append, kc1_len, frameN_length, kbig_len]
theorem kfull1 : framesL kc1 = [⟨kx1, 1, ks1, 13⟩] ∧ Full kc1 := by
  have h := framesL_full Full.nil (n := 1) (x := kx1) (t := []) rfl (checkN_lt _ _ _) (by decide)
  rw [show checkN (lastF (framesL [])).sum 1 kx1 = ks1 from ks1_eq] at h
  exact h
theorem kfull : framesL kc = [⟨kx1, 1, ks1, 13⟩, ⟨kbig, 2, ks2, 65558⟩] ∧ Full kc := by
  have h := framesL_full kfull1.2 (n := 2) (x := kbig) (t := []) (by rw [kfull1.1]; rfl) (checkN_lt _ _ _) (by rw [kbig_len]; decide)
  rw [show checkN (lastF (framesL kc1)).sum 2 kbig = ks2 by rw [kfull1.1]; rfl, kfull1.1, kc1_len, kbig_len] at h
  exact h
theorem kshort (t : List Int) (h : t.length < 10) : recE (kc ++ t) = ⟨kbig, 2, ks2, 65558⟩ := by
  unfold recE
  rw [framesL_app, framesFrom_short (by rw [kfull.2]; simp only [List.length_append]; omega), List.append_nil, kfull.1]
  rfl

def kd0 : Dsk := ⟨200000, [], 0, false, false, 0, 0⟩
def kd1 : Dsk := ⟨200000, kc1, 1, false, false, -1, 0⟩
def kd2 : Dsk := ⟨200000, kc, 2, false, false, -2, 0⟩
def kd3 : Dsk := ⟨200000, kc, 2, false, true, 0, 5⟩
def kt : List Int := [0, 3, 0, 0, 0]
def kd4 : Dsk := ⟨200000, kc ++ kt, 2, true, false, 0, 0⟩
def kd5 : Dsk := ⟨200000, kc ++ kt, 2, false, false, 0, 0⟩
def kd6 : Dsk := ⟨200000, kc ++ kt, 2, false, true, 0, 2⟩
def kt' : List Int := [0, 0, 0, 0, 0]
def kd7 : Dsk := ⟨200000, kc ++ kt', 2, true, false, 0, 0⟩
def kd8 : Dsk := ⟨200000, kc ++ kt', 2, false, false, 0, 0⟩
def kl1 : Lg := ⟨13, ks1, 2⟩
def kl2 : Lg := ⟨65558, ks2, 3⟩
theorem k_a : kd0.recov = (0, kd0) := by kernel_rfl
theorem k_b : (recG kd0.b).app kd0 kx1 = ((1, 0), kl1, kd1) := by kernel_rfl
theorem k_c (x : List Int) (hx : x.length = 65536) : kl1.app kd1 x = ((0, 3), kl1, kd1) := by
  unfold Lg.app
  rw [if_pos (by omega)]
theorem k_d : kl1.app kd1 kbig = ((2, 0), kl2, kd2) := by
  have hp : kd1.put (13 : Nat) (frameN 2 ks2 kbig) = (0, kd2) := (Dsk.put_end (d := kd1) (at_ := 13) (x := frameN 2 ks2 kbig) rfl kc1_len.symm (by rw [frameN_length, kbig_len]; decide)).1 (by decide)
  rw [Lg.app_yes (l := kl1) (d := kd1) (sm := ks2) (by rw [kbig_len]; decide) rfl hp, kbig_len]
  rfl
theorem k_e : kd2.plan 0 5 = (0, kd3) := rfl
def ktwo : List Int := [116, 119, 111]
theorem k_f : kl2.app kd3 ktwo = ((0, 10), kl2, kd4) := by
  have hp : kd3.put (65558 : Nat) (frameN 3 (checkN ks2 3 ktwo) ktwo) = (10, kd4) := (Dsk.put_end (d := kd3) (at_ := 65558) (x := frameN 3 (checkN ks2 3 ktwo) ktwo) rfl kc_len.symm (by rw [frameN_length]; decide)).2 ⟨rfl, rfl⟩
  exact Lg.app_no (l := kl2) (d := kd3) (sm := checkN ks2 3 ktwo) (by decide) rfl hp (by decide)
theorem k_g : kd4.recov = (10, kd4) := rfl
theorem k_h : kd4.revive = (0, kd5) := rfl
theorem k_i : kd5.plan 0 2 = (0, kd6) := rfl
theorem ktail_len (t : List Int) : (kc ++ t).length = 65558 + t.length := by rw [List.length_append, kc_len]
theorem k_j : kd6.recov = (10, kd7) := by
  unfold Dsk.recov
  rw [if_neg (by decide), show kd6.b = kc ++ kt from rfl, kshort kt (by decide), if_pos (by rw [ktail_len]; decide), ktail_len]
  unfold Dsk.put
  rw [if_neg (by decide), if_neg (by rw [show kd6.b = kc ++ kt from rfl, ktail_len]; decide), if_neg (by simp only [List.length_replicate]; decide), if_pos ⟨rfl, rfl⟩]
  have e : layB kd6.b (65558 : Int).toNat ((List.replicate 5 0).take 2) = kc ++ kt' := by
    show layB (kc ++ kt) 65558 [0, 0] = _
    unfold layB
    rw [List.take_left' kc_len, show 65558 + [(0:Int), 0].length = 65558 + 2 from rfl, ← List.drop_drop, List.drop_left' kc_len]
    rfl
  show (10, (⟨200000, layB kd6.b (65558 : Int).toNat ((List.replicate 5 0).take 2), 2, true, false, 0, 0⟩ : Dsk)) = _
  rw [e]
  rfl
theorem k_k : kd7.revive = (0, kd8) := rfl
theorem k_l : kd8.recov.1 = 0 ∧ recG kd8.b = kl2 := by
  constructor
  · unfold Dsk.recov
    rw [if_neg (by decide), show kd8.b = kc ++ kt' from rfl, kshort kt' (by decide), if_pos (by rw [ktail_len]; decide), ktail_len]
    unfold Dsk.put
    rw [if_neg (by decide), if_neg (by rw [show kd8.b = kc ++ kt' from rfl, ktail_len]; decide), if_neg (by simp only [List.length_replicate]; decide), if_neg (by decide)]
  · unfold recG
    rw [show kd8.b = kc ++ kt' from rfl, kshort kt' (by decide)]
    rfl
theorem k_read : kd1.read 0 100 = kc1 := by kernel_rfl
def kz0 : Dsk := ⟨12, [], 0, false, false, 0, 0⟩
def kz1 : Dsk := ((recG kz0.b).app kz0 [97, 98]).2.2
def kzl : Lg := ((recG kz0.b).app kz0 [97, 98]).2.1
theorem k_m : kz0.recov = (0, kz0) := by kernel_rfl
theorem k_n : (recG kz0.b).app kz0 [97, 98, 99] = ((0, 7), recG kz0.b, kz0) := by kernel_rfl
theorem k_o : ((recG kz0.b).app kz0 [97, 98]).1 = (1, 0) ∧ kzl.next = 2 := by constructor <;> kernel_rfl
theorem kcrc : crcN [0, 0, 0, 0, 0, 0, 0, 1, 0, 3, 111, 110, 101] = 1404069162 := by kernel_rfl
theorem kc1_eq : kc1 = [0, 3, 0, 0, 0, 1, 83, 176, 101, 42, 111, 110, 101] := by kernel_rfl

end Go.Proofs.YtkameiopahcacaaDoor
