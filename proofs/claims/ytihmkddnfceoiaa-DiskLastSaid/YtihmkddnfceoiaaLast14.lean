/- longwirelaw14.DiskLast answers true. Condition: the arguments are data. -/
import Derived.Test.YtihmkddnfceoiaaLastM14
import Derived.Test.YtihmkddnfceoiaaFew14
import Derived.Test.YtihmkddnfceoiaaEqB
import Derived.Test.YtihmkddnfceoiaaActs14
import Derived.Test.YtihmkddnfceoiaaL14
import Derived.Deep.DeepCutAuto
import Derived.Deep.CutBlock
set_option linter.unusedVariables false
set_option linter.unusedSimpArgs false
namespace Go.Proofs.Ytihmkddnfceoiaa
open Go.RowKit

def LPost (w : World) (e : Ending) (w' : World) : Prop := e = .returned (.bool true) ∧ Kp w w' (fun _ => False)

/-- Where a round stands. -/
def RelL (w : World) (gd : Nat) (L : List DAct) (A : Option Addr) (n c : Nat) (r : Option Nat) (N M k : Nat) (s di : Value) (W : World) : Prop :=
  ∃ done b rd Aw cw rw_, di = .int .i64 (done : Nat) ∧ s = .slice Aw b.length cw ∧ done ≤ k ∧ done ≤ N + 1 ∧ b.length ≤ 40 * k ∧ Lst14 w W gd rd (lastD N M done b) L A n c r Aw b.length cw b rw_

/-- Where the zeros stand. -/
def RelZ (w : World) (gd : Nat) (rd : Option Nat) (d : Dsk) (L : List DAct) (A : Option Addr) (n c : Nat) (r : Option Nat) (b : List Int) (z : Nat) (s : Value) (W : World) : Prop :=
  ∃ Aw cw rw_, s = .slice Aw (b.length + z) cw ∧ Lst14 w W gd rd d L A n c r Aw (b.length + z) cw (b ++ List.replicate z 0) rw_

theorem at_rem (x : Int) (m : Nat) (hm : m ≤ 1000000) : ∃ k : Nat, k ≤ m ∧ Value.int IntKind.i64 (wrap64 ((IntKind.u64.wrap x).tmod ((m : Int) + 1))) = Value.int IntKind.i64 (k : Int) := by
  have hu : 0 ≤ IntKind.u64.wrap x := by
    simp [IntKind.wrap, IntKind.signed, IntKind.bits]
    omega
  generalize IntKind.u64.wrap x = u at hu
  rw [Int.tmod_eq_emod_of_nonneg hu]
  have h1 : 0 ≤ u % ((m : Int) + 1) := Int.emod_nonneg _ (by omega)
  have h2 : u % ((m : Int) + 1) < (m : Int) + 1 := Int.emod_lt_of_pos _ (by omega)
  refine ⟨(u % ((m : Int) + 1)).toNat, by omega, ?_⟩
  congr 1
  rw [show ((u % ((m : Int) + 1)).toNat : Int) = u % ((m : Int) + 1) by omega]
  unfold wrap64
  omega

theorem last_on (b : List Int) (N : Nat) (hN : N ≤ 15) (hb : b.length ≤ 1000) : Dsk.put ⟨2000, b, N, false, false, 0, 0⟩ b.length [111, 110] = (0, ⟨2000, b ++ [111, 110], (N : Int) + 1, false, false, -1, 0⟩) := by
  unfold Dsk.put
  simp only
  rw [if_neg (by simp), if_neg (by omega), if_neg (by simp; omega), if_neg (by simp)]
  have e1 : layB b (b.length : Int).toNat [111, 110] = b ++ [111, 110] := by simp [layB]
  have e2 : wr64 ((N : Int) + 1) = (N : Int) + 1 := by unfold wr64; omega
  have e3 : wr64 (0 - 1) = -1 := by unfold wr64; omega
  rw [e1, e2, e3]

theorem last_on_read (b : List Int) (p q : Int) (hb : b.length ≤ 1000) : Dsk.read ⟨2000, b ++ [111, 110], p, false, false, q, 0⟩ b.length 9 = [111, 110] := by
  unfold Dsk.read
  simp only
  rw [if_neg (by simp; omega)]
  simp

theorem last_read (N M done : Nat) (b : List Int) (hb : b.length ≤ 1000) : (lastD N M done b).read 0 2000 = b := by
  unfold Dsk.read
  rw [lastD_b, if_neg (by omega)]
  simp only [Int.toNat_zero, List.drop_zero]
  exact List.take_of_length_le (by show b.length ≤ 2000; omega)

theorem last_step {N M done m : Nat} {b x : List Int} (hN : N ≤ 15) (hd : ¬ N < done) (hm : (if done = N then min x.length M else x.length) = m) (at_ : Nat) (h1 : at_ ≤ b.length) (h2 : x.length ≤ 40) (h3 : b.length ≤ 1000) :
    ∃ v, (lastD N M done b).put at_ x = (v, lastD N M (done + 1) (layB b at_ (x.take m))) ∧ ((done < N ∧ v = 0) ∨ (done = N ∧ v = 10)) := by
  by_cases h : done = N
  · subst h
    rw [if_pos rfl] at hm
    refine ⟨10, ?_, .inr ⟨rfl, rfl⟩⟩
    rw [last_put_no at_ x h1 h2 h3]
    have : x.take M = x.take m := by
      subst hm
      by_cases hh : x.length ≤ M
      · rw [List.take_of_length_le hh, List.take_of_length_le (by omega)]
      · rw [show min x.length M = M by omega]
    rw [this]
  · rw [if_neg h] at hm
    refine ⟨0, ?_, .inl ⟨by omega, rfl⟩⟩
    rw [last_put_ok hN (by omega) at_ x h1 h2 h3, ← hm, List.take_length]

set_option maxRecDepth 100000 in
set_option maxHeartbeats 4000000 in
theorem last_any (w : World) (A : Option Addr) (n c : Nat) (l : List DAct) (hl : l.length = n) (hrd : Rd w A n c (actCells l)) (hok : ∀ a ∈ l, a.Ok w w.heap.size) (p8 m8 : Int) (hp0 : 0 ≤ p8) (hp1 : p8 ≤ 255) (hm0 : 0 ≤ m8) (hm1 : m8 ≤ 255) :
    Calls Try.prog 6 #[.slice A n c, .int .u8 p8, .int .u8 m8] w (LPost w) := by
  obtain ⟨i0, hi, hz0, hz1, hz2⟩ := info_parts i_byte
  have hcv := cv_bytes
  have hlV := V.mk hl
  clear hl
  obtain ⟨N, hN⟩ : ∃ N : Nat, p8 % 15 = N := ⟨(p8 % 15).toNat, by omega⟩
  obtain ⟨M, hM⟩ : ∃ M : Nat, m8 % 50 = M := ⟨(m8 % 50).toNat, by omega⟩
  have hN14 : N ≤ 14 := by omega
  have hM49 : M ≤ 49 := by omega
  go_enter Try.func6, Try.ntmps6
  go_wp2_with fail
  refine (new_ok _ 2000 (by omega) (by omega)).mono ?_
  rintro e w1 ⟨rfl, hd1, kp1, hs1⟩
  have hp := plan_any _ _ _ _ hd1 N M
  have e2 : Dsk.plan ⟨2000, [], 0, false, false, 0, 0⟩ N M = (0, lastD N M 0 []) := by
    rw [lastD_go (Nat.zero_le _)]
    unfold Dsk.plan
    simp only
    rw [if_neg (by simp), if_neg (by omega)]
    simp
  rw [e2] at hp
  have hpV := V.mk hp
  clear hp e2
  go_wp2_with fail
  refine hpV.out.mono ?_
  rintro e w2 ⟨rfl, rd2, hd2, hk2, hf2⟩
  have P2 : Lst14 w w2 w.heap.size rd2 (lastD N M 0 []) [] none 0 0 none none 0 0 [] none :=
    ⟨kp1.step hk2 (Nat.le_refl _) (New.none _), hd2, lastD_ok _ _ _ _ (by simp), Nat.le_refl _, (New.none w).fr kp1.size hf2, Row.nil _ _ _, Row.nil _ _ _, New.none _, by simp⟩
  have hrd2 := hrd.kp P2.kp (fun _ _ _ h => h)
  obtain ⟨gd, hgd⟩ : ∃ g, g = w.heap.size := ⟨_, rfl⟩
  rw [← hgd] at P2
  rw [← hgd]
  clear hgd hd1 kp1 hs1 hd2 hk2 hf2 hpV hN hM
  go_wp2_with fail
  refine (few_any _ A n c l hlV.out hrd2 (fun a ha => by have := (hok a ha).rd; exact ⟨this.1, by have := this.2.1; simpa [maxLen] using this⟩)).mono ?_
  rintro e w3 ⟨A3, n3, c3, r3, rfl, hn3, hrow3, hnew3, hk3⟩
  have P3' := P2.quiet hk3
  have P3 : Lst14 w w3 gd rd2 (lastD N M 0 []) (fewOf l) A3 n3 c3 r3 none 0 0 [] none := ⟨P3'.kp, P3'.hd, P3'.ok, P3'.gd, P3'.nd, hrow3, P3'.want, P3'.nw_, P3'.sep⟩
  have hokL : ∀ a ∈ fewOf l, a.Ok w w.heap.size ∧ a.n ≤ 40 := by
    intro a ha
    simp only [fewOf, fewTo, List.mem_map] at ha
    obtain ⟨b, hb, rfl⟩ := ha
    exact ⟨(hok b (List.mem_of_mem_take hb)).cut 40, by show min b.n 40 ≤ 40; omega⟩
  have hLn : n3 ≤ 30 := by rw [← hn3]; simp [fewOf, fewTo]; omega
  generalize fewOf l = L at hn3 hrow3 hokL P3
  clear P2 hnew3 hk3 hrd2 P3' hrow3 hok hrd
  have hn3V := V.mk hn3
  have P3V := V.mk P3
  clear hn3 P3
  go_upto_block 0 with fail
  go_cut [11, 12] (fun s di W => ∃ k, k ≤ 12 ∧ RelL w gd L A3 n3 c3 r3 N M k s di W)
  case first =>
    go_wp2_with fail
    go_loopg [11, 12, 39] n3 (fun gg s di i wr => ∃ k, k ≤ n3 ∧ k ≤ 12 ∧ gg = n3 - k ∧ i = .int .i64 k ∧ RelL w gd L A3 n3 c3 r3 N M k s di wr)
    case atStart => exact ⟨0, Nat.zero_le _, by omega, rfl, rfl, 0, [], rd2, none, 0, none, rfl, rfl, Nat.le_refl _, by omega, by simp, P3V.out⟩
    case round =>
      obtain ⟨k, hk, hk12, hgk, rfl, done, b, rd, Aw, cw, rw_, rfl, rfl, hdk, hdN, hbl, hat⟩ := hrel
      have hgkV := V.mk hgk
      have hatV := V.mk hat
      clear hgk P3V
      by_cases hgo : k < n3
      · by_cases h12 : k = 12
        · subst h12
          have hkl : 12 < L.length := by rw [hn3V.out]; exact hgo
          obtain ⟨ab, ao, rfl, hcs⟩ := hat.row.rd.base (by omega) (by rw [actCells_length]; omega)
          obtain ⟨a, ha⟩ : ∃ a, a = L[12] := ⟨_, rfl⟩
          have x0 := hcs (12 * 4 + 0) (.int .i64 a.what) (by rw [actCells_at L 12 0 hkl (by omega), ← ha]; rfl)
          have x1 := hcs (12 * 4 + 1) (.int .i64 a.at_) (by rw [actCells_at L 12 1 hkl (by omega), ← ha]; rfl)
          have x2 := hcs (12 * 4 + 2) (.int .i64 a.many) (by rw [actCells_at L 12 2 hkl (by omega), ← ha]; rfl)
          have x3 := hcs (12 * 4 + 3) (.slice a.A a.n a.c) (by rw [actCells_at L 12 3 hkl (by omega), ← ha]; rfl)
          simp only [Nat.add_zero, ← Nat.add_assoc, Nat.reduceMul] at x0 x1 x2 x3
          clear hcs ha hat
          go_wp2_with fail
          go_meet
          exact ⟨12, by omega, done, b, rd, Aw, cw, rw_, rfl, rfl, hdk, hdN, hbl, hatV.out.quiet ((Kp.refl _ _).alloc _)⟩
        · have hkl : k < L.length := by rw [hn3V.out]; exact hgo
          obtain ⟨ab, ao, rfl, hcs⟩ := hat.row.rd.base (by omega) (by rw [actCells_length]; omega)
          obtain ⟨a, ha⟩ : ∃ a, a = L[k] := ⟨_, rfl⟩
          have hwa := hokL L[k] (List.getElem_mem hkl)
          rw [← ha] at hwa
          have x0 := hcs (k * 4 + 0) (.int .i64 a.what) (by rw [actCells_at L k 0 hkl (by omega), ← ha]; rfl)
          have x1 := hcs (k * 4 + 1) (.int .i64 a.at_) (by rw [actCells_at L k 1 hkl (by omega), ← ha]; rfl)
          have x2 := hcs (k * 4 + 2) (.int .i64 a.many) (by rw [actCells_at L k 2 hkl (by omega), ← ha]; rfl)
          have x3 := hcs (k * 4 + 3) (.slice a.A a.n a.c) (by rw [actCells_at L k 3 hkl (by omega), ← ha]; rfl)
          simp only [Nat.add_zero, ← Nat.add_assoc] at x0 x1 x2 x3
          clear hcs ha
          obtain ⟨hwa, h40⟩ := hwa
          have hk12' : ¬ (k : Int) = 12 := by omega
          go_upto_region 13 with fail
          obtain ⟨bx, hbx⟩ : ∃ b, b = wr.heap.size := ⟨_, rfl⟩
          have hb := Blk.new wr #[.int .i64 a.what, .int .i64 a.at_, .int .i64 a.many, .slice a.A a.n a.c] 39
          have hat1 := hat.quiet ((Kp.refl wr _).alloc (.cells #[.int .i64 a.what, .int .i64 a.at_, .int .i64 a.many, .slice a.A a.n a.c] 39))
          rw [← hbx] at hb
          rw [← hbx]
          clear hat x0 x1 x2 x3 hbx hatV
          generalize wr.alloc (.cells #[.int .i64 a.what, .int .i64 a.at_, .int .i64 a.many, .slice a.A a.n a.c] 39) = wa at hb hat1 ⊢
          have bV := V.mk hb
          have y1 := hb.cell' 1 rfl
          have y3 := hb.cell' 3 rfl
          have hatV := V.mk hat1
          have hao := hat1.act_ok hwa
          have haoV := V.mk hao
          have hlen := V.mk hao.len
          have hawV := V.mk (hat1.away hwa)
          have hwaV := V.mk hwa
          clear hat1 hb hwa hao
          have hb480 : b.length ≤ 440 := by omega
          go_cut [15] (fun s15 W => ∃ at_ : Nat, at_ ≤ b.length ∧ s15 = .int .i64 at_ ∧ wa = W)
          case first =>
            go_wp2_with fail
            go_meet
            obtain ⟨q, q1, q2⟩ := at_rem a.at_ b.length (by omega)
            exact ⟨q, q1, q2, rfl⟩
          case rest =>
            obtain ⟨at_, hatl, rfl, rfl⟩ := hcut
            have hp := put_any wa gd rd _ hatV.out.hd hatV.out.ok at_ a.A a.n a.c a.b hlen.out haoV.out.rd hawV.out
            by_cases hst : N < done
            · have hs := stopped_any wa gd rd _ hatV.out.hd
              rw [show (lastD N M done b).st = true by rw [lastD_st hst]] at hs
              rw [last_put_st hst] at hp
              have hsV := V.mk hs
              have hpV := V.mk hp
              have hne : ((done : Int) == (N : Int)) = false := by simp; omega
              clear hs hp
              go_wp2_with fail
              refine hsV.out.mono ?_
              rintro e w' ⟨rfl, rfl⟩
              go_wp2_with fail
              refine hpV.out.mono ?_
              rintro e w5 ⟨rfl, rd', hd5, hk5, hf5⟩
              have h5 := hatV.out.doD hd5 hk5 hf5 hatV.out.ok
              go_wp2_with fail
              go_roundg (n3 - (k + 1))
              case measure => have := hgkV.out; omega
              case rel => exact ⟨k + 1, by omega, by omega, rfl, by go_num, done, b, rd', Aw, cw, rw_, rfl, rfl, by omega, hdN, by omega, h5⟩
            · have hs := stopped_any wa gd rd _ hatV.out.hd
              rw [show (lastD N M done b).st = false by rw [lastD_go (by omega)]] at hs
              obtain ⟨m, hm⟩ : ∃ m, (if done = N then min a.b.length M else a.b.length) = m := ⟨_, rfl⟩
              obtain ⟨v, hpx, hv⟩ := last_step (by omega) hst hm at_ hatl (by rw [hlen.out]; exact h40) (by omega)
              rw [hpx] at hp
              have hsV := V.mk hs
              have hpV := V.mk hp
              have hvV := V.mk hv
              rw [hlen.out] at hm
              have hmn : m ≤ a.n := by rw [← hm]; split <;> omega
              have hmV := V.mk hm
              clear hs hp hpx hv hm
              go_upto_region 15 with fail
              go_cut [64] (fun t W => t = .bool (decide (done = N)) ∧ wa = W)
              case first =>
                by_cases hdn : done = N
                · have hq : ((done : Int) == (N : Int)) = true := by simp; omega
                  have hdnV := V.mk hdn
                  clear hdn
                  go_wp2_with fail
                  refine hsV.out.mono ?_
                  rintro e w' ⟨rfl, rfl⟩
                  go_wp2_with fail
                  go_meet
                  exact ⟨by rw [decide_eq_true hdnV.out], rfl⟩
                · have hq : ((done : Int) == (N : Int)) = false := by simp; omega
                  have hdnV := V.mk hdn
                  clear hdn
                  go_wp2_with fail
                  go_meet
                  exact ⟨by rw [decide_eq_false hdnV.out], rfl⟩
              case rest =>
                obtain ⟨rfl, rfl⟩ := hcut
                go_upto_if 64 with fail
                go_cut [16] (fun s W => s = .slice a.A m a.c ∧ wa = W)
                case first =>
                  by_cases hdn : done = N
                  · rw [decide_eq_true hdn]
                    have hm := hmV.out
                    rw [if_pos hdn] at hm
                    have hmV' := V.mk hm
                    have hac := haoV.out.rd.1
                    clear hdn hm
                    by_cases hmin : a.n ≤ M
                    · go_wp2_with fail
                      go_meet
                      exact ⟨by rw [← hmV'.out, show min a.n M = a.n by omega], rfl⟩
                    · go_wp2_with fail
                      go_meet
                      exact ⟨by rw [← hmV'.out, show min a.n M = M by omega], rfl⟩
                  · rw [decide_eq_false hdn]
                    have hm := hmV.out
                    rw [if_neg hdn] at hm
                    have hmV' := V.mk hm
                    clear hdn hm
                    go_wp2_with fail
                    go_meet
                    exact ⟨by rw [← hmV'.out], rfl⟩
                case rest =>
                  obtain ⟨rfl, rfl⟩ := hcut
                  go_wp2_with fail
                  refine hsV.out.mono ?_
                  rintro e w' ⟨rfl, rfl⟩
                  go_wp2_with fail
                  refine hpV.out.mono ?_
                  rintro e w5 ⟨rfl, rd', hd5, hk5, hf5⟩
                  have hll := layB_length b at_ (a.b.take m) hatl
                  rw [List.length_take, hlen.out] at hll
                  have h5 := hatV.out.doD hd5 hk5 hf5 (lastD_ok _ _ _ _ (by omega))
                  have h5V := V.mk h5
                  clear hd5 hk5 hf5 h5
                  go_upto_region 22 with fail
                  go_cut [94] (fun t W => t = .bool false ∧ w5 = W)
                  case first =>
                    rcases hvV.out with ⟨hv1, rfl⟩ | ⟨hv1, rfl⟩
                    · have hq : decide (done < N) = true := by simp; omega
                      clear hv1
                      go_wp2_with fail
                      go_meet
                      exact ⟨rfl, rfl⟩
                    · have hq : decide (done < N) = false := by simp; omega
                      clear hv1
                      go_wp2_with fail
                      go_meet
                      exact ⟨rfl, rfl⟩
                  case rest =>
                    obtain ⟨rfl, rfl⟩ := hcut
                    go_wp2_with fail
                    go_loopg [11] (at_ + m - b.length) (fun gg s wr => ∃ z, z ≤ at_ + m - b.length ∧ gg = at_ + m - b.length - z ∧ RelZ w gd rd' (lastD N M (done + 1) (layB b at_ (a.b.take m))) L (some ⟨ab, ao, none⟩) n3 c3 r3 b z s wr)
                    case atStart => exact ⟨0, Nat.zero_le _, rfl, Aw, cw, rw_, rfl, by simpa using h5V.out⟩
                    case round =>
                      obtain ⟨z, hz, hgz, Az, cz, rz, rfl, hlz⟩ := hrel
                      have hgzV := V.mk hgz
                      have hcc := hlz.want.le
                      clear hgz
                      by_cases hzt : b.length + z < at_ + m
                      · have hlzV := V.mk hlz
                        clear hlz
                        go_wp2_with (at_builtin; refine wpList_app (by rfl) (.tmp 102) (.tmp 103) 22 rfl 5 i0 (.int .u8 0) 1 1 u_bytes hi hz0 hz1 hz2 rfl (by decide) Az (b.length + z) cz _ rz (by rfl) (hlzV.out.want.alloc _) _ 1 1 [.int .u8 0] (by rfl) (Rd.lit _ _ _ 1 _ (by simp [maxLen])) rfl (by simp [Value.oneCell']) (b.length + z + 1) rfl (by omega) (by simp only [maxLen]; omega) ?_)
                        intro A6 c6 r6 w6 hrow6 hkp6 hfr6 _
                        have ez : B8 (b ++ List.replicate (z + 1) 0) = B8 (b ++ List.replicate z 0) ++ [.int .u8 0] := by
                          rw [List.replicate_succ', ← List.append_assoc, B8_append]
                          rfl
                        rw [← ez] at hrow6
                        have q := (hlzV.out.quiet ((Kp.refl wr _).alloc _)).doW hrow6 hkp6 hfr6
                        clear ez hrow6 hkp6 hfr6
                        go_wp2_with fail
                        go_roundg (at_ + m - b.length - (z + 1))
                        case measure => have := hgzV.out; omega
                        case rel => exact ⟨z + 1, by omega, rfl, A6, c6, r6, rfl, q⟩
                      · have hzT : z = at_ + m - b.length := by omega
                        have hzTV := V.mk hzT
                        clear hzT
                        have hrdm := rd_take (hlz.act_ok hwaV.out).rd m hmn
                        have hxm : (a.b.take m).length = m := by rw [List.length_take, hlen.out]; omega
                        have hxmV := V.mk hxm
                        have hllV := V.mk hll
                        have hlzV := V.mk hlz
                        have hrdmV := V.mk hrdm
                        clear hxm hll hlz hrdm
                        obtain ⟨AA, hAA⟩ : ∃ AA, (if cz = at_ then Az else Az.map (fun x => x.add at_)) = AA := ⟨_, rfl⟩
                        go_wp2_with ((with_reducible show wpList _ _ _ (⟨some 109, _, _, _, _, _⟩ :: _) _ _); (refine wpList_cpy_at (by rfl) (.tmp 107) (.tmp 108) 22 22 rfl 5 u_bytes (by rw [hi]; simp [hz1]) a.A (b.length + z - at_) (cz - at_) m a.c (by rfl) Az (b.length + z) cz _ rz hlzV.out.want at_ (by rw [hAA]; rfl) (by omega) (B8 (a.b.take m)) hrdmV.out (by simp [hxmV.out]) (B8_one _) ?_))
                        intro w7 hrow7 hkp7
                        rw [lay_zero b (a.b.take m) at_ m z hxmV.out hatl hzTV.out] at hrow7
                        have h7 := hlzV.out.doW hrow7 hkp7 (.inl rfl)
                        have hlen7 : (layB b at_ (a.b.take m)).length = b.length + z := by rw [hllV.out, hzTV.out]; omega
                        have hlen7V := V.mk hlen7
                        clear hrow7 hkp7 hlen7
                        go_wp2_with fail
                        go_roundg (n3 - (k + 1))
                        case measure => have := hgkV.out; omega
                        case rel => exact ⟨k + 1, by omega, by omega, rfl, by go_num, done + 1, layB b at_ (a.b.take m), rd', Az, cz, rz, by go_num, by rw [hlen7V.out], by omega, by omega, by rw [hlen7V.out, hzTV.out]; omega, by rw [hlen7V.out]; exact h7⟩
      · go_wp2_with fail
        go_meet
        exact ⟨k, hk12, done, b, rd, Aw, cw, rw_, rfl, rfl, hdk, hdN, hbl, hat⟩
  case rest =>
    obtain ⟨k, hk12, done, b, rd, Aw, cw, rw_, rfl, rfl, hdk, hdN, hbl, hat⟩ := hcut
    have hb480 : b.length ≤ 480 := by omega
    have hp := read_any wc gd rd _ hat.hd hat.ok 0 2000 (by omega)
    rw [last_read _ _ _ _ (by omega)] at hp
    have hpV := V.mk hp
    have hatV := V.mk hat
    clear hp hat P3V hbl
    go_wp2_with fail
    refine hpV.out.mono ?_
    rintro e w5 ⟨A5, n5, c5, r5, rfl, hrow5, new5, kp5⟩
    have h5 := hatV.out.quiet kp5
    have hl5 := hrow5.len
    rw [B8_length, Nat.mul_one] at hl5
    subst hl5
    have heV := V.mk (eq_bytes w5 A5 Aw b.length c5 cw b rfl hrow5.rd h5.want.rd (by omega))
    have h5V := V.mk h5
    clear h5 hrow5 new5 kp5 hpV hatV
    go_wp2_with fail
    refine heV.out.mono ?_
    rintro e w6 ⟨rfl, kp6⟩
    have h6 := h5V.out.quiet kp6
    clear h5V heV kp6
    by_cases hst : N < done
    · rw [lastD_st hst] at h6
      have hle : ¬ done ≤ N := by omega
      have h6V := V.mk h6
      clear h6
      go_wp2_with fail
      refine (end_any _ _ _ _ h6V.out.hd).mono ?_
      rintro e w' ⟨rfl, rfl⟩
      go_wp2_with fail
      refine (puts_any _ _ _ _ h6V.out.hd).mono ?_
      rintro e w' ⟨rfl, rfl⟩
      go_wp2_with fail
      refine (stopped_any _ _ _ _ h6V.out.hd).mono ?_
      rintro e w' ⟨rfl, rfl⟩
      go_wp2_with fail
      refine (stopped_any _ _ _ _ h6V.out.hd).mono ?_
      rintro e w' ⟨rfl, rfl⟩
      have hp := plan_any _ _ _ _ h6V.out.hd 1 1
      rw [show Dsk.plan ⟨2000, b, N, true, false, 0, 0⟩ 1 1 = (10, ⟨2000, b, N, true, false, 0, 0⟩) from rfl] at hp
      have hpV := V.mk hp
      clear hp
      go_wp2_with fail
      refine hpV.out.mono ?_
      rintro e w7 ⟨rfl, rd7, hd7, hk7, hf7⟩
      have h7 := h6V.out.doD hd7 hk7 hf7 h6V.out.ok
      have hp := put_any _ _ _ _ h7.hd h7.ok 0 none 0 0 [] rfl (Rd.nil _) (fun _ h => by simp at h)
      rw [show Dsk.put ⟨2000, b, N, true, false, 0, 0⟩ 0 [] = (10, ⟨2000, b, N, true, false, 0, 0⟩) from rfl] at hp
      have hpV := V.mk hp
      have h7V := V.mk h7
      clear hp h7 hd7 hk7 hf7 h6V
      go_wp2_with fail
      refine hpV.out.mono ?_
      rintro e w8 ⟨rfl, rd8, hd8, hk8, hf8⟩
      have h8 := h7V.out.doD hd8 hk8 hf8 h7V.out.ok
      have hp := revive_any _ _ _ _ h8.hd
      rw [show Dsk.revive ⟨2000, b, N, true, false, 0, 0⟩ = (0, ⟨2000, b, N, false, false, 0, 0⟩) from rfl] at hp
      have hpV := V.mk hp
      have h8V := V.mk h8
      clear hp h8 hd8 hk8 hf8 h7V
      go_wp2_with fail
      refine hpV.out.mono ?_
      rintro e w9 ⟨rfl, rd9, hd9, hk9, hf9⟩
      have h9 := h8V.out.doD hd9 hk9 hf9 ⟨by simp, by simp, by show ((b.length : Nat) : Int) ≤ 2000; omega, fun h => by simp at h⟩
      have h10 := h9.quiet ((Kp.refl w9 _).alloc (.cells #[.int .u8 111, .int .u8 110] 5 (2, 3)))
      have hp := put_any _ _ _ _ h10.hd h10.ok b.length _ 2 2 [111, 110] rfl (Rd.lit w9 5 (2, 3) 2 [.int .u8 111, .int .u8 110] (by simp [maxLen])) (away_new h9.hd.lt (fun k h => h9.hd.rlt h))
      rw [last_on b N (by omega) (by omega)] at hp
      have hpV := V.mk hp
      have h10V := V.mk h10
      clear hp h9 h10 hd9 hk9 hf9 h8V
      go_wp2_with fail
      refine hpV.out.mono ?_
      rintro e w11 ⟨rfl, rd11, hd11, hk11, hf11⟩
      have h11 := h10V.out.doD hd11 hk11 hf11 ⟨by simp, by simp, by show (((b ++ [111, 110]).length : Nat) : Int) ≤ 2000; simp; omega, fun h => by simp at h⟩
      have hp := read_any _ _ _ _ h11.hd h11.ok b.length 9 (by omega)
      rw [last_on_read b _ _ (by omega)] at hp
      have hpV := V.mk hp
      have h11V := V.mk h11
      clear hp h11 hd11 hk11 hf11 h10V
      go_wp2_with fail
      refine hpV.out.mono ?_
      rintro e w12 ⟨A12, n12, c12, r12, rfl, hrow12, new12, kp12⟩
      have h12 := h11V.out.quiet kp12
      have hl12 := hrow12.len
      rw [B8_length, Nat.mul_one] at hl12
      have hcv12 := run_string_rd u_bytes u_byte u_string hrow12.rd hl12
      have es12 : (strOfNums [111, 110]).toList = [111, 110] := by decide +kernel
      have hp := revive_any _ _ _ _ h12.hd
      rw [show Dsk.revive ⟨2000, b ++ [111, 110], (N : Int) + 1, false, false, -1, 0⟩ = (10, ⟨2000, b ++ [111, 110], (N : Int) + 1, false, false, -1, 0⟩) from rfl] at hp
      have hpV := V.mk hp
      have h12V := V.mk h12
      clear hp h12 hl12 hrow12 new12 kp12 h11V
      go_wp2_with fail
      refine hpV.out.mono ?_
      rintro e w13 ⟨rfl, rd13, hd13, hk13, hf13⟩
      have h13 := h12V.out.doD hd13 hk13 hf13 h12V.out.ok
      have h13V := V.mk h13
      clear h13 hd13 hk13 hf13 h12V
      go_wp2_with fail
      refine (tells_any _).mono ?_
      rintro e w14 ⟨rfl, hk14⟩
      go_wp2_with fail
      go_ret
      exact ⟨rfl, h13V.out.kp.quiet hk14⟩
    · rw [lastD_go (by omega)] at h6
      have hle : done ≤ N := by omega
      have h6V := V.mk h6
      clear h6
      go_wp2_with fail
      refine (end_any _ _ _ _ h6V.out.hd).mono ?_
      rintro e w' ⟨rfl, rfl⟩
      go_wp2_with fail
      refine (puts_any _ _ _ _ h6V.out.hd).mono ?_
      rintro e w' ⟨rfl, rfl⟩
      go_wp2_with fail
      refine (stopped_any _ _ _ _ h6V.out.hd).mono ?_
      rintro e w' ⟨rfl, rfl⟩
      go_wp2_with fail
      refine (stopped_any _ _ _ _ h6V.out.hd).mono ?_
      rintro e w' ⟨rfl, rfl⟩
      have hp := revive_any _ _ _ _ h6V.out.hd
      rw [show Dsk.revive ⟨2000, b, done, false, true, (N : Int) - done, M⟩ = (10, ⟨2000, b, done, false, true, (N : Int) - done, M⟩) from rfl] at hp
      have hpV := V.mk hp
      clear hp
      go_wp2_with fail
      refine hpV.out.mono ?_
      rintro e w13 ⟨rfl, rd13, hd13, hk13, hf13⟩
      have h13 := h6V.out.doD hd13 hk13 hf13 h6V.out.ok
      have h13V := V.mk h13
      clear h13 hd13 hk13 hf13 h6V
      go_wp2_with fail
      refine (tells_any _).mono ?_
      rintro e w14 ⟨rfl, hk14⟩
      go_wp2_with fail
      go_ret
      exact ⟨rfl, h13V.out.kp.quiet hk14⟩

end Go.Proofs.Ytihmkddnfceoiaa
