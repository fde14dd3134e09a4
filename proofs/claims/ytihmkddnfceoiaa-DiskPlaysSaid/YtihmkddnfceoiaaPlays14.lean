/- longwirelaw14.DiskPlays answers true. Condition: the calls are data. -/
import Derived.Test.YtihmkddnfceoiaaMid14
import Derived.Test.YtihmkddnfceoiaaL14
import Derived.Test.YtihmkddnfceoiaaActs14
import Derived.Deep.DeepCutAuto
import Derived.Deep.RegionHeld3
import Derived.Deep.CutBlock
set_option linter.unusedVariables false
set_option linter.unusedSimpArgs false
namespace Go.Proofs.Ytihmkddnfceoiaa
open Go.RowKit

def TPost (w : World) (e : Ending) (w' : World) : Prop := e = .returned (.bool true) ∧ Kp w w' (fun _ => False)

set_option maxRecDepth 100000 in
theorem plays_no (w : World) (cap : Int) (A : Option Addr) (n c : Nat) (hc : cap < 0 ∨ 1048576 < cap) :
    Calls Try.prog 4 #[.int .i64 cap, .slice A n c] w (TPost w) := by
  go_enter Try.func4, Try.ntmps4
  go_wp2_with fail
  refine (new_no _ cap hc).mono ?_
  rintro e w' ⟨rfl, rfl⟩
  go_wp2_with fail
  refine (rnew_no _ cap hc).mono ?_
  rintro e w' ⟨rfl, rfl⟩
  go_wp2_with fail
  refine (tells_any _).mono ?_
  rintro e w' ⟨rfl, hk⟩
  go_wp2_with fail
  go_ret
  exact ⟨rfl, hk⟩

/-- The two disks are one. -/
structure At14 (w W : World) (gd : Nat) (rd : Option Nat) (d : Dsk) (ge : Nat) (re : Option Nat) (e : Rdk) (L : List DAct) (A : Option Addr) (n c : Nat) (r : Option Nat) : Prop where
  mid : Mid14 w W gd rd d ge re e L A n c r
  like : d.like e

def Rel14 (w : World) (ge : Nat) (L : List DAct) (A : Option Addr) (n c : Nat) (r : Option Nat) (k : Nat) (d i : Value) (W : World) : Prop :=
  ∃ gd rd D re E, i = .int .i64 k ∧ d = .pointer (some ⟨gd, 0, none⟩) ∧ At14 w W gd rd D ge re E L A n c r

def Cut14 (w : World) (ge : Nat) (L : List DAct) (A : Option Addr) (n c : Nat) (r : Option Nat) (d got want : Value) (W : World) : Prop :=
  ∃ gd rd D re E x, d = .pointer (some ⟨gd, 0, none⟩) ∧ got = .int .i64 x ∧ want = .int .i64 x ∧ At14 w W gd rd D ge re E L A n c r

def Xor14 (w : World) (gd : Nat) (rd : Option Nat) (D : Dsk) (ge : Nat) (re : Option Nat) (E : Rdk) (L : List DAct) (A : Option Addr) (n c : Nat) (r : Option Nat) (A' : Option Addr) (n' c' : Nat) (r' : Option Nat) (k : Nat) (i : Value) (W : World) : Prop :=
  ∃ ys, i = .int .i64 k ∧ At14 w W gd rd D ge re E L A n c r ∧ Row W 5 1 A' n' c' (B8 ys) r'

theorem Xor14.next {w W : World} {gd : Nat} {rd : Option Nat} {D : Dsk} {ge : Nat} {re : Option Nat} {E : Rdk} {L : List DAct} {A : Option Addr} {n c : Nat} {r : Option Nat} {n' c' gb : Nat} {k : Nat} {ys : List Int}
    (h : At14 w W gd rd D ge re E L A n c r) (hr : Row W 5 1 (some ⟨gb, 0, none⟩) n' c' (B8 ys) (some gb)) (ho : Off (some gb) gd rd ge re) (hn : New w (some gb)) (i : Value) (k' : Nat) (hi : i = .int .i64 k') (z : Int) :
    Xor14 w gd rd D ge re E L A n c r (some ⟨gb, 0, none⟩) n' c' (some gb) k' i (W.setCell ⟨gb, k, none⟩ (.int .u8 z)) :=
  ⟨ys.set k z, hi, ⟨h.mid.store hr ho hn k _, h.like⟩, by have := hr.stored k (.int .u8 z); simpa [B8, List.map_set] using this⟩

set_option maxRecDepth 100000 in
set_option maxHeartbeats 2000000 in
theorem plays_yes (w : World) (cap : Int) (A : Option Addr) (n c : Nat) (l : List DAct) (hl : l.length = n) (hrd : Rd w A n c (actCells l)) (hlow : ∀ ad, A = some ad → actCells l ≠ [] → ad.block < w.heap.size) (hok : ∀ a ∈ l, a.Ok w w.heap.size) (hc0 : 0 ≤ cap) (hc1 : cap ≤ 1048576) :
    Calls Try.prog 4 #[.int .i64 cap, .slice A n c] w (TPost w) := by
  obtain ⟨i0, hi, hz0, hz1, hz2⟩ := info_parts i_byte
  have hlV := V.mk hl
  clear hl
  go_enter Try.func4, Try.ntmps4
  go_wp2_with fail
  refine (new_ok _ cap hc0 hc1).mono ?_
  rintro e w1 ⟨rfl, hd1, hk1, hs1⟩
  go_wp2_with fail
  refine (rnew_ok _ cap hc0 hc1).mono ?_
  rintro e w2 ⟨rfl, he2, hk2, hs2⟩
  have P2 : At14 w w2 w.heap.size none ⟨cap, [], 0, false, false, 0, 0⟩ w1.heap.size none ⟨cap, [], 0, false, -1, 0⟩ [] none 0 0 none :=
    ⟨⟨hk1.quiet hk2, hd1.kp hk2 (fun h => h) (fun _ _ h => h), he2, Dsk.new_ok hc0 hc1, Nat.le_refl _, hk1.size, New.none _, New.none _, by simp, Row.nil _ _ _⟩, ⟨rfl, rfl, rfl, rfl, by simp, fun _ => rfl⟩⟩
  have hrd2 := hrd.kp P2.mid.kp (fun _ _ _ h => h)
  obtain ⟨gd2, hgd2⟩ : ∃ g, g = w.heap.size := ⟨_, rfl⟩
  obtain ⟨ge, hge⟩ : ∃ g, g = w1.heap.size := ⟨_, rfl⟩
  generalize hD2 : (⟨cap, [], 0, false, false, 0, 0⟩ : Dsk) = D2 at P2
  generalize hE2 : (⟨cap, [], 0, false, -1, 0⟩ : Rdk) = E2 at P2
  rw [← hgd2, ← hge] at P2
  clear hd1 he2 hD2 hE2 hk1 hk2 hs1 hs2
  rw [← hgd2, ← hge]
  clear hgd2 hge
  go_wp2_with fail
  refine (few_any _ A n c l hlV.out hrd2 (fun a ha => by have := (hok a ha).rd; exact ⟨this.1, by have := this.2.1; simpa [maxLen] using this⟩)).mono ?_
  rintro e w3 ⟨A3, n3, c3, r3, rfl, hn3, hrow3, hnew3, hk3⟩
  have P3' := P2.mid.quiet hk3
  have P3 : At14 w w3 gd2 none D2 ge none E2 (fewOf l) A3 n3 c3 r3 := ⟨⟨P3'.kp, P3'.hd, P3'.he, P3'.ok, P3'.gd, P3'.ge, P3'.nd, P3'.ne, P3'.sep, hrow3⟩, P2.like⟩
  have hokL : ∀ a ∈ fewOf l, a.Ok w w.heap.size ∧ a.n ≤ 40 := by
    intro a ha
    simp only [fewOf, fewTo, List.mem_map] at ha
    obtain ⟨b, hb, rfl⟩ := ha
    exact ⟨(hok b (List.mem_of_mem_take hb)).cut 40, by show min b.n 40 ≤ 40; omega⟩
  have hLn : n3 ≤ 30 := by rw [← hn3]; simp [fewOf, fewTo]; omega
  generalize fewOf l = L at hn3 hrow3 hokL P3
  clear P2 hnew3 hk3 hrd2 P3' hrow3
  have hn3V := V.mk hn3
  clear hn3
  go_wp2_with fail
  go_loopg [5, 41] n3 (fun gg d i wr => ∃ k, k ≤ n3 ∧ gg = n3 - k ∧ Rel14 w ge L A3 n3 c3 r3 k d i wr)
  case atStart => exact ⟨0, Nat.zero_le _, rfl, gd2, none, D2, none, E2, rfl, rfl, P3⟩
  case round =>
    obtain ⟨k, hk, hgk, gd, rd, D, re, E, rfl, rfl, hat⟩ := hrel
    have hgkV := V.mk hgk
    clear hgk P3
    by_cases hgo : k < n3
    · have hkl : k < L.length := by rw [hn3V.out]; exact hgo
      obtain ⟨ab, ao, rfl, hcs⟩ := hat.mid.row.rd.base (by omega) (by rw [actCells_length]; omega)
      obtain ⟨a, ha⟩ : ∃ a, a = L[k] := ⟨_, rfl⟩
      have hwa := hokL L[k] (List.getElem_mem hkl)
      rw [← ha] at hwa
      have x0 := hcs (k * 4 + 0) (.int .i64 a.what) (by rw [actCells_at L k 0 hkl (by omega), ← ha]; rfl)
      have x1 := hcs (k * 4 + 1) (.int .i64 a.at_) (by rw [actCells_at L k 1 hkl (by omega), ← ha]; rfl)
      have x2 := hcs (k * 4 + 2) (.int .i64 a.many) (by rw [actCells_at L k 2 hkl (by omega), ← ha]; rfl)
      have x3 := hcs (k * 4 + 3) (.slice a.A a.n a.c) (by rw [actCells_at L k 3 hkl (by omega), ← ha]; rfl)
      simp only [Nat.add_zero, ← Nat.add_assoc] at x0 x1 x2 x3
      clear hcs ha
      obtain ⟨hwa, h40⟩ := hwa
      have hwV := V.mk hwa
      clear hwa
      go_upto_block 2 with fail
      obtain ⟨bx, hbx⟩ : ∃ b, b = wr.heap.size := ⟨_, rfl⟩
      have hb := Blk.new wr #[.int .i64 a.what, .int .i64 a.at_, .int .i64 a.many, .slice a.A a.n a.c] 39
      have hat1 : At14 w (wr.alloc (.cells #[.int .i64 a.what, .int .i64 a.at_, .int .i64 a.many, .slice a.A a.n a.c] 39)) gd rd D ge re E L _ n3 c3 r3 := ⟨hat.mid.quiet ((Kp.refl _ _).alloc _), hat.like⟩
      rw [← hbx] at hb
      rw [← hbx]
      clear hat x0 x1 x2 x3 hbx
      generalize wr.alloc (.cells #[.int .i64 a.what, .int .i64 a.at_, .int .i64 a.many, .slice a.A a.n a.c] 39) = wa at hb hat1 ⊢
      have bV := V.mk hb
      have y1 := hb.cell' 1 rfl
      have y2 := hb.cell' 2 rfl
      have y3 := hb.cell' 3 rfl
      have hatV := V.mk hat1
      clear hat1 hb
      go_cut [5, 11, 12, 46] (fun d got want t46 W => Cut14 w ge L (some ⟨ab, ao, none⟩) n3 c3 r3 d got want W)
      case first =>
        go_step
        go_step
        go_cut [47] (fun t W => t = .bool (decide (0 ≤ a.what ∧ a.what ≤ 4)) ∧ wa = W)
        case first =>
          go_wp2_with fail
          all_goals
            go_meet
            refine ⟨congrArg Value.bool ?_, rfl⟩
            simp only [beq_eq_false_iff_ne, beq_iff_eq] at *
            rw [Bool.eq_iff_iff, beq_iff_eq, decide_eq_true_iff]
            omega
        case rest =>
          obtain ⟨rfl, rfl⟩ := hcut
          by_cases h04 : 0 ≤ a.what ∧ a.what ≤ 4
          · rw [decide_eq_true h04]
            have hat := hatV.out
            have hao := hat.mid.act_ok hwV.out
            have hlV := V.mk hao.len
            obtain ⟨x, D', E', hpd, hpe, hlk, hok'⟩ := both_put hat.like hat.mid.ok a.at_ a.b
            have hpdV := V.mk hpd
            have hpeV := V.mk hpe
            clear hpd hpe
            go_wp2_with (at_builtin; refine wpList_app (by rfl) (.const (.slice none 0 0)) (.tmp 54) 22 rfl 5 i0 (.int .u8 0) 1 1 u_bytes hi hz0 hz1 hz2 rfl (by decide) none 0 0 [] none (by rfl) (Row.nil _ _ _) a.A a.n a.c (B8 a.b) (by rfl) hao.rd (by simp [hao.len]) (B8_one a.b) a.n (by omega) (by omega) (by simp only [maxLen]; omega) ?_)
            intro A5 c5 r5 w5 hrow5 hkp5 hfr5 _
            have kp5 : Kp wa w5 (fun _ => False) := hkp5.mono (fun k h => by simp at h)
            have new5 : New wa r5 := fun k hk => by
              rcases hfr5.of_lt hk with q | q
              · simp at q
              · exact q
            have hm5 := hat.mid.quiet kp5
            have off5 := hat.mid.new new5
            have lt5 : ∀ k, r5 = some k → k < w5.heap.size := fun k hk => hrow5.lt hk
            have hb5 := bV.out.kp kp5 (fun h => h)
            have y1 := hb5.cell' 1 rfl
            have y3 := hb5.cell' 3 rfl
            try simp only [List.nil_append] at hrow5
            have hput := put_any w5.drew gd rd D hm5.hd hm5.ok a.at_ A5 a.n c5 a.b hlV.out hrow5.rd (fun ad had hne => by
              obtain ⟨g5, e5, e6⟩ := hrow5.addr_some had
              subst e5
              have := (off5 g5 e6).1
              exact ⟨fun q => this (.inl q), fun q => this (.inr q)⟩)
            rw [hpdV.out] at hput
            have hputV := V.mk hput
            have hb5V := V.mk hb5
            have new5w : New w r5 := new5.mono hat.mid.kp.size
            clear hput hb5 hao hkp5 hfr5 kp5 new5
            go_wp2_with fail
            go_region_held3 (fun W => W.cell? ⟨bx, 1, none⟩ = some (.int .i64 a.at_) ∧ W.cell? ⟨bx, 3, none⟩ = some (.slice a.A a.n a.c)) (exact ⟨by assumption, by assumption⟩)
              ((first
                | (go_at_call 17
                   refine hput2V.out.mono ?_
                   rintro e w7 ⟨rfl, re', he7, hk7, hf7⟩
                   have hb7V := V.mk (hb6V.out.kp hk7 (hm6.blk hb6V.out).2)
                   have z1 := hb7V.out.cell' 1 rfl
                   have z3 := hb7V.out.cell' 3 rfl
                   have hm7 := hm6.doE he7 hk7 hf7
                   have off7 := off6.doE lt6 hf7
                   have hrow7 := hrow6.kp hk7 (fun k hk => (off6 k hk).2))
                | (go_at_call 8
                   refine hputV.out.mono ?_
                   rintro e w6 ⟨rfl, rd', hd6, hk6', hf6⟩
                   have hk6 := hk6'.of_drew
                   have hb6V := V.mk (hb5V.out.kp hk6 (hm5.blk hb5V.out).1)
                   have z1 := hb6V.out.cell' 1 rfl
                   have z3 := hb6V.out.cell' 3 rfl
                   have hm6 := hm5.doD hd6 hk6 hf6 hok'
                   have off6 := off5.doD lt5 hf6
                   have hrow6 := hrow5.kp hk6 (fun k hk => (off5 k hk).1)
                   have lt6 : ∀ k, r5 = some k → k < w6.heap.size := fun k hk => hrow6.lt hk
                   have hn := like_hn hat.like hat.mid.ok
                   have hput2 := rput_any w6 ge re E hm6.he a.at_ a.A a.n a.c a.b hlV.out (hm6.act_ok hwV.out).rd (hm6.away hwV.out).2 hn.1 hn.2.1 hn.2.2.1 (by omega)
                   rw [hpeV.out] at hput2
                   have hput2V := V.mk hput2
                   clear hput2 hn)
                          | fail "no arm fits"))
            have hat7 : At14 w w7 gd rd' D' ge re' E' L _ n3 c3 r3 := ⟨hm7, hlk⟩
            clear hm7 hm6 hrow6 hrow5 hput2V hputV
            go_wp2_with fail
            go_loopg [14] a.n (fun gg i wx => ∃ k, k ≤ a.n ∧ gg = a.n - k ∧ Xor14 w gd rd' D' ge re' E' L (some ⟨ab, ao, none⟩) n3 c3 r3 A5 a.n c5 r5 k i wx)
            case atStart => exact ⟨0, Nat.zero_le _, rfl, a.b, rfl, hat7, hrow7⟩
            case round =>
              obtain ⟨j, hj, hgj, ys, rfl, hatx, hrowx⟩ := hrel
              have hgjV := V.mk hgj
              clear hgj
              by_cases hjn : j < a.n
              · obtain ⟨gb, rfl, hr⟩ := hrowx.addr (by omega)
                subst hr
                have hyl := hrowx.len
                rw [B8_length, Nat.mul_one] at hyl
                have hc := hrowx.at_ j (.int .u8 (ys[j]'(by omega))) (by simp [B8, hyl, hjn])
                have hf := hrowx.free j
                have hcc := hrowx.le
                generalize ys[j]'(by omega) = yj at hc
                clear hyl z1 z3
                go_wp2_with fail
                go_roundg (a.n - (j + 1))
                case measure => have := hgjV.out; omega
                case rel => exact ⟨j + 1, by omega, rfl, Xor14.next hatx hrowx off7 new5w _ (j + 1) (by go_num) _⟩
              · go_wp2_with fail
                go_meet
                exact ⟨gd, rd', D', re', E', x, rfl, rfl, rfl, hatx⟩
          · rw [decide_eq_false h04]
            by_cases h5 : a.what = 5
            · have hat := hatV.out
              obtain ⟨x, D', E', hpd, hpe, hlk, hok'⟩ := both_plan hat.like hat.mid.ok a.at_ a.many hwV.out.at_.2
              have hput := plan_any wa.drew gd rd D hat.mid.hd a.at_ a.many
              rw [hpd] at hput
              have hputV := V.mk hput
              have hpeV := V.mk hpe
              clear hput hpd hpe
              go_wp2_with fail
              go_region_held3 (fun W => W.cell? ⟨bx, 1, none⟩ = some (.int .i64 a.at_) ∧ W.cell? ⟨bx, 2, none⟩ = some (.int .i64 a.many)) (exact ⟨by assumption, by assumption⟩)
                ((first
                  | (go_at_call 18
                     refine hput2V.out.mono ?_
                     rintro e w7 ⟨rfl, re', he7, hk7, hf7⟩
                     have hb7V := V.mk (hb6V.out.kp hk7 (hm6.blk hb6V.out).2)
                     have z1 := hb7V.out.cell' 1 rfl
                     have z2 := hb7V.out.cell' 2 rfl
                     have hm7 := hm6.doE he7 hk7 hf7)
                  | (go_at_call 9
                     refine hputV.out.mono ?_
                     rintro e w6 ⟨rfl, rd', hd6, hk6', hf6⟩
                     have hk6 := hk6'.of_drew
                     have hb6V := V.mk (bV.out.kp hk6 (hat.mid.blk bV.out).1)
                     have z1 := hb6V.out.cell' 1 rfl
                     have z2 := hb6V.out.cell' 2 rfl
                     have hm6 := hat.mid.doD hd6 hk6 hf6 hok'
                     have hput2 := rplan_any w6 ge re E hm6.he a.at_ a.many
                     rw [hpeV.out] at hput2
                     have hput2V := V.mk hput2
                     clear hput2)
                          | fail "no arm fits"))
              go_wp2_with fail
              go_meet
              exact ⟨gd, rd', D', re', E', x, rfl, rfl, rfl, hm7, hlk⟩
            by_cases h67 : a.what = 6 ∨ a.what = 7
            · have hat := hatV.out
              obtain ⟨x, D', E', hpd, hpe, hlk, hok'⟩ := both_revive hat.like hat.mid.ok
              have hput := revive_any wa gd rd D hat.mid.hd
              rw [hpd] at hput
              have hputV := V.mk hput
              have hpeV := V.mk hpe
              clear hput hpd hpe
              rcases h67 with h6 | h7
              all_goals
                go_wp2_with fail
                refine hputV.out.mono ?_
                rintro e w6 ⟨rfl, rd', hd6, hk6, hf6⟩
                have hm6 := hat.mid.doD hd6 hk6 hf6 hok'
                have hput2 := rrevive_any w6 ge re E hm6.he
                rw [hpeV.out] at hput2
                have hput2V := V.mk hput2
                clear hput2
                go_wp2_with fail
                refine hput2V.out.mono ?_
                rintro e w7 ⟨rfl, re', he7, hk7, hf7⟩
                have hm7 := hm6.doE he7 hk7 hf7
                go_wp2_with fail
                go_meet
                exact ⟨gd, rd', D', re', E', x, rfl, rfl, rfl, hm7, hlk⟩
            by_cases h8 : a.what = 8
            · have hat := hatV.out
              go_wp2_with fail
              refine (read_any wa gd rd D hat.mid.hd hat.mid.ok a.at_ a.many hwV.out.many.2).mono ?_
              rintro e w5 ⟨A5, n5, c5, r5, rfl, hrow5, new5, kp5⟩
              have hm5 := hat.mid.quiet kp5
              have off5 := hat.mid.new new5
              have new5w : New w r5 := New.mono new5 hat.mid.kp.size
              have hb5V := V.mk (bV.out.kp kp5 (fun h => h))
              have z1 := hb5V.out.cell' 1 rfl
              have z2 := hb5V.out.cell' 2 rfl
              have hlen := hrow5.len
              rw [B8_length, Nat.mul_one] at hlen
              have hread := rread_any w5.drew ge re E hm5.he a.at_ a.many (like_hn hat.like hat.mid.ok).2.2.2 hwV.out.at_.2
              rw [← Dsk.read_like hat.like] at hread
              generalize D.read a.at_ a.many = X at hread hrow5 hlen
              have hcv5 := run_string_rd (w := w5.drew) u_bytes u_byte u_string hrow5.rd.drew hlen
              have hlenV := V.mk hlen
              have hreadV := V.mk hread
              have rowV := V.mk hrow5
              clear hread hlen y1 y2 y3 hrow5
              go_wp2_with fail
              refine wp_region_held_drew (S := (fun W => W.cell? ⟨bx, 1, none⟩ = some (.int .i64 a.at_) ∧ W.cell? ⟨bx, 2, none⟩ = some (.int .i64 a.many) ∧ (convert 22 9 (.slice A5 n5 c5)).run Try.prog W = .ok (.string (strOfNums X)) W)) (by kernel_rfl) ?_ (fun hHeld => ?_)
              · (try dsimp only); exact ⟨by assumption, by assumption, by assumption⟩
              refine wpAnyH_take (i := 0) (oi := ⟨some 108, _, _, _, _, _⟩) (v := ?_) rfl (by kernel_rfl) (by kernel_rfl) (by kernel_rfl) (fun _ _ _ h => h) (Or.inl ⟨by rfl, ?_⟩) hHeld ?_
              rotate_left
              · intro W' hSw; (try dsimp only at hSw); go_simp <;> with_reducible rfl
              try simp only [Act.put, List.setIfInBounds_toArray, List.set_cons_zero, List.set_cons_succ]
              refine wpAnyH_take (i := 1) (oi := ⟨some 109, _, _, _, _, _⟩) (v := ?_) rfl (by kernel_rfl) (by kernel_rfl) (by kernel_rfl) (fun _ _ _ h => h) (Or.inl ⟨by rfl, ?_⟩) hHeld ?_
              rotate_left
              · intro W' hSw; (try dsimp only at hSw); go_simp <;> with_reducible rfl
              try simp only [Act.put, List.setIfInBounds_toArray, List.set_cons_zero, List.set_cons_succ]
              refine wpAnyH_take (i := 2) (oi := ⟨some 110, _, _, _, _, _⟩) (v := ?_) rfl (by kernel_rfl) (by kernel_rfl) (by kernel_rfl) (fun _ _ _ h => h) (Or.inl ⟨by rfl, ?_⟩) hHeld ?_
              rotate_left
              · intro W' hSw; (try dsimp only at hSw); go_simp <;> with_reducible rfl
              try simp only [Act.put, List.setIfInBounds_toArray, List.set_cons_zero, List.set_cons_succ]
              refine wpAnyH_take (i := 3) (oi := ⟨some 111, _, _, _, _, _⟩) (v := ?_) rfl (by kernel_rfl) (by kernel_rfl) (by kernel_rfl) (fun _ _ _ h => h) (Or.inl ⟨by rfl, ?_⟩) hHeld ?_
              rotate_left
              · intro W' hSw; (try dsimp only at hSw); go_simp <;> with_reducible rfl
              try simp only [Act.put, List.setIfInBounds_toArray, List.set_cons_zero, List.set_cons_succ]
              refine wpAnyH_take (i := 4) (oi := ⟨some 112, _, _, _, _, _⟩) (v := ?_) rfl (by kernel_rfl) (by kernel_rfl) (by kernel_rfl) (fun _ _ _ h => h) (Or.inl ⟨by rfl, ?_⟩) hHeld ?_
              rotate_left
              · intro W' hSw; (try dsimp only at hSw); go_simp <;> with_reducible rfl
              try simp only [Act.put, List.setIfInBounds_toArray, List.set_cons_zero, List.set_cons_succ]
              refine wpAnyH_take (i := 5) (oi := ⟨some 113, _, _, _, _, _⟩) (v := ?_) rfl (by kernel_rfl) (by kernel_rfl) (by kernel_rfl) (fun _ _ _ h => h) (Or.inl ⟨by rfl, ?_⟩) hHeld ?_
              rotate_left
              · intro W' hSw; (try dsimp only at hSw); go_simp <;> with_reducible rfl
              try simp only [Act.put, List.setIfInBounds_toArray, List.set_cons_zero, List.set_cons_succ]
              refine wpAnyH_take (i := 6) (oi := ⟨some 114, _, _, _, _, _⟩) (v := ?_) rfl (by kernel_rfl) (by kernel_rfl) (by kernel_rfl) (fun _ _ _ h => h) (Or.inl ⟨by rfl, ?_⟩) hHeld ?_
              rotate_left
              · intro W' hSw; (try dsimp only at hSw); go_simp <;> with_reducible rfl
              try simp only [Act.put, List.setIfInBounds_toArray, List.set_cons_zero, List.set_cons_succ]
              refine wpAnyH_ready (rs := [7]) (by kernel_rfl) (by simp) ?_
              refine AllReadyH.cons (o := ⟨some 115, _, _, _, _, _⟩) rfl (fun K hK => ?_) AllReadyH.nil
              go_simp
              refine hreadV.out.mono ?_
              rintro e w6 ⟨A6, n6, c6, r6, rfl, hrow6, new6, kp6'⟩
              have kp6 : Kp w5 w6 (fun _ => False) := kp6'.of_drew
              have hb6V := V.mk (hb5V.out.kp kp6 (fun h => h))
              have zz1 := hb6V.out.cell' 1 rfl
              have zz2 := hb6V.out.cell' 2 rfl
              have row6V := V.mk (rowV.out.kp kp6 (fun _ _ h => h))
              have hcv6 := run_string_rd (w := w6) u_bytes u_byte u_string row6V.out.rd hlenV.out
              have hlen6 := hrow6.len
              rw [B8_length, Nat.mul_one] at hlen6
              have hcvB := run_string_rd (w := w6) u_bytes u_byte u_string hrow6.rd hlen6
              have hat6 : At14 w w6 gd rd D ge re E L _ n3 c3 r3 := ⟨hm5.quiet kp6, hat.like⟩
              clear hlen6 hrow6
              clear hHeld
              refine hK.out _ _ ?_ (fun hHeld => ?_)
              · (try dsimp only); exact ⟨by assumption, by assumption, by assumption⟩
              clear hK K
              try simp only [Act.put, List.setIfInBounds_toArray, List.set_cons_zero, List.set_cons_succ]
              refine wpAnyH_ready (rs := [8]) (by kernel_rfl) (by simp) ?_
              refine AllReadyH.cons (o := ⟨some 116, _, _, _, _, _⟩) rfl (fun K hK => ?_) AllReadyH.nil
              go_simp
              clear hHeld
              refine hK.out _ _ ?_ (fun hHeld => ?_)
              · (try dsimp only); exact ⟨by assumption, by assumption, by assumption⟩
              clear hK K
              try simp only [Act.put, List.setIfInBounds_toArray, List.set_cons_zero, List.set_cons_succ]
              refine wpAnyH_take (i := 9) (oi := ⟨some 117, _, _, _, _, _⟩) (v := ?_) rfl (by kernel_rfl) (by kernel_rfl) (by kernel_rfl) (fun _ _ _ h => h) (Or.inl ⟨by rfl, ?_⟩) hHeld ?_
              rotate_left
              · intro W' hSw; (try dsimp only at hSw); go_simp <;> with_reducible rfl
              try simp only [Act.put, List.setIfInBounds_toArray, List.set_cons_zero, List.set_cons_succ]
              refine wpAnyH_done (by kernel_rfl) ?_ _
              all_goals
                clear hcv5 z1 z2
                go_wp2_with fail
                go_loopg [16] n5 (fun gg i wx => ∃ k, k ≤ n5 ∧ gg = n5 - k ∧ Xor14 w gd rd D ge re E L (some ⟨ab, ao, none⟩) n3 c3 r3 A5 n5 c5 r5 k i wx)
                case atStart => exact ⟨0, Nat.zero_le _, rfl, X, rfl, hat6, row6V.out⟩
                case round =>
                  obtain ⟨j, hj, hgj, ys, rfl, hatx, hrowx⟩ := hrel
                  have hgjV := V.mk hgj
                  clear hgj
                  have hcc := hrowx.le
                  have hn5 : n5 ≤ 9223372036854775807 := by have := hcc.2; simp only [maxLen] at this; omega
                  by_cases hjn : j < n5
                  · obtain ⟨gb, rfl, hr⟩ := hrowx.addr (by omega)
                    subst hr
                    have hyl := hrowx.len
                    rw [B8_length, Nat.mul_one] at hyl
                    have hc := hrowx.at_ j (.int .u8 (ys[j]'(by omega))) (by simp [B8, hyl, hjn])
                    have hf := hrowx.free j
                    generalize ys[j]'(by omega) = yj at hc
                    clear hyl
                    go_wp2_with fail
                    go_roundg (n5 - (j + 1))
                    case measure => have := hgjV.out; omega
                    case rel => exact ⟨j + 1, by omega, rfl, Xor14.next hatx hrowx off5 new5w _ (j + 1) (by go_num) _⟩
                  · go_wp2_with fail
                    go_meet
                    exact ⟨gd, rd, D, re, E, 0, rfl, rfl, rfl, hatx⟩
            by_cases h9 : a.what = 9
            · have hat := hatV.out
              go_wp2_with fail
              refine (copy_any wa gd rd D hat.mid.hd hat.mid.ok).mono ?_
              rintro e w5 ⟨gc, rc, rfl, hdc, hgc, hnc, kpc⟩
              go_wp2_with fail
              refine (put_any _ gc rc D (hdc.alloc _) hat.mid.ok 0 _ 3 3 [1, 2, 3] rfl (Rd.lit _ _ _ 3 _ (by simp [maxLen])) (away_new hdc.lt (fun k h => hdc.rlt h))).mono ?_
              rintro e w6 ⟨rfl, rc', hd6, hk6, hf6⟩
              have hm6 := hat.mid.quiet ((kpc.alloc _).step hk6 hgc hnc)
              go_wp2_with fail
              refine (copy_any w6 gd rd D hm6.hd hm6.ok).mono ?_
              rintro e w7 ⟨gd', rd', rfl, hd7, hg7, hn7, kp7⟩
              have hm7 := hm6.other kp7 hd7 hg7 hn7 hm6.ok
              go_wp2_with fail
              go_meet
              exact ⟨gd', rd', D, re, E, 0, rfl, rfl, rfl, hm7, hat.like⟩
            have hat := hatV.out
            have h6 : ¬ a.what = 6 := fun h => h67 (.inl h)
            have h7 : ¬ a.what = 7 := fun h => h67 (.inr h)
            clear h67
            go_wp2_with fail
            go_meet
            exact ⟨gd, rd, D, re, E, 0, rfl, rfl, rfl, hat⟩
      case rest =>
        clear hatV y1 y2 y3 bV
        obtain ⟨gd, rd, D, re, E, x, rfl, rfl, rfl, hat⟩ := hcut
        obtain ⟨Ae, ce, k0, k1, k2, k3, k4, k5, kf, HBe, hrowe⟩ := hat.mid.he.cells
        have hn := like_hn hat.like hat.mid.ok
        have hrd := read_any wc.drew gd rd D hat.mid.hd hat.mid.ok 0 1048576 (by omega)
        have e1 : D.read 0 1048576 = E.b := by
          rw [Dsk.read_like hat.like]
          unfold Rdk.read
          rw [if_neg (by omega)]
          simp only [Int.toNat_zero, List.drop_zero]
          exact List.take_of_length_le (by have := hn.2.2.2; omega)
        rw [e1] at hrd
        have hl0 := hrowe.len
        rw [B8_length, Nat.mul_one] at hl0
        have hcve := run_string_rd (w := wc.drew) u_bytes u_byte u_string hrowe.rd.drew rfl
        have hrdV := V.mk hrd
        have hbV := V.mk HBe
        have hrowV := V.mk hrowe
        have hln := hn.2.2.2
        clear e1 hrd hl0 k0 k4 k5 kf HBe hrowe hn
        go_wp2_with fail
        refine wp_region_held_drew (S := (fun W => W.cell? ⟨ge, 1, none⟩ = some (.slice Ae E.b.length ce) ∧ W.cell? ⟨ge, 2, none⟩ = some (.int .i64 E.puts) ∧ W.cell? ⟨ge, 3, none⟩ = some (.bool E.st) ∧ (convert 22 9 (.slice Ae E.b.length ce)).run Try.prog W = .ok (.string (strOfNums E.b)) W)) (by kernel_rfl) ?_ (fun hHeld => ?_)
        · (try dsimp only); exact ⟨by assumption, by assumption, by assumption, by assumption⟩
        refine wpAnyH_take (i := 0) (oi := ⟨some 139, _, _, _, _, _⟩) (v := ?_) rfl (by kernel_rfl) (by kernel_rfl) (by kernel_rfl) (fun _ _ _ h => h) (Or.inl ⟨by rfl, ?_⟩) hHeld ?_
        rotate_left
        · intro W' hSw; (try dsimp only at hSw); go_simp <;> with_reducible rfl
        try simp only [Act.put, List.setIfInBounds_toArray, List.set_cons_zero, List.set_cons_succ]
        refine wpAnyH_take (i := 1) (oi := ⟨some 140, _, _, _, _, _⟩) (v := ?_) rfl (by kernel_rfl) (by kernel_rfl) (by kernel_rfl) (fun _ _ _ h => h) (Or.inl ⟨by rfl, ?_⟩) hHeld ?_
        rotate_left
        · intro W' hSw; (try dsimp only at hSw); go_simp <;> with_reducible rfl
        try simp only [Act.put, List.setIfInBounds_toArray, List.set_cons_zero, List.set_cons_succ]
        refine wpAnyH_take (i := 2) (oi := ⟨some 141, _, _, _, _, _⟩) (v := ?_) rfl (by kernel_rfl) (by kernel_rfl) (by kernel_rfl) (fun _ _ _ h => h) (Or.inl ⟨by rfl, ?_⟩) hHeld ?_
        rotate_left
        · intro W' hSw; (try dsimp only at hSw); go_simp <;> with_reducible rfl
        try simp only [Act.put, List.setIfInBounds_toArray, List.set_cons_zero, List.set_cons_succ]
        refine wpAnyH_take (i := 3) (oi := ⟨some 142, _, _, _, _, _⟩) (v := ?_) rfl (by kernel_rfl) (by kernel_rfl) (by kernel_rfl) (fun _ _ _ h => h) (Or.inl ⟨by rfl, ?_⟩) hHeld ?_
        rotate_left
        · intro W' hSw; (try dsimp only at hSw); go_simp <;> with_reducible rfl
        try simp only [Act.put, List.setIfInBounds_toArray, List.set_cons_zero, List.set_cons_succ]
        refine wpAnyH_take (i := 4) (oi := ⟨some 143, _, _, _, _, _⟩) (v := ?_) rfl (by kernel_rfl) (by kernel_rfl) (by kernel_rfl) (fun _ _ _ h => h) (Or.inl ⟨by rfl, ?_⟩) hHeld ?_
        rotate_left
        · intro W' hSw; (try dsimp only at hSw); go_simp <;> with_reducible rfl
        try simp only [Act.put, List.setIfInBounds_toArray, List.set_cons_zero, List.set_cons_succ]
        refine wpAnyH_take (i := 7) (oi := ⟨some 146, _, _, _, _, _⟩) (v := ?_) rfl (by kernel_rfl) (by kernel_rfl) (by kernel_rfl) (fun _ _ _ h => h) (Or.inl ⟨by rfl, ?_⟩) hHeld ?_
        rotate_left
        · intro W' hSw; (try dsimp only at hSw); go_simp <;> with_reducible rfl
        try simp only [Act.put, List.setIfInBounds_toArray, List.set_cons_zero, List.set_cons_succ]
        refine wpAnyH_take (i := 8) (oi := ⟨some 147, _, _, _, _, _⟩) (v := ?_) rfl (by kernel_rfl) (by kernel_rfl) (by kernel_rfl) (fun _ _ _ h => h) (Or.inl ⟨by rfl, ?_⟩) hHeld ?_
        rotate_left
        · intro W' hSw; (try dsimp only at hSw); go_simp <;> with_reducible rfl
        try simp only [Act.put, List.setIfInBounds_toArray, List.set_cons_zero, List.set_cons_succ]
        refine wpAnyH_take (i := 9) (oi := ⟨some 148, _, _, _, _, _⟩) (v := ?_) rfl (by kernel_rfl) (by kernel_rfl) (by kernel_rfl) (fun _ _ _ h => h) (Or.inl ⟨by rfl, ?_⟩) hHeld ?_
        rotate_left
        · intro W' hSw; (try dsimp only at hSw); go_simp <;> with_reducible rfl
        try simp only [Act.put, List.setIfInBounds_toArray, List.set_cons_zero, List.set_cons_succ]
        refine wpAnyH_take (i := 10) (oi := ⟨some 149, _, _, _, _, _⟩) (v := ?_) rfl (by kernel_rfl) (by kernel_rfl) (by kernel_rfl) (fun _ _ _ h => h) (Or.inl ⟨by rfl, ?_⟩) hHeld ?_
        rotate_left
        · intro W' hSw; (try dsimp only at hSw); go_simp <;> with_reducible rfl
        try simp only [Act.put, List.setIfInBounds_toArray, List.set_cons_zero, List.set_cons_succ]
        refine wpAnyH_take (i := 11) (oi := ⟨some 150, _, _, _, _, _⟩) (v := ?_) rfl (by kernel_rfl) (by kernel_rfl) (by kernel_rfl) (fun _ _ _ h => h) (Or.inl ⟨by rfl, ?_⟩) hHeld ?_
        rotate_left
        · intro W' hSw; (try dsimp only at hSw); go_simp <;> with_reducible rfl
        try simp only [Act.put, List.setIfInBounds_toArray, List.set_cons_zero, List.set_cons_succ]
        refine wpAnyH_ready (rs := [5]) (by kernel_rfl) (by simp) ?_
        refine AllReadyH.cons (o := ⟨some 144, _, _, _, _, _⟩) rfl (fun K hK => ?_) AllReadyH.nil
        go_simp
        refine hrdV.out.mono ?_
        rintro e w5 ⟨A5, n5, c5, r5, rfl, hrow5, new5, kp5'⟩
        have kp5 : Kp wc w5 (fun _ => False) := kp5'.of_drew
        have hb5 := hbV.out.kp kp5 (fun h => h)
        have z1 := hb5.cell' 1 rfl
        have z2 := hb5.cell' 2 rfl
        have z3 := hb5.cell' 3 rfl
        have hcve5 := run_string_rd (w := w5) u_bytes u_byte u_string (hrowV.out.kp kp5 (fun _ _ h => h)).rd rfl
        have hlen5 := hrow5.len
        rw [B8_length, Nat.mul_one] at hlen5
        have hcv5 := run_string_rd (w := w5) u_bytes u_byte u_string hrow5.rd hlen5
        have hat5 : At14 w w5 gd rd D ge re E L _ n3 c3 r3 := ⟨hat.mid.quiet kp5, hat.like⟩
        have hend := end_any w5 gd rd D hat5.mid.hd
        have hputs := puts_any w5 gd rd D hat5.mid.hd
        have hst := stopped_any w5 gd rd D hat5.mid.hd
        rw [hat.like.b] at hend
        rw [hat.like.puts] at hputs
        rw [hat.like.st] at hst
        have hendV := V.mk hend
        have hputsV := V.mk hputs
        have hstV := V.mk hst
        clear hend hputs hst hlen5 hrow5 hb5
        clear hHeld
        refine hK.out _ _ ?_ (fun hHeld => ?_)
        · (try dsimp only); exact ⟨by assumption, by assumption, by assumption, by assumption⟩
        clear hK K
        try simp only [Act.put, List.setIfInBounds_toArray, List.set_cons_zero, List.set_cons_succ]
        refine wpAnyH_ready (rs := [6]) (by kernel_rfl) (by simp) ?_
        refine AllReadyH.cons (o := ⟨some 145, _, _, _, _, _⟩) rfl (fun K hK => ?_) AllReadyH.nil
        go_simp
        clear hHeld
        refine hK.out _ _ ?_ (fun hHeld => ?_)
        · (try dsimp only); exact ⟨by assumption, by assumption, by assumption, by assumption⟩
        clear hK K
        try simp only [Act.put, List.setIfInBounds_toArray, List.set_cons_zero, List.set_cons_succ]
        refine wpAnyH_take (i := 12) (oi := ⟨some 151, _, _, _, _, _⟩) (v := ?_) rfl (by kernel_rfl) (by kernel_rfl) (by kernel_rfl) (fun _ _ _ h => h) (Or.inl ⟨by rfl, ?_⟩) hHeld ?_
        rotate_left
        · intro W' hSw; (try dsimp only at hSw); go_simp <;> with_reducible rfl
        try simp only [Act.put, List.setIfInBounds_toArray, List.set_cons_zero, List.set_cons_succ]
        refine wpAnyH_take (i := 13) (oi := ⟨some 152, _, _, _, _, _⟩) (v := ?_) rfl (by kernel_rfl) (by kernel_rfl) (by kernel_rfl) (fun _ _ _ h => h) (Or.inl ⟨by rfl, ?_⟩) hHeld ?_
        rotate_left
        · intro W' hSw; (try dsimp only at hSw); go_simp <;> with_reducible rfl
        try simp only [Act.put, List.setIfInBounds_toArray, List.set_cons_zero, List.set_cons_succ]
        refine wpAnyH_take (i := 14) (oi := ⟨some 153, _, _, _, _, _⟩) (v := ?_) rfl (by kernel_rfl) (by kernel_rfl) (by kernel_rfl) (fun _ _ _ h => h) (Or.inl ⟨by rfl, ?_⟩) hHeld ?_
        rotate_left
        · intro W' hSw; (try dsimp only at hSw); go_simp <;> with_reducible rfl
        try simp only [Act.put, List.setIfInBounds_toArray, List.set_cons_zero, List.set_cons_succ]
        refine wpAnyH_take (i := 15) (oi := ⟨some 154, _, _, _, _, _⟩) (v := ?_) rfl (by kernel_rfl) (by kernel_rfl) (by kernel_rfl) (fun _ _ _ h => h) (Or.inl ⟨by rfl, ?_⟩) hHeld ?_
        rotate_left
        · intro W' hSw; (try dsimp only at hSw); go_simp <;> with_reducible rfl
        try simp only [Act.put, List.setIfInBounds_toArray, List.set_cons_zero, List.set_cons_succ]
        refine wpAnyH_take (i := 17) (oi := ⟨some 156, _, _, _, _, _⟩) (v := ?_) rfl (by kernel_rfl) (by kernel_rfl) (by kernel_rfl) (fun _ _ _ h => h) (Or.inl ⟨by rfl, ?_⟩) hHeld ?_
        rotate_left
        · intro W' hSw; (try dsimp only at hSw); go_simp <;> with_reducible rfl
        try simp only [Act.put, List.setIfInBounds_toArray, List.set_cons_zero, List.set_cons_succ]
        refine wpAnyH_take (i := 18) (oi := ⟨some 157, _, _, _, _, _⟩) (v := ?_) rfl (by kernel_rfl) (by kernel_rfl) (by kernel_rfl) (fun _ _ _ h => h) (Or.inl ⟨by rfl, ?_⟩) hHeld ?_
        rotate_left
        · intro W' hSw; (try dsimp only at hSw); go_simp <;> with_reducible rfl
        try simp only [Act.put, List.setIfInBounds_toArray, List.set_cons_zero, List.set_cons_succ]
        refine wpAnyH_take (i := 19) (oi := ⟨some 158, _, _, _, _, _⟩) (v := ?_) rfl (by kernel_rfl) (by kernel_rfl) (by kernel_rfl) (fun _ _ _ h => h) (Or.inl ⟨by rfl, ?_⟩) hHeld ?_
        rotate_left
        · intro W' hSw; (try dsimp only at hSw); go_simp <;> with_reducible rfl
        try simp only [Act.put, List.setIfInBounds_toArray, List.set_cons_zero, List.set_cons_succ]
        refine wpAnyH_take (i := 20) (oi := ⟨some 159, _, _, _, _, _⟩) (v := ?_) rfl (by kernel_rfl) (by kernel_rfl) (by kernel_rfl) (fun _ _ _ h => h) (Or.inl ⟨by rfl, ?_⟩) hHeld ?_
        rotate_left
        · intro W' hSw; (try dsimp only at hSw); go_simp <;> with_reducible rfl
        try simp only [Act.put, List.setIfInBounds_toArray, List.set_cons_zero, List.set_cons_succ]
        refine wpAnyH_take (i := 21) (oi := ⟨some 160, _, _, _, _, _⟩) (v := ?_) rfl (by kernel_rfl) (by kernel_rfl) (by kernel_rfl) (fun _ _ _ h => h) (Or.inl ⟨by rfl, ?_⟩) hHeld ?_
        rotate_left
        · intro W' hSw; (try dsimp only at hSw); go_simp <;> with_reducible rfl
        try simp only [Act.put, List.setIfInBounds_toArray, List.set_cons_zero, List.set_cons_succ]
        refine wpAnyH_ready (rs := [16]) (by kernel_rfl) (by simp) ?_
        refine AllReadyH.cons (o := ⟨some 155, _, _, _, _, _⟩) rfl (fun K hK => ?_) AllReadyH.nil
        go_simp
        refine hendV.out.mono ?_
        rintro e w' ⟨rfl, rfl⟩
        clear hHeld
        refine hK.out _ _ ?_ (fun hHeld => ?_)
        · (try dsimp only); exact ⟨by assumption, by assumption, by assumption, by assumption⟩
        clear hK K
        try simp only [Act.put, List.setIfInBounds_toArray, List.set_cons_zero, List.set_cons_succ]
        refine wpAnyH_take (i := 22) (oi := ⟨some 161, _, _, _, _, _⟩) (v := ?_) rfl (by kernel_rfl) (by kernel_rfl) (by kernel_rfl) (fun _ _ _ h => h) (Or.inl ⟨by rfl, ?_⟩) hHeld ?_
        rotate_left
        · intro W' hSw; (try dsimp only at hSw); go_simp <;> with_reducible rfl
        try simp only [Act.put, List.setIfInBounds_toArray, List.set_cons_zero, List.set_cons_succ]
        refine wpAnyH_take (i := 23) (oi := ⟨some 162, _, _, _, _, _⟩) (v := ?_) rfl (by kernel_rfl) (by kernel_rfl) (by kernel_rfl) (fun _ _ _ h => h) (Or.inl ⟨by rfl, ?_⟩) hHeld ?_
        rotate_left
        · intro W' hSw; (try dsimp only at hSw); go_simp <;> with_reducible rfl
        try simp only [Act.put, List.setIfInBounds_toArray, List.set_cons_zero, List.set_cons_succ]
        refine wpAnyH_take (i := 24) (oi := ⟨some 163, _, _, _, _, _⟩) (v := ?_) rfl (by kernel_rfl) (by kernel_rfl) (by kernel_rfl) (fun _ _ _ h => h) (Or.inl ⟨by rfl, ?_⟩) hHeld ?_
        rotate_left
        · intro W' hSw; (try dsimp only at hSw); go_simp <;> with_reducible rfl
        try simp only [Act.put, List.setIfInBounds_toArray, List.set_cons_zero, List.set_cons_succ]
        refine wpAnyH_take (i := 25) (oi := ⟨some 164, _, _, _, _, _⟩) (v := ?_) rfl (by kernel_rfl) (by kernel_rfl) (by kernel_rfl) (fun _ _ _ h => h) (Or.inl ⟨by rfl, ?_⟩) hHeld ?_
        rotate_left
        · intro W' hSw; (try dsimp only at hSw); go_simp <;> with_reducible rfl
        try simp only [Act.put, List.setIfInBounds_toArray, List.set_cons_zero, List.set_cons_succ]
        refine wpAnyH_take (i := 27) (oi := ⟨some 166, _, _, _, _, _⟩) (v := ?_) rfl (by kernel_rfl) (by kernel_rfl) (by kernel_rfl) (fun _ _ _ h => h) (Or.inl ⟨by rfl, ?_⟩) hHeld ?_
        rotate_left
        · intro W' hSw; (try dsimp only at hSw); go_simp <;> with_reducible rfl
        try simp only [Act.put, List.setIfInBounds_toArray, List.set_cons_zero, List.set_cons_succ]
        refine wpAnyH_take (i := 28) (oi := ⟨some 167, _, _, _, _, _⟩) (v := ?_) rfl (by kernel_rfl) (by kernel_rfl) (by kernel_rfl) (fun _ _ _ h => h) (Or.inl ⟨by rfl, ?_⟩) hHeld ?_
        rotate_left
        · intro W' hSw; (try dsimp only at hSw); go_simp <;> with_reducible rfl
        try simp only [Act.put, List.setIfInBounds_toArray, List.set_cons_zero, List.set_cons_succ]
        refine wpAnyH_take (i := 29) (oi := ⟨some 168, _, _, _, _, _⟩) (v := ?_) rfl (by kernel_rfl) (by kernel_rfl) (by kernel_rfl) (fun _ _ _ h => h) (Or.inl ⟨by rfl, ?_⟩) hHeld ?_
        rotate_left
        · intro W' hSw; (try dsimp only at hSw); go_simp <;> with_reducible rfl
        try simp only [Act.put, List.setIfInBounds_toArray, List.set_cons_zero, List.set_cons_succ]
        refine wpAnyH_take (i := 30) (oi := ⟨some 169, _, _, _, _, _⟩) (v := ?_) rfl (by kernel_rfl) (by kernel_rfl) (by kernel_rfl) (fun _ _ _ h => h) (Or.inl ⟨by rfl, ?_⟩) hHeld ?_
        rotate_left
        · intro W' hSw; (try dsimp only at hSw); go_simp <;> with_reducible rfl
        try simp only [Act.put, List.setIfInBounds_toArray, List.set_cons_zero, List.set_cons_succ]
        refine wpAnyH_ready (rs := [26]) (by kernel_rfl) (by simp) ?_
        refine AllReadyH.cons (o := ⟨some 165, _, _, _, _, _⟩) rfl (fun K hK => ?_) AllReadyH.nil
        go_simp
        refine hputsV.out.mono ?_
        rintro e w' ⟨rfl, rfl⟩
        clear hHeld
        refine hK.out _ _ ?_ (fun hHeld => ?_)
        · (try dsimp only); exact ⟨by assumption, by assumption, by assumption, by assumption⟩
        clear hK K
        try simp only [Act.put, List.setIfInBounds_toArray, List.set_cons_zero, List.set_cons_succ]
        refine wpAnyH_take (i := 31) (oi := ⟨some 170, _, _, _, _, _⟩) (v := ?_) rfl (by kernel_rfl) (by kernel_rfl) (by kernel_rfl) (fun _ _ _ h => h) (Or.inl ⟨by rfl, ?_⟩) hHeld ?_
        rotate_left
        · intro W' hSw; (try dsimp only at hSw); go_simp <;> with_reducible rfl
        try simp only [Act.put, List.setIfInBounds_toArray, List.set_cons_zero, List.set_cons_succ]
        refine wpAnyH_take (i := 32) (oi := ⟨some 171, _, _, _, _, _⟩) (v := ?_) rfl (by kernel_rfl) (by kernel_rfl) (by kernel_rfl) (fun _ _ _ h => h) (Or.inl ⟨by rfl, ?_⟩) hHeld ?_
        rotate_left
        · intro W' hSw; (try dsimp only at hSw); go_simp <;> with_reducible rfl
        try simp only [Act.put, List.setIfInBounds_toArray, List.set_cons_zero, List.set_cons_succ]
        refine wpAnyH_take (i := 33) (oi := ⟨some 172, _, _, _, _, _⟩) (v := ?_) rfl (by kernel_rfl) (by kernel_rfl) (by kernel_rfl) (fun _ _ _ h => h) (Or.inl ⟨by rfl, ?_⟩) hHeld ?_
        rotate_left
        · intro W' hSw; (try dsimp only at hSw); go_simp <;> with_reducible rfl
        try simp only [Act.put, List.setIfInBounds_toArray, List.set_cons_zero, List.set_cons_succ]
        refine wpAnyH_take (i := 34) (oi := ⟨some 173, _, _, _, _, _⟩) (v := ?_) rfl (by kernel_rfl) (by kernel_rfl) (by kernel_rfl) (fun _ _ _ h => h) (Or.inl ⟨by rfl, ?_⟩) hHeld ?_
        rotate_left
        · intro W' hSw; (try dsimp only at hSw); go_simp <;> with_reducible rfl
        try simp only [Act.put, List.setIfInBounds_toArray, List.set_cons_zero, List.set_cons_succ]
        refine wpAnyH_take (i := 36) (oi := ⟨some 175, _, _, _, _, _⟩) (v := ?_) rfl (by kernel_rfl) (by kernel_rfl) (by kernel_rfl) (fun _ _ _ h => h) (Or.inl ⟨by rfl, ?_⟩) hHeld ?_
        rotate_left
        · intro W' hSw; (try dsimp only at hSw); go_simp <;> with_reducible rfl
        try simp only [Act.put, List.setIfInBounds_toArray, List.set_cons_zero, List.set_cons_succ]
        refine wpAnyH_take (i := 37) (oi := ⟨some 176, _, _, _, _, _⟩) (v := ?_) rfl (by kernel_rfl) (by kernel_rfl) (by kernel_rfl) (fun _ _ _ h => h) (Or.inl ⟨by rfl, ?_⟩) hHeld ?_
        rotate_left
        · intro W' hSw; (try dsimp only at hSw); go_simp <;> with_reducible rfl
        try simp only [Act.put, List.setIfInBounds_toArray, List.set_cons_zero, List.set_cons_succ]
        refine wpAnyH_take (i := 38) (oi := ⟨some 177, _, _, _, _, _⟩) (v := ?_) rfl (by kernel_rfl) (by kernel_rfl) (by kernel_rfl) (fun _ _ _ h => h) (Or.inl ⟨by rfl, ?_⟩) hHeld ?_
        rotate_left
        · intro W' hSw; (try dsimp only at hSw); go_simp <;> with_reducible rfl
        try simp only [Act.put, List.setIfInBounds_toArray, List.set_cons_zero, List.set_cons_succ]
        refine wpAnyH_take (i := 39) (oi := ⟨some 178, _, _, _, _, _⟩) (v := ?_) rfl (by kernel_rfl) (by kernel_rfl) (by kernel_rfl) (fun _ _ _ h => h) (Or.inl ⟨by rfl, ?_⟩) hHeld ?_
        rotate_left
        · intro W' hSw; (try dsimp only at hSw); go_simp <;> with_reducible rfl
        try simp only [Act.put, List.setIfInBounds_toArray, List.set_cons_zero, List.set_cons_succ]
        refine wpAnyH_ready (rs := [35]) (by kernel_rfl) (by simp) ?_
        refine AllReadyH.cons (o := ⟨some 174, _, _, _, _, _⟩) rfl (fun K hK => ?_) AllReadyH.nil
        go_simp
        refine hstV.out.mono ?_
        rintro e w' ⟨rfl, rfl⟩
        clear hHeld
        refine hK.out _ _ ?_ (fun hHeld => ?_)
        · (try dsimp only); exact ⟨by assumption, by assumption, by assumption, by assumption⟩
        clear hK K
        try simp only [Act.put, List.setIfInBounds_toArray, List.set_cons_zero, List.set_cons_succ]
        refine wpAnyH_take (i := 40) (oi := ⟨some 179, _, _, _, _, _⟩) (v := ?_) rfl (by kernel_rfl) (by kernel_rfl) (by kernel_rfl) (fun _ _ _ h => h) (Or.inl ⟨by rfl, ?_⟩) hHeld ?_
        rotate_left
        · intro W' hSw; (try dsimp only at hSw); go_simp <;> with_reducible rfl
        try simp only [Act.put, List.setIfInBounds_toArray, List.set_cons_zero, List.set_cons_succ]
        refine wpAnyH_take (i := 41) (oi := ⟨some 180, _, _, _, _, _⟩) (v := ?_) rfl (by kernel_rfl) (by kernel_rfl) (by kernel_rfl) (fun _ _ _ h => h) (Or.inl ⟨by rfl, ?_⟩) hHeld ?_
        rotate_left
        · intro W' hSw; (try dsimp only at hSw); go_simp <;> with_reducible rfl
        try simp only [Act.put, List.setIfInBounds_toArray, List.set_cons_zero, List.set_cons_succ]
        refine wpAnyH_done (by kernel_rfl) ?_ _
        all_goals
          go_wp2_with fail
          go_roundg (n3 - (k + 1))
          case measure => have := hgkV.out; omega
          case rel => exact ⟨k + 1, by omega, rfl, gd, rd, D, re, E, by go_num, rfl, hat5⟩
    · clear hokL
      go_wp2_with fail
      refine (tells_any _).mono ?_
      rintro e w' ⟨rfl, hk⟩
      go_wp2_with fail
      go_ret
      exact ⟨rfl, hat.mid.kp.quiet hk⟩

theorem plays_any (w : World) (cap : Int) (A : Option Addr) (n c : Nat) (l : List DAct) (hl : l.length = n) (hrd : Rd w A n c (actCells l)) (hlow : ∀ ad, A = some ad → actCells l ≠ [] → ad.block < w.heap.size) (hok : ∀ a ∈ l, a.Ok w w.heap.size) :
    Calls Try.prog 4 #[.int .i64 cap, .slice A n c] w (TPost w) := by
  by_cases hc : cap < 0 ∨ 1048576 < cap
  · exact plays_no w cap A n c hc
  · exact plays_yes w cap A n c l hl hrd hlow hok (by omega) (by omega)

end Go.Proofs.Ytihmkddnfceoiaa
