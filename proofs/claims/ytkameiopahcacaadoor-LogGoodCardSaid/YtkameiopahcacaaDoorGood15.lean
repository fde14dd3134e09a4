/- longwirelaw15.LogGood: the walk: it answers true. Condition: the calls are data; the table stands. -/
import Derived.Test.YtkameiopahcacaaDoorGd15S
import Derived.Deep.DeepCutAuto
import Derived.Deep.CutBlock
set_option linter.unusedVariables false
set_option linter.unusedSimpArgs false
set_option maxRecDepth 100000
namespace Go.Proofs.YtkameiopahcacaaDoor
open Go.RowKit

/-- What is plain of where a round stands. -/
structure GdP (d : Dsk) (qs : List Pc) (lp : Pc) (left bits : Int) (c : List Int) (sum : Nat) : Prop where
  lf : LF c (qs.map (·.b)) sum
  chain : sum = chainS (qs.map (·.b))
  cap : d.cap = 3000
  st : (d.st = false ∧ (∃ m, d.b = c ++ List.replicate m 0) ∧ (d.is = true → d.n = left)) ∨
    (d.st = true ∧ ∃ m, d.b = c ++ ((frameN (qs.length + 1) (checkN sum (qs.length + 1) lp.b) lp.b).take bits.toNat ++ List.replicate m 0))
  l0 : 0 ≤ left ∧ left ≤ 9223372036854775807
  b0 : 0 ≤ bits ∧ bits ≤ 9223372036854775807

/-- Where a round stands, k calls being done. -/
def GdR (w : World) (dg : Nat) (A3 : Option Addr) (n3 c3 : Nat) (r3 : Option Nat) (L : List DAct) (k : Nat) (s5 s6 s7 s8 s9 s10 : Value) (W : World) : Prop :=
  ∃ (g : Nat) (r : Option Nat) (d : Dsk) (A1 : Option Addr) (n1 c1 : Nat) (r1 : Option Nat) (qs : List Pc) (lp : Pc) (left bits : Int) (c : List Int) (sum : Nat),
    s5 = .pointer (some ⟨g, 0, none⟩) ∧ s6 = .slice A1 n1 c1 ∧ s7 = .slice lp.A lp.n lp.c ∧ s8 = .int .i64 left ∧ s9 = .int .i64 bits ∧ s10 = .bool d.st ∧ n1 ≤ k ∧
    GdS w W dg g r d (lgF c (qs.map (·.b)) sum) A1 n1 c1 r1 qs lp A3 n3 c3 r3 L ∧ GdP d qs lp left bits c sum

theorem GdP.cases {d : Dsk} {qs : List Pc} {lp : Pc} {left bits : Int} {c : List Int} {sum : Nat} (h : GdP d qs lp left bits c sum) (hq : qs.length ≤ 100) (hl : lp.b.length ≤ 60) (hb : IsB lp.b) :
    (∃ T, d.b = c ++ T ∧ NoMore c T) ∨ (d.st = true ∧ ∃ (g : List Int) (m m' : Nat), d.b = (c ++ frameN (qs.length + 1) (checkN sum (qs.length + 1) g) g) ++ List.replicate m' 0 ∧ g.length = lp.b.length ∧ IsB g ∧
      (frameN (qs.length + 1) (checkN sum (qs.length + 1) lp.b) lp.b).take bits.toNat ++ List.replicate m 0 = frameN (qs.length + 1) (checkN sum (qs.length + 1) g) g ++ List.replicate m' 0) := by
  rcases h.st with ⟨_, ⟨m, hdb⟩, _⟩ | ⟨hst, m, hdb⟩
  · exact .inl ⟨_, hdb, noMore_zeros h.lf (by rw [List.length_map]; omega) m⟩
  · have ht := torn_frame h.lf (by rw [List.length_map]; omega) (x := lp.b) (by omega) hb bits.toNat m
    rw [List.length_map] at ht
    rcases ht with hn | ⟨g, m', h1, h2, h3, h4⟩
    · exact .inl ⟨_, hdb, hn⟩
    · exact .inr ⟨hst, g, m, m', by rw [hdb, h3, List.append_assoc], h1, h2, h3⟩
theorem chance_eq {F G : List Int} {k m m' : Nat} (hl : G.length = F.length) (h : F.take k ++ List.replicate m 0 = G ++ List.replicate m' 0) : F.take k ++ List.replicate (F.length - (F.take k).length) 0 = G := by
  have hlen := congrArg List.length h
  simp only [List.length_append, List.length_replicate, List.length_take] at hlen
  have e := congrArg (List.take F.length) h
  rw [List.take_left' hl] at e
  have e1 : (F.take k).take F.length = F.take k := List.take_of_length_le (by rw [List.length_take]; omega)
  have e2 : min (F.length - (F.take k).length) m = F.length - (F.take k).length := by rw [List.length_take]; omega
  rw [← e, List.take_append, e1, List.take_replicate, e2]
theorem Dsk.revive_2 (d : Dsk) : d.revive.2 = { d with st := false } := by
  unfold Dsk.revive
  split
  · rfl
  · rename_i h
    have h1 : d.st = false := by simpa using h
    show d = _
    rw [← h1]
/-- What Recover finds: nothing more, or just one more. -/
theorem GdP.more {d : Dsk} {qs : List Pc} {lp : Pc} {left bits : Int} {c : List Int} {sum : Nat} (h : GdP d qs lp left bits c sum) (hq : qs.length ≤ 100) (hl : lp.b.length ≤ 60) (hb : IsB lp.b) :
    ∃ (c' : List Int) (ex : List (List Int)) (sum' : Nat) (T' : List Int), d.b = c' ++ T' ∧ NoMore c' T' ∧ LF c' (qs.map (·.b) ++ ex) sum' ∧ sum' = chainS (qs.map (·.b) ++ ex) ∧
      ((ex = [] ∧ c' = c ∧ sum' = sum) ∨ (d.st = true ∧ ∃ (g : List Int) (m m' : Nat), ex = [g] ∧ sum' = checkN sum (qs.length + 1) g ∧ g.length = lp.b.length ∧ IsB g ∧
        (frameN (qs.length + 1) (checkN sum (qs.length + 1) lp.b) lp.b).take bits.toNat ++ List.replicate m 0 = frameN (qs.length + 1) (checkN sum (qs.length + 1) g) g ++ List.replicate m' 0)) := by
  rcases h.cases hq hl hb with ⟨T, h1, h2⟩ | ⟨hst, g, m, m', h1, h2, h3, h4⟩
  · exact ⟨c, [], sum, T, h1, h2, by rw [List.append_nil]; exact h.lf, by rw [List.append_nil]; exact h.chain, .inl ⟨rfl, rfl, rfl⟩⟩
  · have hlf := h.lf.snoc (x := g) (by omega) (by rw [List.length_map]; omega)
    rw [List.length_map] at hlf
    refine ⟨_, [g], _, _, h1, noMore_zeros hlf (by simp only [List.length_append, List.length_map, List.length_cons, List.length_nil]; omega) m', hlf, ?_, .inr ⟨hst, g, m, m', rfl, rfl, h2, h3, h4⟩⟩
    rw [chainS_snoc, List.length_map, ← h.chain]
def gdD : Dsk := ⟨3000, [], 0, false, false, 0, 0⟩
theorem gd_rec : gdD.recov = (0, gdD) ∧ recG gdD.b = lgF [] [] 0 := by constructor <;> kernel_rfl
def gdL : Pc := ⟨none, 0, 0, [], none⟩

set_option maxHeartbeats 16000000 in
theorem good_any (w : World) (ht : Tab w) (A : Option Addr) (n c : Nat) (L0 : List DAct) (hL : IsActs w A n c L0) :
    Calls Tryd.prog 6 #[.slice A n c] w fun e w' => e = .returned (.bool true) ∧ Kp w w' (fun _ => False) := by
  obtain ⟨hLl, hLrd, hLlow, hLp⟩ := hL
  have hnew := V.mk (new_ds (w0 := w) (W := w) 3000 (by omega) (Kp.refl w _))
  obtain ⟨i0, hi, hz0, hz1, hz2⟩ := info_parts i_bs
  go_enter Tryd.func6, Tryd.ntmps6
  go_wp2_with fail
  refine hnew.out.mono ?_
  rintro e w1 ⟨rfl, hd1, hk1⟩
  obtain ⟨dg, hdg⟩ : ∃ k, w.heap.size = k := ⟨_, rfl⟩
  rw [hdg] at hd1 ⊢
  have hd1' : DS w w1 dg none gdD := hd1
  clear hnew hk1 hd1 hdg
  go_wp2_with fail
  refine (rec_ds ht hd1').mono ?_
  rintro e w2 ⟨r2, hd2, hk2, hf2, hp⟩
  rw [gd_rec.1] at hd2 hp
  rcases hp with ⟨h0, -⟩ | ⟨-, g, hg, rfl, hl2⟩
  · exact absurd rfl h0
  rw [gd_rec.2] at hl2
  have hgw : w.heap.size ≤ g := by have := hd1'.kp.size; omega
  clear hd1' hk2 hf2 hg
  have hfew := V.mk (few_any w2 A n c L0 hLl (hLrd.kp hd2.kp (fun _ _ _ h => h)) (fun a ha => by have := (hLp a ha).1.rd; exact ⟨this.1, by have := this.2.1; simpa [maxLen] using this⟩) 40 (by omega))
  go_wp2_with fail
  refine hfew.out.mono ?_
  rintro e w3 ⟨A3, n3, c3, r3, rfl, hn3, hrow3, hnew3, hk3⟩
  have hd3 := hd2.quiet hk3
  have hl3 := hl2.kp hk3 (fun h => h)
  have hLk : V (∀ a ∈ fewTo L0 40, a.Ok w w.heap.size ∧ IsB a.b ∧ a.n ≤ 60) := ⟨by
    intro a ha
    simp only [fewTo, List.mem_map] at ha
    obtain ⟨b, hb, rfl⟩ := ha
    have h := hLp b (List.mem_of_mem_take hb)
    exact ⟨h.1.cut 60, fun c hc => h.2 c (List.mem_of_mem_take hc), by show min b.n 60 ≤ 60; omega⟩⟩
  have hn40 : n3 ≤ 40 := by rw [← hn3]; simp [fewTo]; omega
  have hS : GdS w w3 dg g r2 gdD (lgF [] [] 0) none 0 0 none [] gdL A3 n3 c3 r3 (fewTo L0 40) :=
    ⟨hd3, hl3, hgw, ⟨Nat.zero_le _, by decide, by decide⟩, rfl, Row.nil _ _ _, New.none _, fun p hp => by
      rcases hp with rfl | hp
      · exact ⟨Row.nil _ _ _, New.none _, fun k hk => by simp [gdL] at hk, rfl, fun c hc => by simp [gdL] at hc, by decide⟩
      · simp at hp, hrow3⟩
  have hP : GdP gdD [] gdL 0 0 [] 0 := ⟨LF.nil, rfl, rfl, .inl ⟨rfl, ⟨0, rfl⟩, fun h => by simp [gdD] at h⟩, ⟨by decide, by decide⟩, ⟨by decide, by decide⟩⟩
  generalize fewTo L0 40 = L at hn3 hrow3 hLk hS
  have hn3V := V.mk hn3
  have hR0 : V (GdR w dg A3 n3 c3 r3 L 0 (.pointer (some ⟨g, 0, none⟩)) (.slice none 0 0) (.slice none 0 0) (.int .i64 0) (.int .i64 0) (.bool false) w3) := ⟨⟨g, r2, gdD, none, 0, 0, none, [], gdL, 0, 0, [], 0, rfl, rfl, rfl, rfl, rfl, rfl, Nat.le_refl _, hS, hP⟩⟩
  clear hS hP hd2 hl2 hd3 hl3 hfew hk3 hrow3 hnew3 hn3 hLl hLrd hLlow hLp
  go_wp2_with fail
  go_loopg [5, 6, 7, 8, 9, 10, 12, 13, 14, 15, 16, 17, 18, 19, 40] n3 (fun gg s5 s6 s7 s8 s9 s10 _ _ _ _ _ _ _ _ i wr => ∃ k, k ≤ n3 ∧ gg = n3 - k ∧ i = .int .i64 k ∧ GdR w dg A3 n3 c3 r3 L k s5 s6 s7 s8 s9 s10 wr)
  case atStart => exact ⟨0, Nat.zero_le _, by omega, rfl, hR0.out⟩
  case round =>
    obtain ⟨k, hk, hgk, rfl, g, r, d, A1, n1, c1, r1, qs, lp, left, bits, cb, sum, rfl, rfl, rfl, rfl, rfl, rfl, hn1k, hS, hP⟩ := hrel
    have hgkV := V.mk hgk
    clear hgk hR0
    by_cases hgo : k < n3
    · have hkl : k < L.length := by rw [hn3V.out]; exact hgo
      obtain ⟨ab, ao, rfl, hcs⟩ := hS.acts.rd.base (by omega) (by rw [actCells_length]; omega)
      obtain ⟨a, ha⟩ : ∃ a, a = L[k] := ⟨_, rfl⟩
      have hwa := hLk.out L[k] (List.getElem_mem hkl)
      rw [← ha] at hwa
      have x0 := hcs (k * 4 + 0) (.int .i64 a.what) (by rw [actCells_at L k 0 hkl (by omega), ← ha]; rfl)
      have x1 := hcs (k * 4 + 1) (.int .i64 a.at_) (by rw [actCells_at L k 1 hkl (by omega), ← ha]; rfl)
      have x2 := hcs (k * 4 + 2) (.int .i64 a.many) (by rw [actCells_at L k 2 hkl (by omega), ← ha]; rfl)
      have x3 := hcs (k * 4 + 3) (.slice a.A a.n a.c) (by rw [actCells_at L k 3 hkl (by omega), ← ha]; rfl)
      simp only [Nat.add_zero, ← Nat.add_assoc] at x0 x1 x2 x3
      clear hcs ha
      have hwV := V.mk hwa
      clear hwa
      obtain ⟨bx, hbx⟩ : ∃ b, wr.heap.size = b := ⟨_, rfl⟩
      have hb := Blk.new wr #[.int .i64 a.what, .int .i64 a.at_, .int .i64 a.many, .slice a.A a.n a.c] 56
      have hSa := hS.quiet ((Kp.refl wr (fun _ => False)).alloc (.cells #[.int .i64 a.what, .int .i64 a.at_, .int .i64 a.many, .slice a.A a.n a.c] 56))
      go_wp2_with fail
      rw [hbx] at hb
      clear hbx hS x0 x1 x2 x3
      obtain ⟨wa, hwa⟩ : ∃ wa, wr.alloc (.cells #[.int .i64 a.what, .int .i64 a.at_, .int .i64 a.many, .slice a.A a.n a.c] 56) = wa := ⟨_, rfl⟩
      rw [hwa] at hb hSa ⊢
      clear hwa
      refine (stopped_any wa dg r d hSa.ds.hd).mono ?_
      rintro e x ⟨rfl, hx⟩
      subst hx
      have y0 := hb.cell' 0 rfl
      have hbV := V.mk hb
      have hSV := V.mk hSa
      have hPV := V.mk hP
      obtain ⟨st, hst⟩ : ∃ b, d.st = b := ⟨_, rfl⟩
      rw [hst]
      have hstV := V.mk hst
      clear hSa hP hb hst
      go_upto_block 2 with fail
      go_cut [5, 6, 7, 8, 9, 10, 14, 15, 16, 17, 18, 19] (fun s5 s6 s7 s8 s9 s10 _ _ _ _ _ _ W => GdR w dg (some ⟨ab, ao, none⟩) n3 c3 r3 L (k + 1) s5 s6 s7 s8 s9 s10 W)
      case first =>
        go_step
        go_step
        go_cut [127] (fun t W => t = .bool (decide (0 ≤ a.what ∧ a.what ≤ 4)) ∧ wa = W)
        case first =>
          go_wp2_with fail
          all_goals
            go_meet
            refine ⟨congrArg Value.bool ?_, rfl⟩
            simp only [beq_eq_false_iff_ne, beq_iff_eq] at *
            rw [Bool.eq_iff_iff, beq_iff_eq, decide_eq_true_iff]
            omega
        case rest =>
          obtain ⟨rfl, rfl⟩ := hcut
          by_cases h04 : 0 ≤ a.what ∧ a.what ≤ 4
          · --<A
            rw [decide_eq_true h04]
            have hS := hSV.out
            have hP := hPV.out
            obtain ⟨⟨hao, haB, ha60⟩⟩ := hwV
            have haO : a.Ok wa w.heap.size := hao.below (hS.ds.kp.below (Nat.le_refl _) (fun _ h => h.elim))
            have hnl : (qs.map (·.b)).length = n1 := by rw [List.length_map]; exact hS.len
            have y3 := hbV.out.cell' 3 rfl
            have hxl : a.b.length ≤ 65535 := by rw [hao.len]; omega
            have happ := app_ds ht hS.ds hS.lg hS.gw hS.ok a.A a.n a.c a.b hao.len haO.rd haB
            cases st with
            | true =>
              as_aux_lemma =>
              rw [Lg.app_st hxl hstV.out] at happ
              have happV := V.mk happ
              clear happ hP
              go_wp2_with fail
              refine happV.out.mono ?_
              rintro e w4 ⟨rfl, r4, hd4, hl4, hk4, hf4⟩
              have hS4 := hS.log hd4 hl4 hS.ok hk4 (fun _ h => h) hf4
              have hS4V := V.mk hS4
              clear hS hS4 hd4 hl4 hk4 hf4 happV
              go_wp2_with fail
              go_meet
              exact ⟨g, r4, d, A1, n1, c1, r1, qs, lp, left, bits, cb, sum, rfl, rfl, rfl, rfl, rfl, by rw [hstV.out], by omega, hS4V.out, hPV.out⟩
            | false =>
              rcases hP.st with ⟨hst0, ⟨m, hdb⟩, hisn⟩ | ⟨hst1, -⟩
              rotate_left
              · rw [hstV.out] at hst1; simp at hst1
              by_cases hfull : 3000 < cb.length + 10 + a.n
              · as_aux_lemma =>
                rw [LF.app_full (sum := sum) (ps := qs.map (·.b)) hdb hst0 hxl (by rw [hP.cap, hao.len]; omega)] at happ
                have happV := V.mk happ
                clear happ hP
                go_wp2_with fail
                refine happV.out.mono ?_
                rintro e w4 ⟨rfl, r4, hd4, hl4, hk4, hf4⟩
                have hS4 := hS.log hd4 hl4 hS.ok hk4 (fun _ h => h) hf4
                have hS4V := V.mk hS4
                clear hS hS4 hd4 hl4 hk4 hf4 happV
                go_wp2_with fail
                go_meet
                exact ⟨g, r4, d, A1, n1, c1, r1, qs, lp, left, bits, cb, sum, rfl, rfl, rfl, rfl, rfl, by rw [hstV.out], by omega, hS4V.out, hPV.out⟩
              · by_cases hpl : d.is = true ∧ d.p = 0
                · as_aux_lemma =>
                  have hag := hP.lf.app_torn hdb hst0 hxl (x := a.b) (by rw [hP.cap, hao.len]; omega) hpl
                  rw [hnl] at hag
                  rw [hag] at happ
                  obtain ⟨d', hd'⟩ : ∃ d', ({ d with b := cb ++ ((frameN (n1 + 1) (checkN sum (n1 + 1) a.b) a.b).take d.n.toNat ++ (List.replicate m 0).drop ((frameN (n1 + 1) (checkN sum (n1 + 1) a.b) a.b).take d.n.toNat).length), st := true, is := false, p := 0, n := 0 } : Dsk) = d' := ⟨_, rfl⟩
                  rw [hd'] at happ
                  have hb' : d'.b = cb ++ ((frameN (n1 + 1) (checkN sum (n1 + 1) a.b) a.b).take left.toNat ++ List.replicate (m - ((frameN (n1 + 1) (checkN sum (n1 + 1) a.b) a.b).take left.toNat).length) 0) := by
                    rw [← hd', ← hisn hpl.1, List.drop_replicate]
                  have hst' : d'.st = true := by rw [← hd']
                  have hcap' : d'.cap = 3000 := by rw [← hd']; exact hP.cap
                  have ho' : (lgF cb (qs.map (·.b)) sum).ok d' := hS.ok.len (by rw [hb', hdb]; simp only [List.length_append, List.length_replicate]; omega)
                  have happV := V.mk happ
                  clear happ hag hd'
                  go_wp2_with fail
                  refine happV.out.mono ?_
                  rintro e w4 ⟨rfl, r4, hd4, hl4, hk4, hf4⟩
                  have hS4 := hS.log hd4 hl4 ho' hk4 (fun _ h => h) hf4
                  have hb4 := Blk.kp hbV.out hk4 (hS.keep hbV.out (by decide) (by decide) (by decide))
                  have hsp := stopped_any w4 dg r4 d' hS4.ds.hd
                  rw [hst'] at hsp
                  have hspV := V.mk hsp
                  have z3 := hb4.cell' 3 rfl
                  have hclV := V.mk (bclone_any w4 a.A a.n a.c a.b hao.len (hao.rd.kp hS4.ds.kp (fun _ _ _ h => h)) (by omega))
                  have hS4V := V.mk hS4
                  have hlft := hP.l0
                  have hchain := hP.chain
                  have hlf := hP.lf
                  have hqln := hS.len
                  clear hS hS4 hd4 hl4 hk4 hf4 happV hb4 hsp
                  go_wp2_with fail
                  refine hspV.out.mono ?_
                  rintro e x ⟨rfl, hx⟩
                  subst hx
                  go_wp2_with fail
                  refine hclV.out.mono ?_
                  rintro e w5 ⟨A5, c5, r5, rfl, hrow5, hnew5, hk5⟩
                  have hS5 := hS4V.out.quiet hk5
                  have hown : Pc.Own w w5 r4 ⟨A5, a.n, c5, a.b, r5⟩ := ⟨hrow5, hnew5.mono hS4V.out.ds.kp.size, fun j h1 h2 => by have := hnew5 j h1; have := hS4V.out.ds.hd.rlt h2; omega, hao.len, haB, ha60⟩
                  have hS6 := hS5.last hown
                  have hS6V := V.mk hS6
                  have hP6 : GdP d' qs ⟨A5, a.n, c5, a.b, r5⟩ left left cb sum := ⟨hlf, hchain, hcap', .inr ⟨hst', _, by rw [hb', hqln]⟩, hlft, hlft⟩
                  clear hS5 hS6 hown hrow5 hnew5 hk5 hspV hclV hS4V
                  go_wp2_with fail
                  go_meet
                  exact ⟨g, r4, d', A1, n1, c1, r1, qs, _, left, left, cb, sum, rfl, rfl, rfl, rfl, rfl, by rw [hst'], by omega, hS6V.out, hP6⟩
                · as_aux_lemma =>
                  have hag := hP.lf.app_good hdb hst0 hxl (x := a.b) (by rw [hnl]; omega) (by rw [hP.cap, hao.len]; omega) hpl
                  rw [hnl] at hag
                  rw [hag] at happ
                  obtain ⟨cb', hcb'⟩ : ∃ c, cb ++ frameN (n1 + 1) (checkN sum (n1 + 1) a.b) a.b = c := ⟨_, rfl⟩
                  rw [hcb'] at happ
                  obtain ⟨d', hd'⟩ : ∃ d', ({ d with b := cb' ++ (List.replicate m 0).drop (10 + a.b.length), puts := wr64 (d.puts + 1), p := wr64 (d.p - 1) } : Dsk) = d' := ⟨_, rfl⟩
                  rw [hd'] at happ
                  have hb' : d'.b = cb' ++ List.replicate (m - (10 + a.b.length)) 0 := by rw [← hd', List.drop_replicate]
                  have hst' : d'.st = false := by rw [← hd']; exact hst0
                  have his' : d'.is = true → d'.n = left := by rw [← hd']; exact hisn
                  have hcap' : d'.cap = 3000 := by rw [← hd']; exact hP.cap
                  have hlf' := hP.lf.snoc hxl (by rw [hnl]; omega)
                  rw [hnl, hcb'] at hlf'
                  have ho' := Lg.app_ok (x := a.b) hS.ok
                  rw [hag, hcb', hd'] at ho'
                  have happV := V.mk happ
                  clear happ hag hd'
                  go_wp2_with fail
                  refine happV.out.mono ?_
                  rintro e w4 ⟨rfl, r4, hd4, hl4, hk4, hf4⟩
                  have hS4 := hS.log hd4 hl4 ho' hk4 (fun _ h => h) hf4
                  have hb4 := Blk.kp hbV.out hk4 (hS.keep hbV.out (by decide) (by decide) (by decide))
                  have z3 := hb4.cell' 3 rfl
                  have hclV := V.mk (bclone_any w4 a.A a.n a.c a.b hao.len (hao.rd.kp hS4.ds.kp (fun _ _ _ h => h)) (by omega))
                  have hS4V := V.mk hS4
                  have hlft := hP.l0
                  have hbft := hP.b0
                  have hchain := hP.chain
                  have hqln := hS.len
                  clear hS hS4 hd4 hl4 hk4 hf4 happV hb4
                  go_wp2_with fail
                  refine hclV.out.mono ?_
                  rintro e w5 ⟨A5, c5, r5, rfl, hrow5, hnew5, hk5⟩
                  have hS5 := hS4V.out.quiet hk5
                  have hown : Pc.Own w w5 r4 ⟨A5, a.n, c5, a.b, r5⟩ := ⟨hrow5, hnew5.mono hS4V.out.ds.kp.size, fun j h1 h2 => by have := hnew5 j h1; have := hS4V.out.ds.hd.rlt h2; omega, hao.len, haB, ha60⟩
                  have hka := (Kp.refl w5 (fun _ => False)).alloc (.cells #[.slice A5 a.n c5] 38)
                  obtain ⟨XS, hXS⟩ : ∃ XS, qs.map Pc.val = XS := ⟨_, rfl⟩
                  have hrow := hS5.row
                  rw [hXS] at hrow
                  have hXSV := V.mk hXS
                  have hS5V := V.mk hS5
                  have hownV := V.mk hown
                  have hwn := IntWalk.i64_in ((n1 : Int) + 1) (by omega)
                  clear hS5 hown hrow5 hnew5 hk5 hclV hS4V hXS
                  go_wp2_with (at_builtin; refine wpList_app (by rfl) (.tmp 147) (.tmp 151) 34 rfl 38 i0 (.slice none 0 0) 1 24 u_bss hi hz0 hz1 hz2 rfl (by decide) A1 n1 c1 XS r1 (by rfl) (hrow.alloc _) _ 1 1 [.slice A5 a.n c5] (by rfl) (Rd.lit _ _ _ 1 _ (by simp [maxLen])) rfl (by simp [Value.oneCell']) (n1 + 1) rfl (by omega) (by simp only [maxLen]; omega) ?_)
                  intro A6 c6 r6 w6 hrow6 hkp6 hfr6 _
                  have hk56 : Kp w5 w6 (fun j => r1 = some j) := (hka.mono (fun _ h => h.elim)).trans hkp6 (fun j h => .inl h)
                  rw [← hXSV.out] at hrow6
                  have hfr6' : Fr w5 r1 r6 := by
                    rcases hfr6 with h | ⟨j, h1, h2⟩
                    · exact .inl h
                    · exact .inr ⟨j, h1, by rw [World.size_alloc] at h2; omega⟩
                  have hS6 := hS5V.out.push hownV.out (p := ⟨A5, a.n, c5, a.b, r5⟩) hrow6 hk56 hfr6'
                  have hmb : (qs ++ [(⟨A5, a.n, c5, a.b, r5⟩ : Pc)]).map (·.b) = qs.map (·.b) ++ [a.b] := by rw [List.map_append]; rfl
                  rw [← hmb] at hS6 hlf'
                  have hch6 : checkN sum (n1 + 1) a.b = chainS ((qs ++ [(⟨A5, a.n, c5, a.b, r5⟩ : Pc)]).map (·.b)) := by rw [hmb, chainS_snoc, hnl, ← hchain]
                  have hP6 : GdP d' (qs ++ [⟨A5, a.n, c5, a.b, r5⟩]) lp left bits cb' (checkN sum (n1 + 1) a.b) := ⟨hlf', hch6, hcap', .inl ⟨hst', ⟨_, hb'⟩, his'⟩, hlft, hbft⟩
                  have hS6V := V.mk hS6
                  have hP6V := V.mk hP6
                  clear hS6 hP6 hmb hch6 hlf' hrow6 hkp6 hfr6 hfr6' hk56 hka hrow hXSV hS5V hownV
                  go_wp2_with fail
                  go_meet
                  exact ⟨g, r4, d', A6, n1 + 1, c6, r6, _, lp, left, bits, cb', _, rfl, rfl, rfl, rfl, rfl, by rw [hst'], by omega, hS6V.out, hP6V.out⟩
          · --A>
            rw [decide_eq_false h04]
            by_cases h5 : a.what = 5
            · as_aux_lemma =>
              have hb5 : (a.what == (5 : Int)) = true := by simp [h5]
              clear h5
              have hS := hSV.out
              have hP := hPV.out
              obtain ⟨⟨hao, haB, ha60⟩⟩ := hwV
              have y0 := hbV.out.cell' 0 rfl
              have y1 := hbV.out.cell' 1 rfl
              have y2 := hbV.out.cell' 2 rfl
              obtain ⟨pm, hpm⟩ : ∃ pm, Int.tmod a.at_ 4 = pm := ⟨_, rfl⟩
              have hpl := plan_ds hS.ds pm a.many
              cases st with
              | true =>
                have e1 : d.plan pm a.many = (10, d) := by unfold Dsk.plan; rw [if_pos hstV.out]
                rw [e1] at hpl
                have hplV := V.mk hpl
                clear hpl hP
                go_wp2_with fail
                refine hplV.out.mono ?_
                rintro e w4 ⟨rfl, r4, hd4, hk4, hf4⟩
                have hS4 := hS.disk hd4 hS.ok hk4 hf4
                have hS4V := V.mk hS4
                clear hS hS4 hd4 hk4 hf4 hplV
                go_wp2_with fail
                go_meet
                exact ⟨g, r4, d, A1, n1, c1, r1, qs, lp, left, bits, cb, sum, rfl, rfl, rfl, rfl, rfl, by rw [hstV.out], by omega, hS4V.out, hPV.out⟩
              | false =>
                by_cases hneg : pm < 0 ∨ a.many < 0
                · have e1 : d.plan pm a.many = (1, d) := by unfold Dsk.plan; rw [if_neg (by rw [hstV.out]; decide), if_pos hneg]
                  rw [e1] at hpl
                  have hplV := V.mk hpl
                  clear hpl hP
                  go_wp2_with fail
                  refine hplV.out.mono ?_
                  rintro e w4 ⟨rfl, r4, hd4, hk4, hf4⟩
                  have hS4 := hS.disk hd4 hS.ok hk4 hf4
                  have hS4V := V.mk hS4
                  clear hS hS4 hd4 hk4 hf4 hplV
                  go_wp2_with fail
                  go_meet
                  exact ⟨g, r4, d, A1, n1, c1, r1, qs, lp, left, bits, cb, sum, rfl, rfl, rfl, rfl, rfl, by rw [hstV.out], by omega, hS4V.out, hPV.out⟩
                · have e1 : d.plan pm a.many = (0, { d with is := true, p := pm, n := a.many }) := by unfold Dsk.plan; rw [if_neg (by rw [hstV.out]; decide), if_neg hneg]
                  rw [e1] at hpl
                  obtain ⟨d', hd'⟩ : ∃ d', ({ d with is := true, p := pm, n := a.many } : Dsk) = d' := ⟨_, rfl⟩
                  rw [hd'] at hpl
                  have hb' : d'.b = d.b := by rw [← hd']
                  have hst' : d'.st = false := by rw [← hd']; exact hstV.out
                  have hP' : GdP d' qs lp a.many bits cb sum := ⟨hP.lf, hP.chain, by rw [← hd']; exact hP.cap, .inl ⟨hst', by
                    rcases hP.st with ⟨_, ⟨m, hdb⟩, _⟩ | ⟨h1, _⟩
                    · exact ⟨m, by rw [hb']; exact hdb⟩
                    · rw [hstV.out] at h1; simp at h1, fun _ => by rw [← hd']⟩, ⟨by omega, hao.many.2⟩, hP.b0⟩
                  have ho' : (lgF cb (qs.map (·.b)) sum).ok d' := hS.ok.len (by rw [hb']; exact Nat.le_refl _)
                  have hplV := V.mk hpl
                  have hP'V := V.mk hP'
                  clear hpl hP hP' hd' e1
                  go_wp2_with fail
                  refine hplV.out.mono ?_
                  rintro e w4 ⟨rfl, r4, hd4, hk4, hf4⟩
                  have hS4 := hS.disk hd4 ho' hk4 hf4
                  have hS4V := V.mk hS4
                  have z2 := (Blk.kp hbV.out hk4 (fun h => hS.keep hbV.out (by decide) (by decide) (by decide) (.inr h))).cell' 2 rfl
                  clear hS hS4 hd4 hk4 hf4 hplV
                  go_wp2_with fail
                  go_meet
                  exact ⟨g, r4, d', A1, n1, c1, r1, qs, lp, a.many, bits, cb, sum, rfl, rfl, rfl, rfl, rfl, by rw [hst'], by omega, hS4V.out, hP'V.out⟩
            · as_aux_lemma =>
              have hb5 : (a.what == (5 : Int)) = false := by simpa using h5
              clear h5
              have hS := hSV.out
              have hP := hPV.out
              have hlpO := hS.pcs lp (.inl rfl)
              have hlpB := hlpO.by_
              have hlpl := hlpO.len
              have hlp60 := hlpO.n60
              have hqn := hS.len
              obtain ⟨c', ex, sum', T', hdb, hno, hlf', hch', hex⟩ := hP.more (by omega) (by omega) hlpO.by_
              have hexl : ex.length ≤ 1 := by
                rcases hex with ⟨h, _⟩ | ⟨_, g, _, _, h, _⟩ <;> rw [h] <;> simp
              have hnl' : (qs.map (·.b) ++ ex).length = n1 + ex.length := by rw [List.length_append, List.length_map, hqn]
              have hnp : (qs.map (·.b) ++ ex).length + 1 < 4294967296 := by omega
              have y0 := hbV.out.cell' 0 rfl
              have hrv := revive_ds hS.ds
              rw [Dsk.revive_2] at hrv
              obtain ⟨d1, hd1⟩ : ∃ d1, ({ d with st := false } : Dsk) = d1 := ⟨_, rfl⟩
              rw [hd1] at hrv
              have hb1 : d1.b = d.b := by rw [← hd1]
              have hpl1 : d1.plan 1000 0 = (0, { d1 with is := true, p := 1000, n := 0 }) := by
                unfold Dsk.plan
                rw [if_neg (by rw [← hd1]; simp), if_neg (by decide)]
              have hst1 : d1.st = false := by rw [← hd1]
              have hcap1 : d1.cap = 3000 := by rw [← hd1]; exact hP.cap
              obtain ⟨d2, hd2e⟩ : ∃ d2, ({ d1 with is := true, p := 1000, n := 0 } : Dsk) = d2 := ⟨_, rfl⟩
              rw [hd2e] at hpl1
              have hb2 : d2.b = c' ++ T' := by rw [← hd2e]; show d1.b = _; rw [hb1, hdb]
              have hst2 : d2.st = false := by rw [← hd2e]; exact hst1
              have hcap2 : d2.cap = 3000 := by rw [← hd2e]; exact hcap1
              have hp2 : ¬ (d2.is = true ∧ d2.p = 0) := by rw [← hd2e]; simp
              have his2 : d2.is = true ∧ d2.n = 0 := by rw [← hd2e]; exact ⟨rfl, rfl⟩
              have ho1 : (lgF cb (qs.map (·.b)) sum).ok d1 := hS.ok.len (by rw [hb1]; exact Nat.le_refl _)
              have ho2 : (lgF cb (qs.map (·.b)) sum).ok d2 := hS.ok.len (by rw [hb2, ← hdb]; exact Nat.le_refl _)
              have hrvV := V.mk hrv
              have hplV := V.mk hpl1
              have hexV := V.mk hex
              have hchV := V.mk hch'
              have hb0 := hP.b0
              have hchn := hP.chain
              clear hrv hpl1 hex hd1 hd2e hP hch' hlpO
              go_wp2_with fail
              refine hrvV.out.mono ?_
              rintro e w4 ⟨rfl, r4, hd4, hk4, hf4⟩
              have hS4 := hS.disk hd4 ho1 hk4 hf4
              have hpl := plan_ds hS4.ds 1000 0
              rw [hplV.out] at hpl
              have hpl2V := V.mk hpl
              clear hS hd4 hk4 hf4 hrvV hplV hpl
              go_wp2_with fail
              refine hpl2V.out.mono ?_
              rintro e w5 ⟨rfl, r5, hd5, hk5, hf5⟩
              have hS5 := hS4.disk hd5 ho2 hk5 hf5
              have hrec := hlf'.recov hno hnp hb2 hst2 hS5.ds.ok hp2
              clear hS4 hd5 hk5 hf5 hpl2V
              go_wp2_with fail
              refine (rec_ds ht hS5.ds).mono ?_
              rintro e w6 ⟨r6, hd6, hk6, hf6, hp⟩
              rcases hp with ⟨h0, -⟩ | ⟨-, gy, hgy, rfl, hly⟩
              · exact absurd hrec.2.1 h0
              rw [hrec.1] at hly
              obtain ⟨d3, hd3e⟩ : ∃ d3, d2.recov.2 = d3 := ⟨_, rfl⟩
              rw [hd3e] at hd6 hrec
              have hl3 : d2.b.length ≤ d3.b.length := by rw [hb2, hrec.2.2.1]; simp
              have hS6 := hS5.disk hd6 (ho2.len hl3) hk6 hf6
              have hgyw : w.heap.size ≤ gy := by have := hS5.ds.kp.size; omega
              have ho3 : (lgF c' (qs.map (·.b) ++ ex) sum').ok d3 := ⟨by unfold lgF; rw [hrec.2.2.1]; simp, by unfold lgF; rw [hchV.out]; exact chainS_lt _, by unfold lgF; simp only; omega⟩
              have hS7 := hS6.other hly hgyw ho3
              have hpay : paysL (d3.b.take (lgF c' (qs.map (·.b) ++ ex) sum').at_) = qs.map (·.b) ++ ex := by rw [hrec.2.2.1]; unfold lgF; rw [List.take_left]; exact hlf'.pays
              have hrw := rows_ds ht hS7.ds hS7.lg ho3
              rw [hpay] at hrw
              have hrwV := V.mk hrw
              have hS7V := V.mk hS7
              have hS7s : V (w.heap.size ≤ w6.heap.size) := ⟨hS7.ds.kp.size⟩
              have hS7r : V (∀ j, r6 = some j → j < w6.heap.size) := ⟨fun j hj => hS7.ds.hd.rlt hj⟩
              clear hS5 hS6 hd6 hk6 hf6 hly hrw hd3e hgy hS7 hpay
              go_wp2_with fail
              refine hrwV.out.mono ?_
              rintro e w8 ⟨A8, c8, r8, qs8, rfl, hrow8, hnew8, hk8, hqs8, hq8⟩
              obtain ⟨N8, hN8⟩ : ∃ N8, (qs.map (·.b) ++ ex).length = N8 := ⟨_, rfl⟩
              rw [hN8] at hrow8 hnl' ⊢
              have hq8l : qs8.length = N8 := by rw [← hN8, ← hqs8, List.length_map]
              have hS8 := hS7V.out.quiet hk8
              have hexB : ∀ x ∈ ex, IsB x := by
                intro x hx
                rcases hexV.out with ⟨h, _⟩ | ⟨_, g, _, _, h, _, _, hgB, _⟩
                · rw [h] at hx; simp at hx
                · rw [h] at hx; simp only [List.mem_singleton] at hx; rw [hx]; exact hgB
              have hq8B : ∀ q ∈ qs8, IsB q.b := by
                intro q hq
                have h1 : q.b ∈ qs.map (·.b) ++ ex := by rw [← hqs8]; exact List.mem_map_of_mem hq
                rcases List.mem_append.1 h1 with h2 | h2
                · rw [List.mem_map] at h2
                  obtain ⟨p, h3, h4⟩ := h2
                  rw [← h4]
                  exact (hS8.pcs p (.inr h3)).by_
                · exact hexB _ h2
              have hle8 := hrow8.le
              have hc8m : c8 ≤ 9223372036854775807 := by have := hle8.2; simpa [maxLen] using this
              have hn1N : n1 ≤ N8 := by omega
              have hrd8 := hrow8.rd.pre n1 hn1N
              rw [← List.map_take] at hrd8
              have hsm := same_any w8 A8 A1 n1 n1 c8 c1 (qs8.take n1) qs (by rw [List.length_take]; omega) hqn hrd8 hS8.row.rd
                (fun q hq => ⟨(hq8 q (List.mem_of_mem_take hq)).1.rd, (hq8 q (List.mem_of_mem_take hq)).2.1, hq8B q (List.mem_of_mem_take hq)⟩) (fun q hq => (hS8.pcs q (.inr hq)).rd)
              rw [decide_eq_true (by rw [List.map_take, hqs8, List.take_left' (by rw [List.length_map, hqn])])] at hsm
              have hsmV := V.mk hsm
              have hrow8V := V.mk hrow8
              have hS8V := V.mk hS8
              have hqs8V := V.mk hqs8
              have c1 : decide ((N8 : Int) < (n1 : Int)) = false := by simp; omega
              have c2 : decide (N8 < n1) = false := by simp; omega
              have c3 : decide ((N8 : Int) > (n1 : Int) + 1) = false := by simp; omega
              have c4 : decide ((n1 : Int) + 1 < (N8 : Int)) = false := by simp; omega
              have c5 : decide (n1 + 1 < N8) = false := by simp; omega
              clear hsm hrow8 hS8 hqs8 hrwV hk8 hrd8 hexB hS7V
              go_wp2_with fail
              refine hsmV.out.mono ?_
              rintro e x ⟨rfl, hx⟩
              subst hx
              clear hsmV c1 c2 c3 c4 c5
              rcases hexV.out with ⟨hex0, hc0, hs0⟩ | ⟨hst1', gg, m1, m2, hex1, hsum1, hggl, hggB, htorn⟩
              · --<C
                subst hex0
                have hNe : N8 = n1 := by rw [hnl']; rfl
                have c6 : decide ((N8 : Int) > (n1 : Int)) = false := by simp; omega
                have c7 : decide ((n1 : Int) < (N8 : Int)) = false := by simp; omega
                have c8' : decide (n1 < N8) = false := by simp; omega
                rw [List.append_nil, hc0, hs0] at hS8V hlf'
                rw [hc0] at hrec
                have hP8 : GdP d3 qs lp 0 bits cb sum := ⟨hlf', hchn, by rw [hrec.2.2.2.2.2.2.1]; exact hcap2, .inl ⟨hrec.2.2.2.1, ⟨_, hrec.2.2.1⟩, fun _ => by rw [hrec.2.2.2.2.2.1]; exact his2.2⟩, ⟨by decide, by decide⟩, hb0⟩
                have hst3 := hrec.2.2.2.1
                clear hrec hlf' hq8 hq8B hexV hrow8V hqs8V
                go_wp2_with fail
                go_meet
                exact ⟨gy, r6, d3, A1, n1, _, r1, qs, lp, 0, bits, cb, sum, rfl, rfl, rfl, rfl, rfl, by rw [hst3], by omega, hS8V.out, hP8⟩
              · as_aux_lemma =>
                subst hex1
                have hst1'' : st = true := by rw [← hstV.out]; exact hst1'
                subst hst1''
                have hNe : N8 = n1 + 1 := by rw [hnl']; rfl
                clear hnl'
                have hl1 : ([gg] : List (List Int)).length = 1 := rfl
                have hlt : n1 < qs8.length := by omega
                obtain ⟨q, hqe⟩ : ∃ q, qs8[n1] = q := ⟨_, rfl⟩
                have hqm : q ∈ qs8 := by rw [← hqe]; exact List.getElem_mem _
                have hqb : q.b = gg := by
                  have h1 : (qs8.map (·.b))[n1]? = some gg := by rw [hqs8V.out, List.getElem?_append_right (by rw [List.length_map, hqn]; exact Nat.le_refl _), List.length_map, hqn, Nat.sub_self]; rfl
                  rw [List.getElem?_map, List.getElem?_eq_getElem hlt, hqe] at h1
                  exact Option.some.inj h1
                obtain ⟨gr, hA8, hr8⟩ := hrow8V.out.addr (by omega)
                subst hA8
                have z0 := hrow8V.out.at_ n1 q.val (by rw [List.getElem?_map, List.getElem?_eq_getElem hlt, hqe]; rfl)
                have hqok := hq8 q hqm
                have hqB := hq8B q hqm
                have hqn60 : q.n ≤ 60 := by rw [← hqok.2.1, hqb, hggl, hlpl]; exact hlp60
                have hown : Pc.Own w w8 r6 q := ⟨hqok.1, fun j h => by have h1 := hqok.2.2 j h; have h2 := hS7s.out; omega, fun j h1 h2 => by have h3 := hqok.2.2 j h1; have h4 := hS7r.out j h2; omega, hqok.2.1, hqB, hqn60⟩
                have hlpO := hS8V.out.pcs lp (.inl rfl)
                have heq := eqb_any w8 q.A lp.A q.n lp.n q.c lp.c q.b lp.b hqok.2.1 hlpl hqok.1.rd hlpO.rd.rd hqB hlpB
                unfold Pc.val at z0
                rw [hNe] at hle8
                have c6 : decide ((n1 : Int) + 1 > (n1 : Int)) = true := by simp; omega
                have c7 : decide ((n1 : Int) < (n1 : Int) + 1) = true := by simp; omega
                have c8' : decide (n1 < n1 + 1) = true := by simp
                have hchL : chainS (qs.map (·.b) ++ [lp.b]) = checkN sum (qs.length + 1) lp.b := by rw [chainS_snoc, List.length_map, ← hchn]
                have hchG : chainS (qs.map (·.b) ++ [q.b]) = checkN sum (qs.length + 1) gg := by rw [chainS_snoc, List.length_map, ← hchn, hqb]
                have hF : V ((frameN (n1 + 1) (chainS (qs.map (·.b) ++ [lp.b])) lp.b).take bits.toNat ++ List.replicate ((frameN (n1 + 1) (chainS (qs.map (·.b) ++ [lp.b])) lp.b).length - ((frameN (n1 + 1) (chainS (qs.map (·.b) ++ [lp.b])) lp.b).take bits.toNat).length) 0 = frameN (n1 + 1) (chainS (qs.map (·.b) ++ [q.b])) q.b) := ⟨by
                  rw [hchL, hchG, hqb, ← hqn]
                  exact chance_eq (by rw [frameN_length, frameN_length, hggl]) htorn⟩
                have hchance := V.mk (chance_any w8 (hS8V.out.ds.tab ht) A1 n1 c1 qs hqn hS8V.out.row.rd (fun p hp => ⟨(hS8V.out.pcs p (.inr hp)).rd, (hS8V.out.pcs p (.inr hp)).n60⟩) (by omega) lp hlpO.rd hlp60 q ⟨hqok.1.rd, hqok.2.1, hqB⟩ hqn60 bits hb0.1 hb0.2 hF.out)
                have hqbV := V.mk hqb
                have hownV := V.mk hown
                have hkp8 := hS8V.out.ds.kp
                have hsum1V := V.mk hsum1
                have hwl := IntWalk.i64_in ((10 : Int) + (lp.n : Int)) (by omega)
                clear hqe hqb hown hq8 hq8B hexV hrow8V hqs8V hchL hchG hF htorn hqok hsum1
                by_cases hgl : q.b = lp.b
                · rw [decide_eq_true hgl] at heq
                  have heqV := V.mk heq
                  clear heq
                  by_cases hbt : bits < 10 + (lp.n : Int)
                  · have d1 : decide (bits < 10 + (lp.n : Int)) = true := by simpa using hbt
                    clear hbt hgl
                    go_wp2_with fail
                    refine heqV.out.mono ?_
                    rintro e x ⟨rfl, hx⟩
                    subst hx
                    go_wp2_with fail
                    refine hchance.out.mono ?_
                    rintro e w9 ⟨rfl, hk9⟩
                    have hfin := hkp8.quiet hk9
                    go_wp2_with fail
                    go_ret
                    exact ⟨rfl, hfin⟩
                  · have d1 : decide (bits < 10 + (lp.n : Int)) = false := by simpa using hbt
                    obtain ⟨XS, hXS⟩ : ∃ XS, qs.map Pc.val = XS := ⟨_, rfl⟩
                    have hrow := hS8V.out.row
                    rw [hXS] at hrow
                    have hXSV := V.mk hXS
                    have hka := (Kp.refl w8 (fun _ => False)).alloc (.cells #[.slice q.A q.n q.c] 38)
                    have hst3 := hrec.2.2.2.1
                    have hglV := V.mk hgl
                    clear hbt hgl hXS hchance
                    go_wp2_with fail
                    refine heqV.out.mono ?_
                    rintro e x ⟨rfl, hx⟩
                    subst hx
                    go_wp2_with (at_builtin; refine wpList_app (by rfl) (.tmp 118) (.tmp 124) 34 rfl 38 i0 (.slice none 0 0) 1 24 u_bss hi hz0 hz1 hz2 rfl (by decide) A1 n1 c1 XS r1 (by rfl) (hrow.alloc _) _ 1 1 [.slice q.A q.n q.c] (by rfl) (Rd.lit _ _ _ 1 _ (by simp [maxLen])) rfl (by simp [Value.oneCell']) (n1 + 1) rfl (by omega) (by simp only [maxLen]; omega) ?_)
                    intro A9 c9 r9 w9 hrow9 hkp9 hfr9 _
                    have hk89 : Kp w8 w9 (fun j => r1 = some j) := (hka.mono (fun _ h => h.elim)).trans hkp9 (fun j h => .inl h)
                    rw [← hXSV.out] at hrow9
                    have hfr9' : Fr w8 r1 r9 := by
                      rcases hfr9 with h | ⟨j, h1, h2⟩
                      · exact .inl h
                      · exact .inr ⟨j, h1, by rw [World.size_alloc] at h2; omega⟩
                    have hS9 := hS8V.out.push hownV.out (p := q) hrow9 hk89 hfr9'
                    have hmb : (qs ++ [q]).map (·.b) = qs.map (·.b) ++ [gg] := by rw [List.map_append, ← hqbV.out]; rfl
                    rw [← hmb] at hS9 hlf'
                    have hP9 : GdP d3 (qs ++ [q]) lp 0 bits c' sum' := ⟨hlf', by rw [hmb]; exact hchV.out, by rw [hrec.2.2.2.2.2.2.1]; exact hcap2, .inl ⟨hst3, ⟨_, hrec.2.2.1⟩, fun _ => by rw [hrec.2.2.2.2.2.1]; exact his2.2⟩, ⟨by decide, by decide⟩, hb0⟩
                    have hS9V := V.mk hS9
                    have hP9V := V.mk hP9
                    clear hS9 hP9 hmb hlf' hrow9 hkp9 hfr9 hfr9' hk89 hka hrow hXSV hownV hrec
                    go_wp2_with fail
                    go_meet
                    exact ⟨gy, r6, d3, A9, n1 + 1, c9, r9, qs ++ [q], lp, 0, bits, c', sum', rfl, rfl, rfl, rfl, rfl, by rw [hst3], by omega, hS9V.out, hP9V.out⟩
                · as_aux_lemma =>
                  rw [decide_eq_false hgl] at heq
                  have heqV := V.mk heq
                  clear heq hgl
                  go_wp2_with fail
                  refine heqV.out.mono ?_
                  rintro e x ⟨rfl, hx⟩
                  subst hx
                  go_wp2_with fail
                  refine hchance.out.mono ?_
                  rintro e w9 ⟨rfl, hk9⟩
                  have hfin := hkp8.quiet hk9
                  go_wp2_with fail
                  go_ret
                  exact ⟨rfl, hfin⟩
      case rest =>
        --D
        obtain ⟨g', r', d', A1', n1', c1', r1', qs', lp', left', bits', c', sum', rfl, rfl, rfl, rfl, rfl, rfl, hn1k', hS', hP'⟩ := hcut
        have hsp := stopped_any wc dg r' d' hS'.ds.hd
        have hspV := V.mk hsp
        have hS'V := V.mk hS'
        have hP'V := V.mk hP'
        have hnx := lnext_is wc g' dg c'.length sum' ((qs'.map (·.b)).length + 1) hS'.lg
        have hql' : (qs'.map (·.b)).length = n1' := by rw [List.length_map]; exact hS'.len
        rw [hql'] at hnx
        have hnxV := V.mk hnx
        have hwn := IntWalk.i64_in ((n1' : Int) + 1) (by omega)
        obtain ⟨st', hst'⟩ : ∃ b, d'.st = b := ⟨_, rfl⟩
        rw [hst'] at hspV
        rw [hst']
        have hst'V := V.mk hst'
        clear hsp hS' hP' hnx hst' hSV hPV hstV y0
        go_wp2_with fail
        refine hspV.out.mono ?_
        rintro e x ⟨rfl, hx⟩
        subst hx
        clear hspV
        cases st' with
        | true =>
          as_aux_lemma =>
          go_wp2_with fail
          go_roundg (n3 - (k + 1))
          case measure => have := hgkV.out; omega
          case rel => exact ⟨k + 1, by omega, rfl, by go_num, g', r', d', A1', n1', c1', r1', qs', lp', left', bits', c', sum', rfl, rfl, rfl, rfl, rfl, by rw [hst'V.out], hn1k', hS'V.out, hP'V.out⟩
        | false =>
          as_aux_lemma =>
          have hS' := hS'V.out
          have hP' := hP'V.out
          have hdb : ∃ T, d'.b = c' ++ T := by
            rcases hP'.st with ⟨_, ⟨m, h⟩, _⟩ | ⟨h, _⟩
            · exact ⟨_, h⟩
            · rw [hst'V.out] at h; simp at h
          obtain ⟨T, hdb⟩ := hdb
          have hrw := rows_ds ht hS'.ds hS'.lg hS'.ok
          rw [show paysL (d'.b.take (lgF c' (qs'.map (·.b)) sum').at_) = qs'.map (·.b) by rw [hdb]; unfold lgF; rw [List.take_left]; exact hP'.lf.pays] at hrw
          have hrwV := V.mk hrw
          clear hrw hS' hP' hdb
          go_wp2_with fail
          refine hnxV.out.mono ?_
          rintro e x ⟨rfl, hx⟩
          subst hx
          go_wp2_with fail
          refine hrwV.out.mono ?_
          rintro e w8 ⟨A8, c8, r8, qs8, rfl, hrow8, hnew8, hk8, hqs8, hq8⟩
          have hS8 := hS'V.out.quiet hk8
          have hq8B : ∀ q ∈ qs8, IsB q.b := by
            intro q hq
            have h1 : q.b ∈ qs'.map (·.b) := by rw [← hqs8]; exact List.mem_map_of_mem hq
            rw [List.mem_map] at h1
            obtain ⟨p, h3, h4⟩ := h1
            rw [← h4]
            exact (hS8.pcs p (.inr h3)).by_
          rw [hql'] at hrow8 ⊢
          have hsm := same_any w8 A8 A1' n1' n1' c8 c1' qs8 qs' (by rw [← hql', ← hqs8, List.length_map]) hS8.len hrow8.rd hS8.row.rd
            (fun q hq => ⟨(hq8 q hq).1.rd, (hq8 q hq).2.1, hq8B q hq⟩) (fun q hq => (hS8.pcs q (.inr hq)).rd)
          rw [decide_eq_true hqs8] at hsm
          have hsmV := V.mk hsm
          have hS8V := V.mk hS8
          clear hsm hS8 hrow8 hnew8 hk8 hqs8 hq8 hq8B hrwV hnxV hS'V
          go_wp2_with fail
          refine hsmV.out.mono ?_
          rintro e x ⟨rfl, hx⟩
          subst hx
          clear hsmV
          go_wp2_with fail
          go_roundg (n3 - (k + 1))
          case measure => have := hgkV.out; omega
          case rel => exact ⟨k + 1, by omega, rfl, by go_num, g', r', d', A1', n1', c1', r1', qs', lp', left', bits', c', sum', rfl, rfl, rfl, rfl, rfl, by rw [hst'V.out], hn1k', hS8V.out, hP'V.out⟩
    · have hwk := V.mk (wakes_any wr (hS.ds.tab ht))
      have hkw := hS.ds.kp
      clear hS hP
      go_wp2_with fail
      refine hwk.out.mono ?_
      rintro e w4 ⟨rfl, hk4⟩
      have hfin := hkw.quiet hk4
      go_wp2_with fail
      go_ret
      exact ⟨rfl, hfin⟩

end Go.Proofs.YtkameiopahcacaaDoor
