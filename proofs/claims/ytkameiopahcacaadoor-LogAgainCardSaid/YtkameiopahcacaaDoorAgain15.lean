/- longwirelaw15.LogAgain: the walk: it answers true. Condition: the payloads are data; the table stands. -/
import Derived.Test.YtkameiopahcacaaDoorLf15
import Derived.Test.YtkameiopahcacaaDoorBss15
import Derived.Test.YtkameiopahcacaaDoorWakes15
import Derived.Deep.DeepCutAuto
import Derived.Deep.CutBlock
set_option linter.unusedVariables false
set_option linter.unusedSimpArgs false
set_option maxRecDepth 100000
namespace Go.Proofs.YtkameiopahcacaaDoor
open Go.RowKit Go.Shelf
attribute [local go_sem] Oper.semAt_some

theorem DS.other {w0 W W' : World} {dg : Nat} {r : Option Nat} {d : Dsk} {S : Nat → Prop} (h : DS w0 W dg r d) (hk : Kp W W' S) (hS : ∀ k, S k → w0.heap.size ≤ k) (h1 : ¬ S dg) (h2 : ∀ k, r = some k → ¬ S k) : DS w0 W' dg r d :=
  ⟨h.kp.trans hk (fun k hk => .inr (hS k hk)), h.hd.kp hk h1 h2, h.ok, h.by_, h.dg0, h.r0⟩
def Pc.cut (p : Pc) (m : Nat) : Pc := { p with n := min p.n m, b := p.b.take m }
def agD : Dsk := ⟨4000, [], 0, false, false, 0, 0⟩
theorem ag_rec : agD.recov = (0, agD) ∧ recG agD.b = lgF [] [] 0 := by constructor <;> kernel_rfl

/-- Where the payloads' loop stands: k are laid. -/
def AgR (w : World) (gs dg g : Nat) (stop : Int) (L : List Pc) (k : Nat) (v : Value) (W : World) : Prop :=
  ∃ (A1 : Option Addr) (c1 : Nat) (r1 r : Option Nat) (d : Dsk) (c : List Int) (ps : List (List Int)) (sum : Nat), v = .slice A1 k c1 ∧ k ≤ L.length ∧ k ≤ 20 ∧ Row W 38 1 A1 k c1 (((L.take k).map (·.cut 60)).map Pc.val) r1 ∧ New w r1 ∧
    DS w W dg r d ∧ IsLg W g dg (lgF c ps sum) ∧ LF c ps sum ∧ ps = ((L.take k).map (·.cut 60)).map (·.b) ∧ d.b = c ∧ d.st = false ∧ d.is = false ∧ d.cap = 4000 ∧ c.length ≤ 70 * k ∧
    Blk W gs #[.int .u8 stop] 5 ∧ (∀ j, r = some j → dg < j)

theorem pc_cut_rd {w W : World} {p : Pc} (hl : p.b.length = p.n) (hr : Rd w p.A p.n p.c (B8 p.b)) (hb : IsB p.b) (hk : Kp w W (fun _ => False)) (m : Nat) : (p.cut m).Rd W := by
  refine ⟨?_, ?_, fun c hc => hb c (List.mem_of_mem_take hc)⟩
  · have := (hr.kp hk (fun _ _ _ h => h)).pre (min p.n m) (by omega)
    have e : (B8 p.b).take (min p.n m) = B8 (p.b.take m) := by
      rw [B8_take]
      by_cases h : m ≤ p.n
      · rw [Nat.min_eq_right h]
      · rw [Nat.min_eq_left (by omega), List.take_of_length_le (by rw [B8_length]; omega), List.take_of_length_le (by rw [B8_length]; omega)]
    rw [e] at this
    exact this
  · show (p.b.take m).length = min p.n m
    rw [List.length_take]; omega
/-- What stands beside the disk behind the payloads' loop. -/
structure AgS (w W : World) (gs dg : Nat) (stop : Int) (A1 : Option Addr) (k c1 : Nat) (XS : List Value) (r1 r : Option Nat) (d : Dsk) : Prop where
  ds : DS w W dg r d
  row : Row W 38 1 A1 k c1 XS r1
  box : Blk W gs #[.int .u8 stop] 5
  rd : ∀ j, r = some j → dg < j
  gd : gs < dg
section
variable {w W W' : World} {gs dg : Nat} {stop : Int} {A1 : Option Addr} {k c1 : Nat} {XS : List Value} {r1 r r' : Option Nat} {d d' : Dsk}
theorem AgS.disk (h : AgS w W gs dg stop A1 k c1 XS r1 r d) (hd : DS w W' dg r' d') (hk : Kp W W' (fun j => j = dg ∨ r = some j)) (hf : Fr W r r') : AgS w W' gs dg stop A1 k c1 XS r1 r' d' := by
  obtain ⟨A', c', hb', hr'⟩ := h.ds.hd
  refine ⟨hd, h.row.kp hk (fun j hj => ?_), Blk.kp h.box hk ?_, fun j hj => ?_, h.gd⟩
  · rintro (q | q)
    · exact h.row.ne_type hb' (by decide) (by rw [hj, q])
    · exact h.row.apart hr' (by decide) j hj q
  · have := h.gd
    rintro (q | q)
    · omega
    · have := h.rd _ q; omega
  · rcases hf.of_lt hj with q | q
    · exact h.rd j q
    · have := h.ds.hd.lt; omega
theorem AgS.log (h : AgS w W gs dg stop A1 k c1 XS r1 r d) {g : Nat} {l : Lg} (hl : IsLg W g dg l) (hg : dg < g) (hd : DS w W' dg r' d') (hk : Kp W W' (fun j => j = g ∨ j = dg ∨ r = some j)) (hf : Fr W r r') : AgS w W' gs dg stop A1 k c1 XS r1 r' d' := by
  obtain ⟨A', c', hb', hr'⟩ := h.ds.hd
  refine ⟨hd, h.row.kp hk (fun j hj => ?_), Blk.kp h.box hk ?_, fun j hj => ?_, h.gd⟩
  · rintro (q | q | q)
    · exact h.row.ne_type hl (by decide) (by rw [hj, q])
    · exact h.row.ne_type hb' (by decide) (by rw [hj, q])
    · exact h.row.apart hr' (by decide) j hj q
  · have := h.gd
    rintro (q | q | q)
    · omega
    · omega
    · have := h.rd _ q; omega
  · rcases hf.of_lt hj with q | q
    · exact h.rd j q
    · have := h.ds.hd.lt; omega
theorem AgS.quiet (h : AgS w W gs dg stop A1 k c1 XS r1 r d) (hk : Kp W W' (fun _ => False)) : AgS w W' gs dg stop A1 k c1 XS r1 r d :=
  ⟨h.ds.quiet hk, h.row.kp hk (fun _ _ h => h), Blk.kp h.box hk (fun h => h), h.rd, h.gd⟩
end
def agT : List Int := [116, 104, 105, 115, 32, 111, 110, 101, 32, 105, 115, 32, 116, 111, 114, 110, 44, 32, 119, 104, 97, 116, 101, 118, 101, 114, 32, 99, 111, 109, 101, 115]

/-- What the range that is left early has counted. -/
def AgM (w : World) (bm gs : Nat) (stop : Int) (s8 : Nat) (_ : Nat) (pre : List Fm) (W : World) : Prop :=
  pre.length ≤ s8 ∧ Blk W bm #[.int .i64 pre.length] 3 ∧ Blk W gs #[.int .u8 stop] 5 ∧ Kp w W (fun _ => False)
def AgX (w : World) (bm gs : Nat) (stop : Int) (s8 : Nat) (_ : Nat) (c : Code) (pre : List Fm) (W : World) : Prop :=
  c = .exit 4 ∧ pre.length = s8 + 1 ∧ Blk W bm #[.int .i64 (s8 + 1 : Nat)] 3 ∧ Blk W gs #[.int .u8 stop] 5 ∧ Kp w W (fun _ => False)
theorem AgM.still {w : World} {bm gs : Nat} {stop : Int} {s8 N B : Nat} (hB : w.heap.size ≤ B) : Still B TF (AgM w bm gs stop s8 N) := by
  rintro pre Y Z ⟨h1, h2, h3, h4⟩ ht
  exact ⟨h1, ht.blk h2 (fun h => by unfold TF at h; simp at h), ht.blk h3 (fun h => by unfold TF at h; simp at h), h4.turn ht hB⟩
theorem AgX.still {w : World} {bm gs : Nat} {stop : Int} {s8 N B : Nat} {c : Code} (hB : w.heap.size ≤ B) : Still B TF (AgX w bm gs stop s8 N c) := by
  rintro pre Y Z ⟨h0, h1, h2, h3, h4⟩ ht
  exact ⟨h0, h1, ht.blk h2 (fun h => by unfold TF at h; simp at h), ht.blk h3 (fun h => by unfold TF at h; simp at h), h4.turn ht hB⟩

set_option maxHeartbeats 8000000 in
theorem again_any (w : World) (ht : Tab w) (A : Option Addr) (n c : Nat) (L : List Pc) (hL : IsBss w A n c L) (cut stop : Int) (hc0 : 0 ≤ cut) (hc1 : cut ≤ 255) (hs0 : 0 ≤ stop) (hs1 : stop ≤ 255) :
    Calls Tryd.prog 5 #[.slice A n c, .int .u8 cut, .int .u8 stop] w fun e w' => e = .returned (.bool true) ∧ Kp w w' (fun _ => False) := by
  obtain ⟨hLl, hLrd, hLlow, hLp⟩ := hL
  have hncb : n ≤ c ∧ c ≤ 9223372036854775807 := ⟨hLrd.1, by have := hLrd.2.1; simpa [maxLen] using this⟩
  have hs0p := V.mk hs0
  have hk0 := (Kp.refl w (fun _ => False)).alloc (.cells #[.int .u8 stop] 5)
  have hbs0 := Blk.new w #[.int .u8 stop] 5
  obtain ⟨i0, hi, hz0, hz1, hz2⟩ := info_parts i_bs
  refine calls_of_wp_marks Tryd.func5 rfl ?_
  simp only [Tryd.ntmps5, List.size_toArray, List.length_cons, List.length_nil, Nat.reduceAdd, Nat.reduceSub, Array.replicate_succ, Array.replicate_zero, List.push_toArray, List.append_toArray, List.nil_append, List.cons_append]
  go_wp2_with fail
  obtain ⟨gs, hgs⟩ : ∃ k, w.heap.size = k := ⟨_, rfl⟩
  obtain ⟨W0, hW0⟩ : ∃ W0, w.alloc (.cells #[.int .u8 stop] 5) = W0 := ⟨_, rfl⟩
  have hs0' : W0.heap.size = gs + 1 := by rw [← hW0, ← hgs]; simp
  rw [hW0] at hk0 hbs0 ⊢
  rw [hgs] at hbs0
  clear hW0
  have hgsw : w.heap.size ≤ gs := by omega
  have hnew := V.mk (new_ds (w0 := w) (W := W0) 4000 (by omega) hk0)
  have hgsV := V.mk hgs
  clear hgs
  refine hnew.out.mono ?_
  rintro e w1 ⟨rfl, hd1, hk1⟩
  obtain ⟨dg, hdg⟩ : ∃ k, W0.heap.size = k := ⟨_, rfl⟩
  rw [hdg] at hd1 ⊢
  have hgd : gs < dg := by omega
  have hbs1 := Blk.kp hbs0 hk1 (fun h => h)
  have hd1' : DS w w1 dg none agD := hd1
  clear hnew hk0 hbs0 hk1 hd1
  go_wp2_with fail
  refine (rec_ds ht hd1').mono ?_
  rintro e w2 ⟨r2, hd2, hk2, hf2, hp⟩
  rw [ag_rec.1] at hd2 hp
  rcases hp with ⟨h0, -⟩ | ⟨-, g, hg, rfl, hl2⟩
  · exact absurd rfl h0
  rw [ag_rec.2] at hl2
  have hgg : dg < g := by have := hd1'.hd.lt; omega
  have hr2 : ∀ j, r2 = some j → dg < j := fun j hj => by
    rcases hf2.of_lt hj with h | h
    · simp at h
    · have := hd1'.hd.lt; omega
  have hbs2 := Blk.kp hbs1 hk2 (by rintro (h | h); omega; simp at h)
  have hrel0 : AgR w gs dg g stop L 0 (.slice none 0 0) w2 :=
    ⟨none, 0, none, r2, agD, [], [], 0, rfl, Nat.zero_le _, by omega, Row.nil _ _ _, New.none _, hd2, hl2, LF.nil, rfl, rfl, rfl, rfl, rfl, by simp, hbs2, hr2⟩
  have hrelV := V.mk hrel0
  clear hrel0 hbs1 hbs2 hd1' hd2 hl2 hk2 hf2 hr2 hg
  go_upto_block 0 with fail
  go_cut [11] from 36 to 66 (fun s W => ∃ k, (k = n ∨ k = 20) ∧ AgR w gs dg g stop L k s W)
  case first =>
    go_wp2_with fail
    go_loopg [11, 12, 13, 14, 15, 35] n (fun gg s _ _ _ _ i wr => ∃ k, k ≤ n ∧ gg = n - k ∧ i = .int .i64 k ∧ AgR w gs dg g stop L k s wr)
    case atStart => exact ⟨0, Nat.zero_le _, by omega, rfl, hrelV.out⟩
    case round =>
      obtain ⟨k, hk, hgk, rfl, A1, c1, r1, r, d, cb, ps, sum, rfl, hkL, hk20, hrow1, hnew1, hd, hl, hlf, hps, hdb, hst, his, hcap, hcl, hbs, hr⟩ := hrel
      have hgkV := V.mk hgk
      clear hgk hrelV
      by_cases hgo : k < n
      · by_cases h20 : k = 20
        · obtain ⟨ab, ao, rfl, hcs⟩ := (hLrd.kp hd.kp (fun _ _ _ h => h)).base (by omega) (by simp; omega)
          have x0 := hcs k _ (pcs_at L k (by omega))
          clear hcs
          subst h20
          unfold Pc.val at x0
          go_wp2_with fail
          go_meet
          exact ⟨20, .inr rfl, A1, c1, r1, r, d, cb, ps, sum, rfl, hkL, hk20, hrow1, hnew1, hd, hl, hlf, hps, hdb, hst, his, hcap, hcl, hbs, hr⟩
        · obtain ⟨ab, ao, rfl, hcs⟩ := (hLrd.kp hd.kp (fun _ _ _ h => h)).base (by omega) (by simp; omega)
          have x0 := hcs k _ (pcs_at L k (by omega))
          clear hcs
          have hp := hLp L[k] (List.getElem_mem _)
          obtain ⟨P, hP⟩ : ∃ P, L[k] = P := ⟨_, rfl⟩
          have hPV := V.mk hP
          rw [hP] at x0 hp
          unfold Pc.val at x0
          obtain ⟨hpl, hprd, -, hpb⟩ := hp
          obtain ⟨m, hm⟩ : ∃ m, min P.n 60 = m := ⟨_, rfl⟩
          have e60 : (if (60 : Int) < (P.n : Int) then (60 : Int) else (P.n : Int)) = (m : Int) := by split <;> omega
          have hpc := hprd.1
          have hpm : P.c ≤ 9223372036854775807 := by have := hprd.2.1; simpa [maxLen] using this
          have hmn : m ≤ P.n := by omega
          have hm60 : m ≤ 60 := by omega
          have hrdm := (hprd.kp hd.kp (fun _ _ _ h => h)).pre m hmn
          rw [show (B8 P.b).take m = B8 (P.b.take m) by rw [B8_take]] at hrdm
          have hxl : (P.b.take m).length = m := by rw [List.length_take]; omega
          have hk20' : ¬ ((k : Int) = 20) := by omega
          obtain ⟨XS, hXS⟩ : ∃ XS, ((L.take k).map (·.cut 60)).map Pc.val = XS := ⟨_, rfl⟩
          rw [hXS] at hrow1
          have hXSV := V.mk hXS
          clear hXS
          have hkl : ((L.take k).map (·.cut 60)).length = k := by simp; omega
          have hpsl : ps.length = k := by rw [hps, List.length_map, hkl]
          have hag := hlf.app_good (d := d) (t := []) (x := P.b.take m) (by rw [hdb]; simp) hst (by omega) (by omega) (by rw [hcap]; omega) (by rw [his]; simp)
          have ho : (lgF cb ps sum).ok d := ⟨by unfold lgF; rw [hdb]; exact Nat.le_refl _, by unfold lgF; rw [← hlf.sum]; have := lastF_ok hd.by_ (List.prefix_refl _); rw [hdb] at this; exact this.2.2, by unfold lgF; simp only; omega⟩
          have ha := app_ds ht hd hl (by have := hd.dg0; omega) ho P.A m P.c (P.b.take m) hxl hrdm (fun c hc => hpb c (List.mem_of_mem_take hc))
          rw [hag, hpsl] at ha
          have haV := V.mk ha
          have hlf2 := hlf.snoc (x := P.b.take m) (by omega) (by omega)
          rw [hpsl] at hlf2
          have hmV := V.mk hm
          clear hP hm ha hag hrdm
          go_wp2_with fail
          refine haV.out.mono ?_
          rintro e w3 ⟨rfl, r3, hd3, hl3, hk3, hf3⟩
          have hwk := IntWalk.i64_in ((k : Int) + 1) (by omega)
          have hne : ((((k + 1 : Nat) : Int)) != (k : Int) + 1) = false := by simp
          have hrow3 := hrow1.kp hk3 (fun j hj => by
            obtain ⟨A', c', hb', hr'⟩ := hd.hd
            rintro (h | h | h)
            · exact hrow1.ne_type hl (by decide) (by rw [hj, h])
            · exact hrow1.ne_type hb' (by decide) (by rw [hj, h])
            · exact hrow1.apart hr' (by decide) j hj h)
          have hbs3 := Blk.kp hbs hk3 (by
            rintro (h | h | h)
            · omega
            · omega
            · have := hr _ h; omega)
          have hr3 : ∀ j, r3 = some j → dg < j := fun j hj => by
            rcases hf3.of_lt hj with h | h
            · exact hr j h
            · have := hd.hd.lt; omega
          have hka := (Kp.refl w3 (fun _ => False)).alloc (.cells #[.slice P.A m P.c] 38)
          clear haV hk3 hf3 hrow1 hbs hr hd hl hlf
          go_wp2_with (at_builtin; refine wpList_app (by rfl) (.tmp 62) (.tmp 64) 34 rfl 38 i0 (.slice none 0 0) 1 24 u_bss hi hz0 hz1 hz2 rfl (by decide) A1 k c1 _ r1 (by rfl) (hrow3.alloc _) _ 1 1 [.slice P.A m P.c] (by rfl) (Rd.lit _ _ _ 1 _ (by simp [maxLen])) rfl (by simp [Value.oneCell']) (k + 1) rfl (by omega) (by simp only [maxLen]; omega) ?_)
          intro A2 c2 r2' w4 hrow4 hkp4 hfr4 _
          have hk34 : Kp w3 w4 (fun j => r1 = some j) := (hka.mono (fun _ h => h.elim)).trans hkp4 (fun j h => .inl h)
          have hd4 := hd3.other hk34 (fun j h => hnew1 j h) (fun h => by
            obtain ⟨A', c', hb', hr'⟩ := hd3.hd
            exact hrow3.ne_type hb' (by decide) h) (fun j h1 h2 => by
            obtain ⟨A', c', hb', hr'⟩ := hd3.hd
            exact hrow3.apart hr' (by decide) j h2 h1)
          have hl4 := hl3.kp hk34 (fun h => hrow3.ne_type hl3 (by decide) h)
          have hbs4 := Blk.kp hbs3 hk34 (fun h => hrow3.ne_type hbs3 (by decide) h)
          have htk : (L.take (k + 1)).map (·.cut 60) = (L.take k).map (·.cut 60) ++ [P.cut 60] := by
            rw [List.take_succ_eq_append_getElem (by omega), List.map_append, hPV.out]
            rfl
          have hcut : (P.cut 60).val = .slice P.A m P.c ∧ (P.cut 60).b = P.b.take 60 := by unfold Pc.cut Pc.val; simp only; rw [hmV.out]; constructor <;> first | rfl | trivial
          have hbtk : P.b.take m = P.b.take 60 := by
            rw [← hmV.out, ← hpl]
            by_cases h : P.b.length ≤ 60
            · rw [Nat.min_eq_left h, List.take_length, List.take_of_length_le h]
            · rw [Nat.min_eq_right (by omega)]
          have hfin : AgR w gs dg g stop L (k + 1) (.slice A2 (k + 1) c2) w4 := by
            refine ⟨A2, c2, r2', r3, _, _, _, _, rfl, by omega, by omega, ?_, hnew1.fr (by have := hd3.kp.size; have := hka.size; omega) hfr4, hd4, hl4, hlf2, ?_, ?_, hst, his, hcap, ?_, hbs4, hr3⟩
            · rw [htk, List.map_append, List.map_cons, List.map_nil, hcut.1, hXSV.out]; exact hrow4
            · rw [htk, List.map_append, List.map_cons, List.map_nil, hcut.2, ← hps, hbtk]
            · simp
            · simp only [List.length_append, frameN_length]; omega
          have hfV := V.mk hfin
          clear hfin hd4 hl4 hbs4 hd3 hl3 hbs3 hrow3 hrow4 hk34 hka hkp4 hfr4 htk hcut hbtk hlf2 hps
          go_wp2_with fail
          go_roundg (n - (k + 1))
          case measure => have := hgkV.out; omega
          case rel => exact ⟨k + 1, by omega, rfl, by go_num, hfV.out⟩
      · go_wp2_with fail
        go_meet
        exact ⟨k, .inl (by omega), A1, c1, r1, r, d, cb, ps, sum, rfl, hkL, hk20, hrow1, hnew1, hd, hl, hlf, hps, hdb, hst, his, hcap, hcl, hbs, hr⟩
  case rest =>
    obtain ⟨k, hkk, A1, c1, r1, r, d, cb, ps, sum, rfl, hkL, hk20, hrow1, hnew1, hd, hl, hlf, hps, hdb, hst, his, hcap, hcl, hbs, hr⟩ := hcut
    obtain ⟨q, hq⟩ : ∃ q : Nat, cut % 30 = (q : Int) := ⟨(cut % 30).toNat, by omega⟩
    have hq30 : q < 30 := by omega
    have hqt : Int.tmod cut 30 = (q : Int) := by rw [Int.tmod_eq_emod_of_nonneg hc0]; exact hq
    have hqw := IntWalk.i64_in (q : Int) (by omega)
    have hs0 : AgS w wc gs dg stop A1 k c1 (((L.take k).map (·.cut 60)).map Pc.val) r1 r d := ⟨hd, hrow1, hbs, hr, hgd⟩
    have hpsl : ps.length = k := by rw [hps, List.length_map, List.length_map, List.length_take]; omega
    obtain ⟨XS, hXS⟩ : ∃ XS, ((L.take k).map (·.cut 60)).map Pc.val = XS := ⟨_, rfl⟩
    rw [hXS] at hs0
    have hXSV := V.mk hXS
    have hpsV := V.mk hps
    have hgw : w.heap.size ≤ g := by have := hd.dg0; omega
    have hplan : d.plan 0 (q : Int) = (0, { d with is := true, p := 0, n := (q : Int) }) := by
      have h1 : ¬ ((0 : Int) < 0 ∨ (q : Int) < 0) := by omega
      unfold Dsk.plan
      rw [if_neg (by rw [hst]; decide), if_neg h1]
    have hpl := plan_ds hd 0 (q : Int)
    rw [hplan] at hpl
    have hplV := V.mk hpl
    obtain ⟨d1, hd1e⟩ : ∃ d1, ({ d with is := true, p := 0, n := (q : Int) } : Dsk) = d1 := ⟨_, rfl⟩
    rw [hd1e] at hplV
    have hb1 : d1.b = cb ++ [] := by rw [← hd1e, List.append_nil]; exact hdb
    have hst1 : d1.st = false := by rw [← hd1e]; exact hst
    have hcap1 : d1.cap = 4000 := by rw [← hd1e]; exact hcap
    have hip1 : d1.is = true ∧ d1.p = 0 := by rw [← hd1e]; exact ⟨rfl, rfl⟩
    have hn1 : d1.n.toNat = q := by rw [← hd1e]; rfl
    have hag := hlf.app_torn (d := d1) (t := []) (x := agT) hb1 hst1 (by decide) (by rw [hcap1]; have : agT.length = 32 := rfl; omega) hip1
    rw [hn1, hpsl] at hag
    have hTw : whole ((frameN (k + 1) (checkN sum (k + 1) agT) agT).take q) = false := whole_torn (by omega) (checkN_lt _ _ _) (by decide) (by have : agT.length = 32 := rfl; omega)
    have hTl : ((frameN (k + 1) (checkN sum (k + 1) agT) agT).take q).length ≤ 29 := by rw [List.length_take]; omega
    obtain ⟨T, hT⟩ : ∃ T, (frameN (k + 1) (checkN sum (k + 1) agT) agT).take q = T := ⟨_, rfl⟩
    rw [hT] at hag hTw hTl
    obtain ⟨d2, hd2e⟩ : ∃ d2, ({ d1 with b := cb ++ (T ++ List.drop T.length []), st := true, is := false, p := 0, n := 0 } : Dsk) = d2 := ⟨_, rfl⟩
    rw [hd2e] at hag
    have hb2 : d2.b = cb ++ T := by rw [← hd2e]; simp
    have hst2 : d2.st = true := by rw [← hd2e]
    have his2 : d2.is = false := by rw [← hd2e]
    have hcap2 : d2.cap = 4000 := by rw [← hd2e]; exact hcap1
    have hrev : d2.revive = (0, { d2 with st := false }) := by unfold Dsk.revive; rw [if_pos hst2]
    obtain ⟨d3, hd3e⟩ : ∃ d3, ({ d2 with st := false } : Dsk) = d3 := ⟨_, rfl⟩
    rw [hd3e] at hrev
    have hb3 : d3.b = cb ++ T := by rw [← hd3e]; exact hb2
    have hst3 : d3.st = false := by rw [← hd3e]
    have his3 : d3.is = false := by rw [← hd3e]; exact his2
    have hrevV := V.mk hrev
    have hst2V := V.mk hst2
    have hpk : ps.length + 1 < 4294967296 := by omega
    clear hT hd2e hd3e hrev hst2 hip1
    have hlok : lgF cb ps sum = ⟨cb.length, sum, k + 1⟩ := by unfold lgF; rw [hpsl]
    have hosum : sum < 4294967296 := by rw [← hlf.sum]; have := lastF_ok hd.by_ (List.prefix_refl _); rw [hdb] at this; exact this.2.2
    clear hpl hrelV hq hXS hps hplan hd1e hd hrow1 hbs hr
    go_wp2_with fail
    refine hplV.out.mono ?_
    rintro e w3 ⟨rfl, r3, hd3, hk3, hf3⟩
    have hs3 := hs0.disk hd3 hk3 hf3
    have hgd3 := hl.row2 hs0.ds.hd
    have hl3 := hl.kp hk3 (by rintro (h | h); exact hgd3.2 h; exact hgd3.1 h)
    have ho3 : (lgF cb ps sum).ok d1 := ⟨by unfold lgF; rw [hb1]; simp, hosum, by unfold lgF; simp only; omega⟩
    clear hplV hk3 hf3 hs0 hl hd3 hgd3
    have hka := (Kp.refl w3 (fun _ => False)).alloc (.cells (B8 agT).toArray 5 (32, 33))
    have hcv := cv_bytes w3 (B8 agT).toArray 32 32
    have ha := V.mk (app_ds ht (hs3.ds.quiet hka) (hl3.kp hka (fun h => h)) hgw ho3 (some ⟨w3.heap.size, 0, none⟩) 32 32 agT rfl (Rd.lit w3 5 (32, 33) 32 (B8 agT) (by simp [maxLen])) (isB_lit (by decide)))
    have hs3' := hs3.quiet hka
    have hl3' := hl3.kp hka (fun h => h)
    rw [hag] at ha
    clear hs3 hl3 hka
    unfold agT B8 at ha hs3' hl3' hcv
    simp only [List.map_cons, List.map_nil] at ha hs3' hl3' hcv
    go_wp2_with fail
    refine ha.out.mono ?_
    rintro e w4 ⟨rfl, r4, hd4, hl4, hk4, hf4⟩
    have hdg : dg < g := hgg
    have hs4 := hs3'.log hl3' hdg hd4 hk4 hf4
    clear ha hk4 hf4 hs3' hl3' hd4 hl4 hcv
    have hsp := stopped_any w4 dg r4 d2 hs4.ds.hd
    rw [hst2V.out] at hsp
    have hspV := V.mk hsp
    have hrv := revive_ds hs4.ds
    rw [hrevV.out] at hrv
    have hrvV := V.mk hrv
    clear hsp hrv
    go_wp2_with fail
    refine hspV.out.mono ?_
    rintro e x ⟨rfl, hx⟩
    subst hx
    go_wp2_with fail
    refine hrvV.out.mono ?_
    rintro e w5 ⟨rfl, r5, hd5, hk5, hf5⟩
    have hs5 := hs4.disk hd5 hk5 hf5
    have hv1 := hlf.recov (noMore_short hlf hpk hTw) hpk hb3 hst3 hs5.ds.ok (by rw [his3]; simp)
    clear hspV hrvV hk5 hf5 hs4 hd5
    go_wp2_with fail
    refine (rec_ds ht hs5.ds).mono ?_
    rintro e w6 ⟨r6, hd6, hk6, hf6, hp⟩
    rcases hp with ⟨h0, -⟩ | ⟨-, gy, hgy, rfl, hly⟩
    · exact absurd hv1.2.1 h0
    rw [hv1.1] at hly
    have hs6 := hs5.disk hd6 hk6 hf6
    obtain ⟨d4, hd4e⟩ : ∃ d4, d3.recov.2 = d4 := ⟨_, rfl⟩
    rw [hd4e] at hs6 hv1
    have hgyd : dg < gy := by have := hs5.ds.hd.lt; omega
    have hv2 := hlf.recov (noMore_zeros hlf hpk T.length) hpk hv1.2.2.1 hv1.2.2.2.1 hs6.ds.ok (by rw [hv1.2.2.2.2.1, his3]; simp)
    clear hk6 hf6 hs5 hd6 hd4e hgy
    go_wp2_with fail
    refine (rec_ds ht hs6.ds).mono ?_
    rintro e w7 ⟨r7, hd7, hk7, hf7, hp⟩
    rcases hp with ⟨h0, -⟩ | ⟨-, gz, hgz, rfl, hlz⟩
    · exact absurd hv2.2.1 h0
    rw [hv2.1] at hlz
    have hs7 := hs6.disk hd7 hk7 hf7
    have hgy7 := hly.row2 hs6.ds.hd
    have hly7 := hly.kp hk7 (by rintro (h | h); exact hgy7.2 h; exact hgy7.1 h)
    obtain ⟨d5, hd5e⟩ : ∃ d5, d4.recov.2 = d5 := ⟨_, rfl⟩
    rw [hd5e] at hs7 hv2
    have hb5 : d5.b = cb ++ List.replicate T.length 0 := by have := hv2.2.2.1; rwa [List.length_replicate] at this
    have hcap5 : d5.b.length = cb.length + T.length := by rw [hb5, List.length_append, List.length_replicate]
    have hgzw : w.heap.size ≤ gz := by have := hs6.ds.kp.size; omega
    have ho5 : (lgF cb ps sum).ok d5 := ⟨by unfold lgF; rw [hcap5]; simp, hosum, by unfold lgF; simp only; omega⟩
    have hpay : paysL (d5.b.take (lgF cb ps sum).at_) = ps := by rw [hb5]; unfold lgF; rw [List.take_left]; exact hlf.pays
    clear hk7 hf7 hs6 hd7 hd5e hly hgy7 hv1 hv2 hgz
    have hrw := rows_ds ht hs7.ds hly7 ho5
    rw [hpay] at hrw
    have hrwV := V.mk hrw
    clear hrw
    go_wp2_with fail
    refine hrwV.out.mono ?_
    rintro e w8 ⟨A8, c8, r8, qs8, rfl, hrow8, hnew8, hk8, hqs8, hq8⟩
    obtain ⟨LC, hLC⟩ : ∃ LC, (L.take k).map (·.cut 60) = LC := ⟨_, rfl⟩
    have hXSv := hXSV.out
    have hpsv := hpsV.out
    rw [hLC] at hXSv hpsv
    have hLCl : LC.length = k := by rw [← hLC, List.length_map, List.length_take]; omega
    have hLCr : V (∀ W, Kp w W (fun _ => False) → ∀ p ∈ LC, p.Rd W) := ⟨by
      intro W hk p hp
      rw [← hLC, List.mem_map] at hp
      obtain ⟨p0, h1, rfl⟩ := hp
      have h2 := hLp p0 (List.mem_of_mem_take h1)
      exact pc_cut_rd h2.1 h2.2.1 h2.2.2.2 hk 60⟩
    have hpsB : ∀ x ∈ ps, IsB x := by
      intro x hx
      rw [hpsv, List.mem_map] at hx
      obtain ⟨p, h1, rfl⟩ := hx
      exact (hLCr.out w (Kp.refl _ _) p h1).by_
    have hs8 := hs7.quiet hk8
    have hsm := same_any w8 A8 A1 k k c8 c1 qs8 LC (by rw [← hpsl, ← hqs8, List.length_map]) hLCl (by have := hrow8.rd; rwa [hpsl] at this) (by have := hs8.row.rd; rwa [← hXSv] at this)
      (fun p hp => ⟨(hq8 p hp).1.rd, (hq8 p hp).2.1, hpsB _ (by rw [← hqs8]; exact List.mem_map_of_mem hp)⟩) (hLCr.out w8 hs8.ds.kp)
    rw [decide_eq_true (by rw [hqs8, hpsv])] at hsm
    have hsmV := V.mk hsm
    have hly8 := hly7.kp hk8 (fun h => h)
    have hlz8 := hlz.kp hk8 (fun h => h)
    have hpsBV := V.mk hpsB
    have hXSV2 := V.mk hXSv
    have hpsV2 := V.mk hpsv
    have hLClV := V.mk hLCl
    rw [hpsl]
    clear hrwV hrow8 hnew8 hk8 hqs8 hq8 hsm hs7 hly7 hlz hpsB hXSV hpsV hLC hXSv hpsv hLCl
    go_wp2_with fail
    refine hsmV.out.mono ?_
    rintro e x ⟨rfl, hx⟩
    subst hx
    have hrw := rows_ds ht hs8.ds hlz8 ho5
    rw [hpay] at hrw
    have hrwV := V.mk hrw
    clear hrw hsmV
    go_wp2_with fail
    refine hrwV.out.mono ?_
    rintro e w9 ⟨A9, c9, r9, qs9, rfl, hrow9, hnew9, hk9, hqs9, hq9⟩
    have hs9 := hs8.quiet hk9
    have hsm := same_any w9 A9 A1 k k c9 c1 qs9 LC (by rw [← hpsl, ← hqs9, List.length_map]) hLClV.out (by have := hrow9.rd; rwa [hpsl] at this) (by have := hs9.row.rd; rwa [← hXSV2.out] at this)
      (fun p hp => ⟨(hq9 p hp).1.rd, (hq9 p hp).2.1, hpsBV.out _ (by rw [← hqs9]; exact List.mem_map_of_mem hp)⟩) (hLCr.out w9 hs9.ds.kp)
    rw [decide_eq_true (by rw [hqs9, hpsV2.out])] at hsm
    have hsmV := V.mk hsm
    have hly9 := hly8.kp hk9 (fun h => h)
    have hlz9 := hlz8.kp hk9 (fun h => h)
    rw [hpsl]
    clear hrwV hrow9 hnew9 hk9 hqs9 hq9 hsm hs8 hly8 hlz8
    go_wp2_with fail
    refine hsmV.out.mono ?_
    rintro e x ⟨rfl, hx⟩
    subst hx
    have hsy := V.mk (lsize_is w9 gy dg cb.length sum (ps.length + 1) hly9)
    have hsz := V.mk (lsize_is w9 gz dg cb.length sum (ps.length + 1) hlz9)
    have hnz := V.mk (lnext_is w9 gz dg cb.length sum (ps.length + 1) hlz9)
    have hwk1 := IntWalk.i64_in ((k : Int) + 1) (by omega)
    rw [hpsl] at hnz
    clear hsmV
    go_wp2_with fail
    refine hsy.out.mono ?_
    rintro e x ⟨rfl, hx⟩
    subst hx
    go_wp2_with fail
    refine hsz.out.mono ?_
    rintro e x ⟨rfl, hx⟩
    subst hx
    go_wp2_with fail
    refine hnz.out.mono ?_
    rintro e x ⟨rfl, hx⟩
    subst hx
    go_wp2_with fail
    refine hsy.out.mono ?_
    rintro e x ⟨rfl, hx⟩
    subst hx
    have hrd := read_any w9 dg r7 d5 hs9.ds.hd hs9.ds.ok (cb.length : Int) 4000 (by omega)
    have hz : d5.read (cb.length : Int) 4000 = List.replicate T.length 0 := by
      have h1 : ¬ ((cb.length : Int) < 0 ∨ (4000 : Int) < 0 ∨ (d5.b.length : Int) < (cb.length : Int)) := by omega
      unfold Dsk.read
      rw [if_neg h1, hb5]
      have e1 : (cb.length : Int).toNat = cb.length := by omega
      rw [e1, List.drop_left, List.take_of_length_le (by simp; omega)]
    rw [hz] at hrd
    have hrdV := V.mk hrd
    clear hrd hz hsy hsz hnz hly9
    go_wp2_with fail
    refine hrdV.out.mono ?_
    rintro e w10 ⟨Az, nz, cz, rz, rfl, hrowz, hnewz, hkz⟩
    have hs10 := hs9.quiet hkz
    have hlz10 := hlz9.kp hkz (fun h => h)
    have hnzl : nz = T.length := by have := hrowz.len; simpa [B8] using this.symm
    have hnzc := hrowz.le
    have hczm : cz ≤ 9223372036854775807 := by have := hnzc.2; simpa [maxLen] using this
    rw [B8_zeros, ← hnzl] at hrowz
    have hrz := V.mk hrowz.rd
    have hs10V := V.mk hs10
    have hlz10V := V.mk hlz10
    clear hrdV hkz hnewz hrowz hs9 hlz9 hs10 hlz10
    go_upto_block 2 with fail
    go_cut [20] from 136 to 141 (fun s W => W = w10)
    case first =>
      go_wp2_with fail
      go_loopw [20, 135] (fun _ i wr => ∃ j : Nat, j ≤ nz ∧ i = .int .i64 j ∧ wr = w10) (fun _ i _ => nz - (intOf i).toNat)
      case atStart => exact ⟨0, Nat.zero_le _, rfl, rfl⟩
      case round =>
        obtain ⟨j, hj, rfl, rfl⟩ := hrel
        by_cases hgo : j < nz
        · obtain ⟨ab, ao, rfl, hcs⟩ := hrz.out.base (by omega) (by simp; omega)
          have x0 := hcs j (.int .u8 0) (by simp [hgo])
          clear hcs
          go_wp2
          go_roundw
          case rel => exact ⟨j + 1, by omega, by go_num, by first | rfl | trivial⟩
          case measure => simp [intOf]; omega
        · go_wp2_with fail
          go_meet
          trivial
    case rest =>
      obtain rfl : wc = w10 := hcut
      have hs10 := hs10V.out
      have hlz10 := hlz10V.out
      obtain ⟨bm, hbm⟩ : ∃ b, wc.heap.size = b := ⟨_, rfl⟩
      have hka := (Kp.refl wc (fun _ => False)).alloc (.cells #[.int .i64 0] 3)
      have hm11 := Blk.new wc #[.int .i64 0] 3
      have hs11 := hs10.quiet hka
      have hlz11 := hlz10.kp hka (fun h => h)
      rw [hbm] at hm11
      have hbmw : w.heap.size ≤ bm := by have := hs10.ds.kp.size; omega
      have hgsbm : gs < bm := by have := Blk.lt hs10.box; omega
      clear hka hs10 hlz10 hs10V hlz10V hrz
      go_wp2_with fail
      obtain ⟨W11, hW11⟩ : ∃ W11, wc.alloc (.cells #[.int .i64 0] 3) = W11 := ⟨_, rfl⟩
      rw [hW11] at hm11 hs11 hlz11 ⊢
      clear hW11
      refine (lall_any W11 (some ⟨gz, 0, none⟩)).mono ?_
      rintro e W12 ⟨rfl, hW12⟩
      have hk12 : Kp W11 W12 (fun _ => False) := by rw [hW12]; exact (Kp.refl _ _).alloc _
      have hbc : Blk W12 W11.heap.size #[.pointer (some ⟨gz, 0, none⟩)] 22 := by rw [hW12]; exact Blk.new _ _ _
      clear hW12
      have hs12 := hs11.quiet hk12
      have hlz12 := hlz11.kp hk12 (fun h => h)
      have hm12 := Blk.kp hm11 hk12 (fun h => h)
      have hcb600 : cb.length ≤ 1048576 := by omega
      have hseq := fun F (hF : IsWide F) => lall1_in F hF W12 (hs12.ds.tab ht) W11.heap.size gz dg r7 cb.length sum (ps.length + 1) d5 hbc hlz12 hs12.ds.hd hs12.ds.ok hs12.ds.by_ hcb600
      rw [show d5.b.take cb.length = cb by rw [hb5, List.take_left]] at hseq
      have hfl : (framesL cb).length = k := by rw [← hpsl, ← hlf.pays, List.length_map]
      have hseqV := V.mk hseq
      have hbmlt := Blk.lt hm12
      have hwsz := hs12.ds.kp.size
      obtain ⟨s8, hs8e⟩ : ∃ q : Nat, stop % 8 = (q : Int) := ⟨(stop % 8).toNat, by omega⟩
      have hs87 : s8 < 8 := by omega
      have hst8 : Int.tmod stop 8 = (s8 : Int) := by rw [Int.tmod_eq_emod_of_nonneg hs0p.out]; exact hs8e
      have hi0V : V (∀ N, W12.heap.size + 2 ≤ N → AgM w bm gs stop s8 N [] W12) := ⟨fun N _ => ⟨Nat.zero_le _, hm12, hs12.box, hs12.ds.kp⟩⟩
      have hwp := ht.lt
      clear hseq hs12 hs11 hlz12 hlz11 hm12 hm11 hbc hk12 hs8e
      go_wp2_with fail
      refine (safe2_any W12 _ _).mono ?_
      rintro e W13 ⟨rfl, hW13⟩
      subst hW13
      go_wp2_with fail
      refine range_wpM (gf := 48) (lb := #[.pointer (some ⟨W11.heap.size, 0, none⟩)]) rfl (fun _ _ => rfl) (δ := Option Addr × Nat × Nat)
        (fun x y => #[.int .u32 x.num, .slice y.1 y.2.1 y.2.2]) hseqV.out (fun x y V => True) (fun _ _ _ _ _ _ _ => trivial) (by rintro j rfl; omega) (fun _ h => h) (Below.refl _ _)
        (fun V x W1 args hV he => by obtain ⟨A, n, c, r, rfl, q1, q2, q3⟩ := he; exact ⟨(A, n, c), rfl, trivial⟩) (fun V x W args he => by obtain ⟨A, n, c, r, rfl, _⟩ := he; rfl)
        (AgM w bm gs stop s8) (AgX w bm gs stop s8) (fun N => AgM.still hwsz) (fun N c => AgX.still hwsz) hi0V.out ?_ ?done ?stop
      · apply Exists.intro
        constructor
        · intro F l x y W K hF hK
          gi_wp2
          exact hK
        · rintro F N l pre x y W hF hde hN1 hN2 hl' hloop ⟨hle, hbm1, hbs1, hk1⟩ hpx _
          have q0 := hbm1.cell' 0 rfl
          have f0 := hbm1.free 0
          have q1 : W.cell? ⟨w.heap.size, 0, none⟩ = some (.int .u8 stop) := by rw [hgsV.out]; exact hbs1.cell' 0 rfl
          obtain ⟨pl, hplen⟩ : ∃ m, pre.length = m := ⟨_, rfl⟩
          rw [hplen] at q0 hbm1 hle
          have hpl2 : (pre ++ [x]).length = pl + 1 := by simp [hplen]
          have hwa := IntWalk.i64_in ((pl : Int) + 1) (by omega)
          have hws := IntWalk.i64_in (s8 : Int) (by omega)
          have hbm2 : Blk (W.setCell ⟨bm, 0, none⟩ (.int .i64 ((pl : Int) + 1))) bm #[.int .i64 ((pl : Int) + 1)] 3 := by simpa using hbm1.set 0 (.int .i64 ((pl : Int) + 1))
          have hkW : Kp W (W.setCell ⟨bm, 0, none⟩ (.int .i64 ((pl : Int) + 1))) (fun j => j = bm) := (Kp.refl W (fun j => j = bm)).set _ _ _ (.inl rfl)
          have hbs2 : Blk (W.setCell ⟨bm, 0, none⟩ (.int .i64 ((pl : Int) + 1))) gs #[.int .u8 stop] 5 := Blk.kp hbs1 hkW (by omega)
          have hk2 : Kp w (W.setCell ⟨bm, 0, none⟩ (.int .i64 ((pl : Int) + 1))) (fun _ => False) := hk1.trans hkW (fun j h => .inr (by omega))
          have hq : Kq (Xn X0 (W12.heap.size + 2) N) TF W (W.setCell ⟨bm, 0, none⟩ (.int .i64 ((pl : Int) + 1))) := Kq.of_kp' hkW (by
            rintro j rfl
            refine ⟨?_, fun cs t fr hc ht => ?_⟩
            · rintro (h | h)
              · unfold X0 at h; omega
              · omega
            · unfold Blk at hbm1
              rw [hbm1] at hc; simp only [Option.some.injEq, Obj.cells.injEq] at hc; rw [← hc.2.1] at ht; unfold TF at ht; simp at ht)
          have hkm : Keepm W12.heap.size W (W.setCell ⟨bm, 0, none⟩ (.int .i64 ((pl : Int) + 1))) := Keepm.of_kp hkW (by rintro j rfl; exact .inl (by omega))
          have hs1' : (W.setCell ⟨bm, 0, none⟩ (.int .i64 ((pl : Int) + 1))).cell? ⟨w.heap.size, 0, none⟩ = some (.int .u8 stop) := by rw [hgsV.out]; exact hbs2.cell' 0 rfl
          have hneq : bm ≠ w.heap.size := by have := hgsV.out; omega
          by_cases hgt : pl = s8
          · have hX : AgX w bm gs stop s8 N (.exit 4) (pre ++ [x]) (W.setCell ⟨bm, 0, none⟩ (.int .i64 ((pl : Int) + 1))) := ⟨rfl, by rw [hpl2, hgt], by rw [← hgt]; exact_mod_cast hbm2, hbs2, hk2⟩
            have hXV := V.mk hX
            have d1 : decide ((pl : Int) + 1 > (s8 : Int)) = true := by simp; omega
            have d2 : decide ((s8 : Int) < (pl : Int) + 1) = true := by simp; omega
            have d3 : decide (s8 < pl + 1) = true := by simp; omega
            clear hX hbm1 hbs1 hbm2 hbs2 hgt
            gi_wp2
            exact ⟨hkm, hXV.out⟩
          · have hM : AgM w bm gs stop s8 N (pre ++ [x]) (W.setCell ⟨bm, 0, none⟩ (.int .i64 ((pl : Int) + 1))) := ⟨by omega, by rw [hpl2]; exact_mod_cast hbm2, hbs2, hk2⟩
            have hMV := V.mk hM
            have d1 : decide ((pl : Int) + 1 > (s8 : Int)) = false := by simp; omega
            have d2 : decide ((s8 : Int) < (pl : Int) + 1) = false := by simp; omega
            have d3 : decide (s8 < pl + 1) = false := by simp; omega
            clear hM hbm1 hbs1 hbm2 hbs2 hgt
            gi_wp2
            exact ⟨hkm, hq, hMV.out⟩
      case done =>
        rintro N D W hN hD ⟨hle, hbm1, hbs1, hk1⟩ hK
        rw [hfl] at hle hbm1
        have q0 := hbm1.cell' 0 rfl
        have q1 : W.cell? ⟨w.heap.size, 0, none⟩ = some (.int .u8 stop) := by rw [hgsV.out]; exact hbs1.cell' 0 rfl
        have hws := IntWalk.i64_in (s8 : Int) (by omega)
        have hwa := IntWalk.i64_in ((s8 : Int) + 1) (by omega)
        have e1 : (if (s8 : Int) + 1 < (k : Int) then (s8 : Int) + 1 else (k : Int)) = (k : Int) := by split <;> omega
        have hwk := V.mk (wakes_any W (ht.kp hk1 (fun h => h)))
        go_wp2_with fail
        refine hwk.out.mono ?_
        rintro e W14 ⟨rfl, hk14⟩
        have hK14 := (hk14.blk D (Array.getElem?_eq_some_iff.1 hK).1 (fun h => h)).trans hK
        have hfin := (hk1.quiet hk14).putObj (D := D) (.deferred none) (by omega)
        go_wp2_with fail
        refine marks_ret hK14 ⟨.bool true, ?_, rfl, hfin⟩
        simp [results, Tryd.results5, go_sem]
      case stop =>
        rintro N D c pre W hN hD hpre ⟨rfl, hpl, hbm1, hbs1, hk1⟩ hK
        have hle : s8 + 1 ≤ k := by rw [← hfl, ← hpl]; exact hpre.length_le
        have q0 := hbm1.cell' 0 rfl
        have q1 : W.cell? ⟨w.heap.size, 0, none⟩ = some (.int .u8 stop) := by rw [hgsV.out]; exact hbs1.cell' 0 rfl
        have hws := IntWalk.i64_in (s8 : Int) (by omega)
        have hwa := IntWalk.i64_in ((s8 : Int) + 1) (by omega)
        have e1 : (if (s8 : Int) + 1 < (k : Int) then (s8 : Int) + 1 else (k : Int)) = (s8 : Int) + 1 := by split <;> omega
        have hwk := V.mk (wakes_any W (ht.kp hk1 (fun h => h)))
        go_wp2_with fail
        refine hwk.out.mono ?_
        rintro e W14 ⟨rfl, hk14⟩
        have hK14 := (hk14.blk D (Array.getElem?_eq_some_iff.1 hK).1 (fun h => h)).trans hK
        have hfin := (hk1.quiet hk14).putObj (D := D) (.deferred none) (by omega)
        go_wp2_with fail
        refine marks_ret hK14 ⟨.bool true, ?_, rfl, hfin⟩
        simp [results, Tryd.results5, go_sem]

end Go.Proofs.YtkameiopahcacaaDoor
