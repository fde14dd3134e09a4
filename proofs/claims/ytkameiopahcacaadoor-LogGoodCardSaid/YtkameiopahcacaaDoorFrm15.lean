/- log.frames: an iterator goes through the frames that stand. Condition: the bytes are read, at most 2^20 of them; the table stands. -/
import Derived.Test.YtkameiopahcacaaDoorFrm15M
import Derived.Test.YtkameiopahcacaaDoorSeqB
set_option linter.unusedVariables false
set_option linter.unusedSimpArgs false
set_option maxRecDepth 100000
namespace Go.Proofs.YtkameiopahcacaaDoor
open Go.RowKit Go.Shelf
attribute [local go_sem] Oper.semAt_some

def TF (t : TypeId) : Prop := t = 75
def encF (W : World) (x : Fm) (W1 : World) (args : Array Value) : Prop :=
  ∃ A n c r, args = #[.agg #[.slice A n c, .int .u32 x.num, .int .u32 x.sum, .int .i64 x.fin]] ∧ x.pay.length = n ∧ Row W1 5 1 A n c (B8 x.pay) r ∧ New W r
theorem Tab.below {w W : World} {B : Nat} (h : Tab w) (hW : Below B w W) (h0 : 0 < B) : Tab W := fun i v hv =>
  (World.cell?_of_block (hW.block 0 h0)).trans (h i v hv)
theorem Tab.lt {w : World} (h : Tab w) : 0 < w.heap.size := by
  have := World.block_lt_of_cell? w _ (h 0 0 rfl)
  simpa using this
theorem rd1_num {bs : List Int} (hb : IsB bs) (f : Fm) : 0 ≤ numB (rd1 bs f).1 ∧ numB (rd1 bs f).1 < 65536 := by
  have := takeR_num (bs.drop f.fin) false 2 (fun c hc => hb c (List.mem_of_mem_drop hc))
  exact ⟨this.1, by have := this.2; unfold rd1; omega⟩

set_option maxHeartbeats 4000000 in
theorem frames1_in (F : Fence) (hF : IsWide F) (w : World) (ht : Tab w) (A : Option Addr) (nb cb : Nat) (bs : List Int) (hbl : bs.length = nb) (hrd : Rd w A nb cb (B8 bs)) (hby : IsB bs) (hn : nb ≤ 1048576)
    (Bb : Nat) (hb : Blk w Bb #[.slice A nb cb] 38) (X : Nat → Prop) (hX0 : X 0) (hXA : ∀ ad, A = some ad → B8 bs ≠ [] → X ad.block) (hXb : X Bb) (hXlt : ∀ k, X k → k < w.heap.size) (T2 : TypeId → Prop) (hT2 : ∀ t, TF t → T2 t) :
    SeqL F Tryd.prog 56 #[.pointer (some ⟨Bb, 0, none⟩)] encF TF X T2 (framesL bs) w := by
  intro N k J Jx W hW hJ hJx hY h0
  have hro := wide_ro hF
  have hde := wide_de hF
  have hfn := wide_fn hF
  have htW := ht.below hW ht.lt
  have hbW : Blk W Bb #[.slice A nb cb] 38 := (hW.block _ hb.lt).trans hb
  have hrdW := hrd.below hW (fun ad h1 h2 => hXlt _ (hXA ad h1 h2))
  have hsz := hW.size
  have hYV := V.mk hY
  have hblV := V.mk hbl
  clear hY hbl ht hb hrd
  refine callsIn_of_wp Tryd.func56 rfl (wide_fn hF _) ?_ hro
  simp only [Tryd.ntmps56, List.size_toArray, List.length_cons, List.length_nil, Nat.reduceAdd, Nat.reduceSub, Array.replicate_succ, Array.replicate_zero, List.push_toArray, List.append_toArray, List.nil_append, List.cons_append]
  gi_wp2
  have k0 := (Kp.refl W (fun _ => False)).alloc (.cells #[.slice none 0 0, .int .u32 0, .int .u32 0, .int .i64 0] 75)
  have bf0 := Blk.new W #[.slice none 0 0, .int .u32 0, .int .u32 0, .int .i64 0] 75
  have j0 := hJ _ _ _ h0 (Turn.kp k0)
  have bb0 := Blk.kp hbW k0 (fun h => h)
  have rd0 := hrdW.kp k0 (fun _ _ _ h => h)
  have t0 := htW.kp k0 (fun h => h)
  obtain ⟨W0, hW0⟩ : ∃ W0, W.alloc (.cells #[.slice none 0 0, .int .u32 0, .int .u32 0, .int .i64 0] 75) = W0 := ⟨_, rfl⟩
  rw [hW0] at k0 bf0 j0 bb0 rd0 t0 ⊢
  clear hW0
  have hncb : nb ≤ cb ∧ cb ≤ 9223372036854775807 := ⟨hrdW.1, by have := hrdW.2.1; simpa [maxLen] using this⟩
  gi_loopw [4, 5, 6, 7, 8] (fun _ _ _ _ _ wr => ∃ (pre : List Fm) (f : Fm) (A4 : Option Addr) (n4 c4 : Nat), V (framesL bs = pre ++ framesFrom bs f) ∧ f.fin ≤ nb ∧ f.num < 4294967296 ∧ f.sum < 4294967296 ∧
      Blk wr W.heap.size #[.slice A4 n4 c4, .int .u32 f.num, .int .u32 f.sum, .int .i64 f.fin] 75 ∧ J pre wr ∧ Blk wr Bb #[.slice A nb cb] 38 ∧ Rd wr A nb cb (B8 bs) ∧ Tab wr ∧ W.heap.size ≤ wr.heap.size)
      (fun _ _ _ _ _ wr => nb + 1 - (intOf ((wr.cell? ⟨W.heap.size, 3, none⟩).getD undef)).toNat)
  case atStart => exact ⟨[], ⟨[], 0, 0, 0⟩, none, 0, 0, ⟨rfl⟩, Nat.zero_le _, by decide, by decide, bf0, j0, bb0, rd0, t0, k0.size⟩
  case round =>
    obtain ⟨pre, f, A4, n4, c4, hfr, hfin, hnum, hsum, hbf, hj, hbb, hrd, htab, hsz2⟩ := hrel
    have z0 := hbb.cell' 0 rfl
    have z1 := hbf.cell' 1 rfl
    have z2 := hbf.cell' 2 rfl
    have z3 := hbf.cell' 3 rfl
    have hsub := hrd.sub f.fin (nb - f.fin) (by omega)
    have e1 : ((B8 bs).drop f.fin).take (nb - f.fin) = B8 (bs.drop f.fin) := by
      rw [List.take_of_length_le (by simp [B8, hblV.out])]
      simp [B8, List.map_drop]
    rw [e1] at hsub
    clear e1
    obtain ⟨AA, hAA⟩ : ∃ AA, (if cb = f.fin then A else A.map (fun x => x.add f.fin)) = AA := ⟨_, rfl⟩
    rw [hAA] at hsub
    have i1 : (0 : Int) ≤ (f.fin : Int) := by omega
    have i2 : (f.fin : Int) ≤ (nb : Int) := by omega
    have i3 : (nb : Int) ≤ (cb : Int) := by omega
    have hlen0 : (bs.drop f.fin).length = nb - f.fin := by rw [List.length_drop, hblV.out]
    have hby0 : IsB (bs.drop f.fin) := fun c hc => hby c (List.mem_of_mem_drop hc)
    gi_wp2_with fail
    refine (cin hF (rnewr_any wr AA (nb - f.fin) (cb - f.fin) (bs.drop f.fin) hlen0 hsub (by omega))).mono ?_
    rintro e w1 ⟨g, rb, rfl, r1, hg, hrb, k1⟩
    have hlb : ∀ (t : List Int), t.length ≤ (bs.drop f.fin).length → t.length ≤ 1048576 := fun t h => by omega
    have l1 : (rd1 bs f).2.1.length ≤ (bs.drop f.fin).length := tkL _ _ _
    have b1 : IsB (rd1 bs f).2.1 := (tkB hby0 _ _).1
    have l2 : (rd2 bs f).2.1.length ≤ (bs.drop f.fin).length := Nat.le_trans (tkL _ _ _) l1
    have b2 : IsB (rd2 bs f).2.1 := (tkB b1 _ _).1
    have l3 : (rd3 bs f).2.1.length ≤ (bs.drop f.fin).length := Nat.le_trans (tkL _ _ _) l2
    have b3 : IsB (rd3 bs f).2.1 := (tkB b2 _ _).1
    obtain ⟨many, hmany⟩ : ∃ v : Nat, numB (rd1 bs f).1 = v := ⟨(numB (rd1 bs f).1).toNat, by have := (rd1_num hby f).1; omega⟩
    have hmb := (rd1_num hby f).2
    have hn2 := takeR_num (rd1 bs f).2.1 (rd1 bs f).2.2 4 b1
    have hn3 := takeR_num (rd2 bs f).2.1 (rd2 bs f).2.2 4 b2
    obtain ⟨num, hnm⟩ : ∃ v : Nat, numB (rd2 bs f).1 = v := ⟨(numB (rd2 bs f).1).toNat, by have := hn2.1; unfold rd2; omega⟩
    obtain ⟨sum, hsm⟩ : ∃ v : Nat, numB (rd3 bs f).1 = v := ⟨(numB (rd3 bs f).1).toNat, by have := hn3.1; unfold rd3; omega⟩
    have hnum2 : num < 4294967296 := by have := hn2.2; have h2 : numB (rd2 bs f).1 = num := hnm; unfold rd2 at h2; omega
    have hsum2 : sum < 4294967296 := by have := hn3.2; have h2 : numB (rd3 bs f).1 = sum := hsm; unfold rd3 at h2; omega
    rw [hmany] at hmb
    have c1 := rtwo_any w1 g rb (bs.drop f.fin) false r1 (by omega) hby0
    rw [show takeR (bs.drop f.fin) false 2 = rd1 bs f from rfl, hmany] at c1
    gi_wp2_with fail
    refine (cin hF c1).mono ?_
    rintro e w2 ⟨rfl, r2, k2⟩
    have c2 := rfour_any w2 g rb _ _ r2 (hlb _ l1) b1
    rw [show takeR (rd1 bs f).2.1 (rd1 bs f).2.2 4 = rd2 bs f from rfl, hnm] at c2
    have hw16 : (many : Int) < 65536 := hmb
    gi_wp2_with fail
    refine (cin hF c2).mono ?_
    rintro e w3 ⟨rfl, r3, k3⟩
    have c3 := rfour_any w3 g rb _ _ r3 (hlb _ l2) b2
    rw [show takeR (rd2 bs f).2.1 (rd2 bs f).2.2 4 = rd3 bs f from rfl, hsm] at c3
    gi_wp2_with fail
    refine (cin hF c3).mono ?_
    rintro e w4 ⟨rfl, r4, k4⟩
    have c4 := rtake_any w4 g rb _ _ r4 many (by omega) (hlb _ l3)
    have e4 : takeR (rd3 bs f).2.1 (rd3 bs f).2.2 many = rd4 bs f := by unfold rd4; rw [hmany]; rfl
    rw [e4] at c4
    gi_wp2_with fail
    refine (cin hF c4).mono ?_
    rintro e w5 ⟨A5, n5, c5, r5, rfl, hn5, hrow5, hnew5, r6, k5⟩
    have q : ∀ {a b : World}, Kp a b (fun j => j = g) → Kp a b (fun j => j = g) := fun h => h
    have k15 : Kp wr w5 (fun _ => False) := by
      have h1 := ((k2.trans k3 (fun j h => .inl h)).trans k4 (fun j h => .inl h)).trans k5 (fun j h => .inl h)
      exact k1.trans h1 (fun j h => .inr (by omega))
    gi_wp2_with fail
    refine (cin hF (rerr_any w5 g rb _ _ r6)).mono ?_
    rintro e w6 ⟨rfl, hw6⟩
    subst hw6
    have hbf5 := Blk.kp hbf k15 (fun h => h)
    have hbb5 := Blk.kp hbb k15 (fun h => h)
    have hrd5 := hrd.kp k15 (fun _ _ _ h => h)
    have ht5 := htab.kp k15 (fun h => h)
    have hj5 := hJ _ _ _ hj (Turn.kp k15)
    have hnewW : New W r5 := hnew5.mono (by have := k1.size; have := k2.size; have := k3.size; have := k4.size; omega)
    clear c1 c2 c3 c4 e4 r1 r2 r3 r4 k1 k2 k3 k4 k5 z0 z1 z2 z3 q hsub hAA
    obtain ⟨m1, hm1⟩ : ∃ v : Nat, (f.num + 1) % 4294967296 = v := ⟨_, rfl⟩
    have hwp : IntKind.u32.wrap ((f.num : Int) + 1) = (m1 : Int) := by rw [IntKind.wrap_u32]; omega
    have hb4 : IsB (rd4 bs f).1 := (tkB b3 _ _).2
    have hl4 : (rd4 bs f).1.length ≤ many := by have := tkN (rd3 bs f).2.1 (rd3 bs f).2.2 (numB (rd1 bs f).1).toNat; unfold rd4; omega
    have hn5' : n5 < 65536 := by omega
    have hgood : nextF bs f = ⟨(rd4 bs f).1, num, sum, f.fin + 10 + many⟩ := by unfold nextF; rw [hnm, hsm, hmany]; rfl
    have hbadE : badF bs f = ((rd4 bs f).2.2 || !decide (num = m1) || !decide (sum = checkN f.sum num (rd4 bs f).1)) := by unfold badF; rw [hnm, hsm, hm1]; rfl
    have hbadV := V.mk hbadE
    have hgoodV := V.mk hgood
    clear hnm hsm hmany hbadE hgood hm1 hn2 hn3 l1 l2 l3 b1 b2 b3
    obtain ⟨sh, hsh⟩ : ∃ b, (rd4 bs f).2.2 = b := ⟨_, rfl⟩
    rw [hsh] at hbadV ⊢
    clear hsh
    have z1 := hbf5.cell' 1 rfl
    have z2 := hbf5.cell' 2 rfl
    cases sh with
    | true =>
      have hjl : J (framesL bs) w5 := by rw [hfr.out, framesFrom_bad (by rw [hbadV.out]; rfl), List.append_nil]; exact hj5
      gi_wp2
      refine bodyPost_ret (results_none rfl _ _ _) rfl ?_
      exact ⟨⟨_, rfl⟩, .inl hjl⟩
    | false =>
      by_cases hnn : num = m1
      · subst hnn
        have hck := check_any w5 ht5 f.sum num hsum hnum2 A5 n5 c5 (rd4 bs f).1 hn5 hrow5.rd hb4 hn5'
        have hckV := V.mk hck
        clear hck
        gi_wp2_with fail
        refine (cin hF hckV.out).mono ?_
        rintro e w6 ⟨rfl, k6⟩
        clear hckV z1 z2
        by_cases hss : sum = checkN f.sum num (rd4 bs f).1
        · rw [← hss]
          have k6' := k15.quiet k6
          have hbf6 := Blk.kp hbf5 k6 (fun h => h)
          have hrow6 := hrow5.kp k6 (fun _ _ h => h)
          have hbad : badF bs f = false := by rw [hbadV.out]; simp [hss]
          have hgf := goodF hbad
          rw [hgoodV.out] at hgf
          have hner : r5 ≠ some W.heap.size := hrow6.ne_type hbf6 (by decide)
          have v0 := hbf6.free 0
          have v1 := hbf6.free 1
          have v2 := hbf6.free 2
          have v3 := hbf6.free 3
          have y0 := hbf6.cell' 0 rfl
          have y1 := hbf6.cell' 1 rfl
          have y2 := hbf6.cell' 2 rfl
          have y3 := hbf6.cell' 3 rfl
          have hbf7 := (((hbf6.set 0 (.slice A5 n5 c5)).set 1 (.int .u32 num)).set 2 (.int .u32 sum)).set 3 (.int .i64 ((f.fin : Int) + 10 + (many : Int)))
          have k67 : Kp w6 ((((w6.setCell ⟨W.heap.size, 0, none⟩ (.slice A5 n5 c5)).setCell ⟨W.heap.size, 1, none⟩ (.int .u32 num)).setCell ⟨W.heap.size, 2, none⟩ (.int .u32 sum)).setCell ⟨W.heap.size, 3, none⟩ (.int .i64 ((f.fin : Int) + 10 + (many : Int)))) (fun j => j = W.heap.size) :=
            ((((Kp.refl w6 (fun j => j = W.heap.size)).set _ _ _ (.inl rfl)).set _ _ _ (.inl rfl)).set _ _ _ (.inl rfl)).set _ _ _ (.inl rfl)
          obtain ⟨W7, hW7⟩ : ∃ W7, (((w6.setCell ⟨W.heap.size, 0, none⟩ (.slice A5 n5 c5)).setCell ⟨W.heap.size, 1, none⟩ (.int .u32 num)).setCell ⟨W.heap.size, 2, none⟩ (.int .u32 sum)).setCell ⟨W.heap.size, 3, none⟩ (.int .i64 ((f.fin : Int) + 10 + (many : Int))) = W7 := ⟨_, rfl⟩
          rw [hW7] at hbf7 k67
          have hW7V := V.mk hW7
          clear hW7
          have hj7 := hJ _ _ _ (hJ _ _ _ hj5 (Turn.kp k6)) (k67.mono (fun j e => ⟨by omega, fun cs t fr hc => by
            subst e
            unfold Blk at hbf6
            rw [hbf6] at hc
            simp only [Option.some.injEq, Obj.cells.injEq] at hc
            exact hc.2.1.symm⟩))
          have hrow7 := hrow6.kp k67 (fun k h1 h2 => hner (by rw [h1, h2]))
          have hpx : pre ++ [nextF bs f] <+: framesL bs := ⟨framesFrom bs (nextF bs f), by rw [hfr.out, framesFrom_good hbad]; simp⟩
          have hE : encF W (nextF bs f) W7 #[.agg #[.slice A5 n5 c5, .int .u32 num, .int .u32 sum, .int .i64 ((f.fin : Int) + 10 + (many : Int))]] := ⟨A5, n5, c5, r5, by rw [hgoodV.out]; simp, by rw [hgoodV.out]; exact hn5, by rw [hgoodV.out]; exact hrow7, hnewW⟩
          have hbb7 := Blk.kp (Blk.kp hbb5 k6 (fun h => h)) k67 (fun e => by have := hXlt Bb hXb; omega)
          have hrd7 := (hrd5.kp k6 (fun _ _ _ h => h)).kp k67 (fun ad h1 h2 e => by have := hXlt _ (hXA ad h1 h2); omega)
          have ht7 := (ht5.kp k6 (fun h => h)).kp k67 (fun e => by have := hXlt 0 hX0; omega)
          have hs7 : W.heap.size ≤ W7.heap.size := Nat.le_trans hsz2 (Nat.le_trans k6'.size k67.size)
          have hlV := V.mk hgf
          have hbadV2 := V.mk hbad
          have m0 : V (wr.cell? ⟨W.heap.size, 3, none⟩ = some (.int .i64 (f.fin : Int))) := ⟨hbf.cell' 3 rfl⟩
          clear hbf6 hss hbad hgf hrow6 hrow5 hrow7 hbf5 hbb5 hrd5 ht5 hbb hrd htab hj hj5 hbf k15 k6 k6' hnew5 r6 hwp hn5'
          obtain ⟨fn, tmps, assign, body, hyl, hR⟩ := hYV.out (N - 1) _ _ _ _ hj7 hpx hE
          have hRV := V.mk hR
          rw [← hW7V.out] at hyl
          clear hR
          gi_wp2
          rw [hW7V.out]
          clear hW7V v0 v1 v2 v3 y0 y1 y2 y3 hyl
          refine hRV.out.mono ?_
          rintro e W8 (⟨rfl, hJ8, hk8, _⟩ | ⟨rfl, hJx8, _⟩)
          · have hbf8 := hk8.blk hbf7 (hT2 _ rfl)
            have hbb8 := hk8.blkX hbb7 hXb
            have hrd8 := hrd7.kp hk8 (fun ad h1 h2 q => q.1 (hXA ad h1 h2))
            have ht8 := ht7.kp hk8 (fun q => q.1 hX0)
            have m8 : V (W8.cell? ⟨W.heap.size, 3, none⟩ = some (.int .i64 ((f.fin : Int) + 10 + (many : Int)))) := ⟨hbf8.cell' 3 rfl⟩
            have hs8 := Nat.le_trans hs7 hk8.size
            gi_wp2
            go_roundw
            case rel =>
              refine ⟨pre ++ [nextF bs f], nextF bs f, A5, n5, c5, ⟨?_⟩, ?_, ?_, ?_, ?_, hJ8, hbb8, hrd8, ht8, hs8⟩
              · rw [hfr.out, framesFrom_good hbadV2.out]; simp
              · rw [hgoodV.out]; have := hlV.out.1; simp only at this ⊢; rw [hblV.out] at this; exact this
              · rw [hgoodV.out]; exact hnum2
              · rw [hgoodV.out]; exact hsum2
              · rw [hgoodV.out]; simpa using hbf8
            case measure =>
              rw [m0.out, m8.out]
              have := hlV.out.1
              rw [hblV.out] at this
              simp only [Option.getD_some, intOf] at this ⊢
              omega
          · gi_wp2
            refine bodyPost_ret (results_none rfl _ _ _) rfl ?_
            exact ⟨⟨_, rfl⟩, .inr ⟨_, hpx, hJx8⟩⟩
        · have hne : ((sum : Int) != (checkN f.sum num (rd4 bs f).1 : Nat)) = true := by simp only [bne_iff_ne, ne_eq]; omega
          have hjl : J (framesL bs) w6 := by
            rw [hfr.out, framesFrom_bad (by rw [hbadV.out]; simp [hss]), List.append_nil]
            exact hJ _ _ _ hj5 (Turn.kp k6)
          obtain ⟨cv, hcv⟩ : ∃ v, checkN f.sum num (rd4 bs f).1 = v := ⟨_, rfl⟩
          rw [hcv] at hne ⊢
          clear hcv hss
          gi_wp2
          refine bodyPost_ret (results_none rfl _ _ _) rfl ?_
          exact ⟨⟨_, rfl⟩, .inl hjl⟩
      · have hne : ((num : Int) != (m1 : Int)) = true := by simp only [bne_iff_ne, ne_eq]; omega
        have hjl : J (framesL bs) w5 := by rw [hfr.out, framesFrom_bad (by rw [hbadV.out]; simp [hnn]), List.append_nil]; exact hj5
        clear hnn
        gi_wp2
        refine bodyPost_ret (results_none rfl _ _ _) rfl ?_
        exact ⟨⟨_, rfl⟩, .inl hjl⟩

end Go.Proofs.YtkameiopahcacaaDoor
