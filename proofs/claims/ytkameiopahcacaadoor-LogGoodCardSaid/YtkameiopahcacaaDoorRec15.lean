/- log.Recover. Condition: the disk is one; the table stands. -/
import Derived.Test.YtkameiopahcacaaDoorRec15M
import Derived.Test.YtkameiopahcacaaDoorSeqC
import Derived.Test.YtkameiopahcacaaDoorLogA15
import Derived.Test.YtkameiopahcacaaDoorDskCopy
import Derived.Test.YtkameiopahcacaaDoorDskNil
import Derived.Test.YtkameiopahcacaaDoorDskMore
import Derived.Deep.RegionHeld3
set_option linter.unusedVariables false
set_option linter.unusedSimpArgs false
set_option maxRecDepth 100000
namespace Go.Proofs.YtkameiopahcacaaDoor
open Go.RowKit Go.Shelf
attribute [local go_sem] Oper.semAt_some

theorem cell_far {w : World} {p q : Addr} {u v : Value} (h : w.cell? q = some v) (hne : q.block ≠ p.block) : (w.setCell p u).cell? q = some v :=
  (Kp.setCell (S := fun k => k = p.block) (Kp.refl w _) (.inl rfl) u).cell h hne
theorem IsDisk.drew {w : World} {g : Nat} {r : Option Nat} {d : Dsk} (h : IsDisk w g r d) : IsDisk w.drew g r d := h
theorem B8_zeros (n : Nat) : B8 (List.replicate n 0) = List.replicate n (Value.int .u8 0) := by simp [B8]
theorem read_all (d : Dsk) (hl : d.b.length ≤ 1048576) : d.read 0 1048576 = d.b := by
  have h : ¬ ((0 : Int) < 0 ∨ (1048576 : Int) < 0 ∨ (d.b.length : Int) < 0) := by omega
  unfold Dsk.read
  rw [if_neg h]
  exact List.take_of_length_le (by simp; omega)
def RecP (w : World) (dg : Nat) (r : Option Nat) (d : Dsk) (e : Ending) (w' : World) : Prop :=
  let f := recE d.b
  ∃ r', IsDisk w' dg r' d.recov.2 ∧ Fr w r r' ∧ Kp w w' (fun k => k = dg ∨ r = some k) ∧
    ((d.recov.1 ≠ 0 ∧ e = .returned (.tuple #[.pointer none, .int .i64 d.recov.1])) ∨
     (d.recov.1 = 0 ∧ ∃ g, w.heap.size ≤ g ∧ e = .returned (.tuple #[.pointer (some ⟨g, 0, none⟩), .int .i64 0]) ∧ IsLog w' g dg f.fin f.sum ((f.num + 1) % 4294967296)))

/-- The log as far as it is found. -/
def RecI (w : World) (dg G Bl N : Nat) (pre : List Fm) (W : World) : Prop :=
  IsLog W G dg (lastF pre).fin (lastF pre).sum (((lastF pre).num + 1) % 4294967296) ∧ Blk W Bl #[.pointer (some ⟨G, 0, none⟩)] 22 ∧ Kp w W (fun _ => False) ∧ N ≤ W.heap.size
theorem RecI.still {w : World} {dg G Bl N B : Nat} (hB : w.heap.size ≤ B) : Still B TF (RecI w dg G Bl N) := by
  rintro pre Y Z ⟨h1, h2, h3, h4⟩ ht
  exact ⟨ht.blk h1 (fun h => by unfold TF at h; simp at h), ht.blk h2 (fun h => by unfold TF at h; simp at h), h3.turn ht hB, Nat.le_trans h4 ht.size⟩

set_option maxHeartbeats 4000000 in
theorem recover_any (w : World) (ht : Tab w) (dg : Nat) (r : Option Nat) (d : Dsk) (hd : IsDisk w dg r d) (hok : d.ok) (hby : IsB d.b) :
    Calls Tryd.prog 8 #[.pointer (some ⟨dg, 0, none⟩)] w (RecP w dg r d) := by
  have hcp := V.mk (copy_any w dg r d hd hok)
  have hl : d.b.length ≤ 1048576 := by have := hok.len; have := hok.c1; omega
  refine calls_of_wp_marks Tryd.func8 rfl ?_
  simp only [Tryd.ntmps8, List.size_toArray, List.length_cons, List.length_nil, Nat.reduceAdd, Nat.reduceSub, Array.replicate_succ, Array.replicate_zero, List.push_toArray, List.append_toArray, List.nil_append, List.cons_append]
  go_wp2_with fail
  refine hcp.out.mono ?_
  rintro e w1 ⟨gc, rc, rfl, -, -, -, k1⟩
  have hd1 := hd.kp k1 (fun h => h) (fun _ _ h => h)
  go_wp2_with fail
  refine (stopped_any w1 dg r d hd1).mono ?_
  rintro e w2 ⟨rfl, hw2⟩
  subst hw2
  obtain ⟨st, hst⟩ : ∃ b, d.st = b := ⟨_, rfl⟩
  rw [hst]
  have hstV := V.mk hst
  clear hst hcp
  cases st with
  | true =>
    go_wp2
    refine marks_ret0 (v := .tuple #[.pointer none, .int .i64 10]) (by simp [results, Tryd.results8, go_sem]) ?_
    have e1 : d.recov = (10, d) := by unfold Dsk.recov; rw [if_pos hstV.out]
    unfold RecP
    dsimp only
    rw [e1]
    exact ⟨r, hd1, Fr.refl _ _, k1.mono (fun _ h => h.elim), .inl ⟨(by decide : (10 : Int) ≠ 0), rfl⟩⟩
  | false =>
    have l0 : IsLog ((w1.alloc (.cells #[.pointer (some ⟨dg, 0, none⟩), .int .i64 0, .int .u32 0, .int .u32 1] 26)).alloc (.cells #[.pointer (some ⟨w1.heap.size, 0, none⟩)] 22)) w1.heap.size dg 0 0 1 :=
      (Blk.new w1 #[.pointer (some ⟨dg, 0, none⟩), .int .i64 0, .int .u32 0, .int .u32 1] 26).alloc _
    have bl0 := Blk.new (w1.alloc (.cells #[.pointer (some ⟨dg, 0, none⟩), .int .i64 0, .int .u32 0, .int .u32 1] 26)) #[.pointer (some ⟨w1.heap.size, 0, none⟩)] 22
    rw [World.size_alloc] at bl0
    have k10 : Kp w1 ((w1.alloc (.cells #[.pointer (some ⟨dg, 0, none⟩), .int .i64 0, .int .u32 0, .int .u32 1] 26)).alloc (.cells #[.pointer (some ⟨w1.heap.size, 0, none⟩)] 22)) (fun _ => False) :=
      ((Kp.refl _ _).alloc _).alloc _
    obtain ⟨G, hG⟩ : ∃ G, w1.heap.size = G := ⟨_, rfl⟩
    go_wp2_with fail
    rw [hG] at l0 bl0 k10
    obtain ⟨W0, hW0⟩ : ∃ W0, (w1.alloc (.cells #[.pointer (some ⟨dg, 0, none⟩), .int .i64 0, .int .u32 0, .int .u32 1] 26)).alloc (.cells #[.pointer (some ⟨G, 0, none⟩)] 22) = W0 := ⟨_, rfl⟩
    rw [hW0] at l0 bl0 k10 ⊢
    clear hW0
    have hdA := hd1.kp k10 (fun h => h) (fun _ _ h => h)
    have hrdV := read_any W0 dg r d hdA hok 0 1048576 (by omega)
    rw [read_all d hl] at hrdV
    refine hrdV.mono ?_
    rintro e W1 ⟨A, nb, cb, rr, rfl, hrow, hnew, k11⟩
    have hwG : w.heap.size ≤ G := by have := k1.size; omega
    have kW1 : Kp w W1 (fun _ => False) := (k1.quiet k10).quiet k11
    have hnb : d.b.length = nb := by have := hrow.len; simpa [B8] using this
    go_wp2_with fail
    refine (frames_any W1 A nb cb).mono ?_
    rintro e W2 ⟨rfl, hW2⟩
    have hbs : Blk W2 W1.heap.size #[.slice A nb cb] 38 := by rw [hW2]; exact Blk.new _ _ _
    have k12 : Kp W1 W2 (fun _ => False) := by rw [hW2]; exact (Kp.refl _ _).alloc _
    have hs2 : W2.heap.size = W1.heap.size + 1 := by rw [hW2]; simp
    clear hW2 hrdV
    have kW2 := kW1.quiet k12
    have hrow2 := hrow.kp k12 (fun _ _ h => h)
    have ht2 := ht.kp kW2 (fun h => h)
    have l2 : IsLog W2 G dg 0 0 1 := Blk.kp l0 (k11.quiet k12) (fun h => h)
    have bl2 := Blk.kp bl0 (k11.quiet k12) (fun h => h)
    have i0 : RecI w dg G (G + 1) W2.heap.size [] W2 := ⟨by rw [lastF_nil]; exact l2, bl2, kW2, Nat.le_refl _⟩
    have hsz : w.heap.size ≤ W2.heap.size := kW2.size
    have hGlt := bl2.lt
    have hGlt1 : G + 1 < W1.heap.size := Nat.lt_of_lt_of_le bl0.lt k11.size
    have hrlt : ∀ k, rr = some k → k < W1.heap.size := fun k hk => hrow.lt hk
    have hrG : rr ≠ some G := hrow2.ne_type l2 (by decide)
    have hi0V := V.mk i0
    have hnbV := V.mk hnb
    have hseq := V.mk (fun F (hF : IsWide F) => frames1_in F hF W2 ht2 A nb cb d.b hnb hrow2.rd hby (by omega) W1.heap.size hbs (fun k => k = 0 ∨ k = W1.heap.size ∨ rr = some k) (.inl rfl)
      (fun ad ha hne => .inr (.inr (by obtain ⟨g2, rfl, h2⟩ := hrow2.addr_some ha; exact h2))) (.inr (.inl rfl))
      (by rintro k (rfl | rfl | h); exact ht2.lt; omega; have := hrlt k h; omega) TF (fun _ h => h))
    have kW2V := V.mk kW2
    have hlV := V.mk hl
    clear i0 hnb l2 bl2 hrow2 hrow l0 bl0 k10 k11 k12 kW1 ht2 hbs kW2 hl hd1 hdA
    go_wp2_with fail
    refine range_wpC (gf := 56) (lb := #[.pointer (some ⟨W1.heap.size, 0, none⟩)]) rfl (fun _ _ => rfl) (δ := Option Addr × Nat × Nat)
      (fun x y => #[.agg #[.slice y.1 y.2.1 y.2.2, .int .u32 x.num, .int .u32 x.sum, .int .i64 x.fin]]) (fun x y => #[.slice y.1 y.2.1 y.2.2, .int .u32 x.num, .int .u32 x.sum, .int .i64 x.fin]) 75 hseq.out
      (fun _ _ _ => True) (fun _ _ _ _ _ _ _ => trivial) (by rintro k (rfl | rfl | h); omega; omega; have := hrlt k h; omega) (fun _ h => h) (Below.refl _ _)
      (fun V x W args _ he => by obtain ⟨A, n, c, r, rfl, _⟩ := he; exact ⟨(A, n, c), rfl, trivial⟩) (fun V x W args he => by obtain ⟨A, n, c, r, rfl, _⟩ := he; rfl)
      (RecI w dg G (G + 1) W2.heap.size) (fun _ _ _ => False) (RecI.still hsz) (fun _ => by intro s Y Z h _; exact h) (fun pre W h => h.2.2.2) hi0V.out ?_ ?done ?stop
    · apply Exists.intro
      constructor
      · intro F l x y W K hF hK
        gi_wp2
        generalize W.heap.size = B at hK ⊢
        exact hK
      · rintro F l pre x y B W hF hde hl' hloop ⟨hlog, hbl, hkp, hw2⟩ hpx hB hbx _
        have hx := framesL_mem hby (prefix_mem hpx)
        have s0 := hbl.cell' 0 rfl
        have s1 := hbx.cell' 1 rfl
        have s2 := hbx.cell' 2 rfl
        have s3 := hbx.cell' 3 rfl
        have g1 := Blk.cell' hlog 1 rfl
        have g2 := Blk.cell' hlog 2 rfl
        have g3 := Blk.cell' hlog 3 rfl
        have f1 := Blk.free hlog 1
        have f2 := Blk.free hlog 2
        have f3 := Blk.free hlog 3
        have hBlG : G + 1 ≠ G := by omega
        have hBG : B ≠ G := by omega
        obtain ⟨m1, hm1⟩ : ∃ v : Nat, (x.num + 1) % 4294967296 = v := ⟨_, rfl⟩
        have hwp : IntKind.u32.wrap ((x.num : Int) + 1) = (m1 : Int) := by rw [IntKind.wrap_u32]; omega
        gi_wp2_with fail
        refine wpIn_region_E hF (by rintro ⟨_, _, h⟩; exact h) (by kernel_rfl) (fun W => W.cell? ⟨G + 1, 0, none⟩ = some (.pointer (some ⟨G, 0, none⟩)) ∧ W.cell? ⟨B, 1, none⟩ = some (.int .u32 x.num) ∧ W.cell? ⟨B, 2, none⟩ = some (.int .u32 x.sum) ∧ W.cell? ⟨B, 3, none⟩ = some (.int .i64 x.fin)) [] (by kernel_rfl) ⟨s0, s1, s2, s3⟩ (fun hHeld => ?_)
        refine wpAnyE_take (i := 3) (oi := ⟨some 24, _, _, _, _, _⟩) (v := ?_) rfl (by kernel_rfl) (by kernel_rfl) (by kernel_rfl) (fun _ _ _ h => h) (Or.inl ⟨by rfl, ?_⟩) ?_
        rotate_left
        · intro W' _; go_simp <;> with_reducible rfl
        try simp only [Act.put, List.setIfInBounds_toArray, List.set_cons_zero, List.set_cons_succ]
        refine wpAnyE_load [] (i := 0) (oi := ⟨some 21, _, _, _, _, _⟩) (v := ?_) rfl (by kernel_rfl) (by kernel_rfl) (by kernel_rfl) (by kernel_rfl) (by kernel_rfl) (by kernel_rfl) (fun _ _ _ h => h) (Or.inl ⟨by rfl, ?_⟩) hHeld ?_
        rotate_left
        · intro W' hSw; (try dsimp only at hSw); go_simp <;> with_reducible rfl
        try simp only [Act.put, List.setIfInBounds_toArray, List.set_cons_zero, List.set_cons_succ]
        refine wpAnyE_load [] (i := 4) (oi := ⟨some 25, _, _, _, _, _⟩) (v := ?_) rfl (by kernel_rfl) (by kernel_rfl) (by kernel_rfl) (by kernel_rfl) (by kernel_rfl) (by kernel_rfl) (fun _ _ _ h => h) (Or.inl ⟨by rfl, ?_⟩) hHeld ?_
        rotate_left
        · intro W' hSw; (try dsimp only at hSw); go_simp <;> with_reducible rfl
        try simp only [Act.put, List.setIfInBounds_toArray, List.set_cons_zero, List.set_cons_succ]
        refine wpAnyE_load [] (i := 1) (oi := ⟨some 22, _, _, _, _, _⟩) (v := ?_) rfl (by kernel_rfl) (by kernel_rfl) (by kernel_rfl) (by kernel_rfl) (by kernel_rfl) (by kernel_rfl) (fun _ _ _ h => h) (Or.inl ⟨by rfl, ?_⟩) hHeld ?_
        rotate_left
        · intro W' hSw; (try dsimp only at hSw); go_simp <;> with_reducible rfl
        try simp only [Act.put, List.setIfInBounds_toArray, List.set_cons_zero, List.set_cons_succ]
        refine wpAnyE_load [] (i := 2) (oi := ⟨some 23, _, _, _, _, _⟩) (v := ?_) rfl (by kernel_rfl) (by kernel_rfl) (by kernel_rfl) (by kernel_rfl) (by kernel_rfl) (by kernel_rfl) (fun _ _ _ h => h) (Or.inl ⟨by rfl, ?_⟩) hHeld ?_
        rotate_left
        · intro W' hSw; (try dsimp only at hSw); go_simp <;> with_reducible rfl
        try simp only [Act.put, List.setIfInBounds_toArray, List.set_cons_zero, List.set_cons_succ]
        refine wpAnyE_take (i := 5) (oi := ⟨some 26, _, _, _, _, _⟩) (v := ?_) rfl (by kernel_rfl) (by kernel_rfl) (by kernel_rfl) (fun _ _ _ h => h) (Or.inl ⟨by rfl, ?_⟩) ?_
        rotate_left
        · intro W' _; go_simp <;> with_reducible rfl
        try simp only [Act.put, List.setIfInBounds_toArray, List.set_cons_zero, List.set_cons_succ]
        refine wpAnyE_load [] (i := 6) (oi := ⟨some 27, _, _, _, _, _⟩) (v := ?_) rfl (by kernel_rfl) (by kernel_rfl) (by kernel_rfl) (by kernel_rfl) (by kernel_rfl) (by kernel_rfl) (fun _ _ _ h => h) (Or.inl ⟨by rfl, ?_⟩) hHeld ?_
        rotate_left
        · intro W' hSw; (try dsimp only at hSw); go_simp <;> with_reducible rfl
        try simp only [Act.put, List.setIfInBounds_toArray, List.set_cons_zero, List.set_cons_succ]
        refine wpAnyE_take (i := 7) (oi := ⟨some 28, _, _, _, _, _⟩) (v := ?_) rfl (by kernel_rfl) (by kernel_rfl) (by kernel_rfl) (fun _ _ _ h => h) (Or.inl ⟨by rfl, ?_⟩) ?_
        rotate_left
        · intro W' _; go_simp <;> with_reducible rfl
        try simp only [Act.put, List.setIfInBounds_toArray, List.set_cons_zero, List.set_cons_succ]
        refine wpAnyE_load [] (i := 8) (oi := ⟨some 29, _, _, _, _, _⟩) (v := ?_) rfl (by kernel_rfl) (by kernel_rfl) (by kernel_rfl) (by kernel_rfl) (by kernel_rfl) (by kernel_rfl) (fun _ _ _ h => h) (Or.inl ⟨by rfl, ?_⟩) hHeld ?_
        rotate_left
        · intro W' hSw; (try dsimp only at hSw); go_simp <;> with_reducible rfl
        try simp only [Act.put, List.setIfInBounds_toArray, List.set_cons_zero, List.set_cons_succ]
        refine wpAnyE_take (i := 9) (oi := ⟨some 30, _, _, _, _, _⟩) (v := ?_) rfl (by kernel_rfl) (by kernel_rfl) (by kernel_rfl) (fun _ _ _ h => h) (Or.inl ⟨by rfl, ?_⟩) ?_
        rotate_left
        · intro W' _; go_simp <;> with_reducible rfl
        try simp only [Act.put, List.setIfInBounds_toArray, List.set_cons_zero, List.set_cons_succ]
        refine wpAnyE_take (i := 10) (oi := ⟨some 31, _, _, _, _, _⟩) (v := ?_) rfl (by kernel_rfl) (by kernel_rfl) (by kernel_rfl) (fun _ _ _ h => h) (Or.inl ⟨by rfl, ?_⟩) ?_
        rotate_left
        · intro W' _; go_simp <;> with_reducible rfl
        try simp only [Act.put, List.setIfInBounds_toArray, List.set_cons_zero, List.set_cons_succ]
        refine wpAnyE_take (i := 11) (oi := ⟨some 32, _, _, _, _, _⟩) (v := ?_) rfl (by kernel_rfl) (by kernel_rfl) (by kernel_rfl) (fun _ _ _ h => h) (Or.inl ⟨by rfl, ?_⟩) ?_
        rotate_left
        · intro W' _; go_simp <;> with_reducible rfl
        try simp only [Act.put, List.setIfInBounds_toArray, List.set_cons_zero, List.set_cons_succ]
        refine wpAnyE_step (i := 12) (by kernel_rfl) rfl (fun K hK => ?_)
        go_simp
        refine hK.out _ _ (fun _ hHeld => ?_) ?_
        · (try dsimp only); exact ⟨cell_far hHeld.1 hBlG, cell_far hHeld.2.1 hBG, cell_far hHeld.2.2.1 hBG, cell_far hHeld.2.2.2 hBG⟩
        clear hK K
        try simp only [Act.put, List.setIfInBounds_toArray, List.set_cons_zero, List.set_cons_succ]
        refine wpAnyE_take (i := 13) (oi := ⟨some 33, _, _, _, _, _⟩) (v := ?_) rfl (by kernel_rfl) (by kernel_rfl) (by kernel_rfl) (fun _ _ _ h => h) (Or.inl ⟨by rfl, ?_⟩) ?_
        rotate_left
        · intro W' _; go_simp <;> with_reducible rfl
        try simp only [Act.put, List.setIfInBounds_toArray, List.set_cons_zero, List.set_cons_succ]
        refine wpAnyE_take (i := 14) (oi := ⟨some 34, _, _, _, _, _⟩) (v := ?_) rfl (by kernel_rfl) (by kernel_rfl) (by kernel_rfl) (fun _ _ _ h => h) (Or.inl ⟨by rfl, ?_⟩) ?_
        rotate_left
        · intro W' _; go_simp <;> with_reducible rfl
        try simp only [Act.put, List.setIfInBounds_toArray, List.set_cons_zero, List.set_cons_succ]
        refine wpAnyE_step (i := 15) (by kernel_rfl) rfl (fun K hK => ?_)
        go_simp
        refine hK.out _ _ (fun _ hHeld => ?_) ?_
        · (try dsimp only); exact ⟨cell_far hHeld.1 hBlG, cell_far hHeld.2.1 hBG, cell_far hHeld.2.2.1 hBG, cell_far hHeld.2.2.2 hBG⟩
        clear hK K
        try simp only [Act.put, List.setIfInBounds_toArray, List.set_cons_zero, List.set_cons_succ]
        refine wpAnyE_take (i := 16) (oi := ⟨some 35, _, _, _, _, _⟩) (v := ?_) rfl (by kernel_rfl) (by kernel_rfl) (by kernel_rfl) (fun _ _ _ h => h) (Or.inl ⟨by rfl, ?_⟩) ?_
        rotate_left
        · intro W' _; go_simp <;> with_reducible rfl
        try simp only [Act.put, List.setIfInBounds_toArray, List.set_cons_zero, List.set_cons_succ]
        refine wpAnyE_take (i := 17) (oi := ⟨some 36, _, _, _, _, _⟩) (v := ?_) rfl (by kernel_rfl) (by kernel_rfl) (by kernel_rfl) (fun _ _ _ h => h) (Or.inl ⟨by rfl, ?_⟩) ?_
        rotate_left
        · intro W' _; go_simp <;> with_reducible rfl
        try simp only [Act.put, List.setIfInBounds_toArray, List.set_cons_zero, List.set_cons_succ]
        refine wpAnyE_step (i := 18) (by kernel_rfl) rfl (fun K hK => ?_)
        go_simp
        refine hK.out _ _ (fun _ hHeld => ?_) ?_
        · (try dsimp only); exact ⟨cell_far hHeld.1 hBlG, cell_far hHeld.2.1 hBG, cell_far hHeld.2.2.1 hBG, cell_far hHeld.2.2.2 hBG⟩
        clear hK K
        try simp only [Act.put, List.setIfInBounds_toArray, List.set_cons_zero, List.set_cons_succ]
        refine wpAnyE_done (by kernel_rfl) ?_ _


        have hxL : lastF (pre ++ [x]) = x := lastF_snoc pre x
        have kW : Kp W ((((W.setCell ⟨G, 1, none⟩ (.int .i64 x.fin)).setCell ⟨G, 2, none⟩ (.int .u32 x.sum)).setCell ⟨G, 3, none⟩ (.int .u32 m1)).drew) (fun k => k = G) :=
          ((((Kp.refl W (fun k => k = G)).set _ _ _ (.inl rfl)).set _ _ _ (.inl rfl)).set _ _ _ (.inl rfl)).drew
        have hlog2 : Blk ((((W.setCell ⟨G, 1, none⟩ (.int .i64 x.fin)).setCell ⟨G, 2, none⟩ (.int .u32 x.sum)).setCell ⟨G, 3, none⟩ (.int .u32 m1)).drew) G _ 26 := (((Blk.set hlog 1 (.int .i64 x.fin)).set 2 (.int .u32 x.sum)).set 3 (.int .u32 m1)).drew
        have hfin : RecI w dg G (G + 1) W2.heap.size (pre ++ [x]) ((((W.setCell ⟨G, 1, none⟩ (.int .i64 x.fin)).setCell ⟨G, 2, none⟩ (.int .u32 x.sum)).setCell ⟨G, 3, none⟩ (.int .u32 m1)).drew) := by
          refine ⟨?_, Blk.kp hbl kW (by omega), hkp.trans kW (fun j h => .inr (by omega)), Nat.le_trans hw2 kW.size⟩
          rw [hxL, hm1]
          unfold IsLog
          simpa using hlog2
        have hfV := V.mk hfin
        have hq : Kq (fun k => k = 0 ∨ k = W1.heap.size ∨ rr = some k) TF W ((((W.setCell ⟨G, 1, none⟩ (.int .i64 x.fin)).setCell ⟨G, 2, none⟩ (.int .u32 x.sum)).setCell ⟨G, 3, none⟩ (.int .u32 m1)).drew) := Kq.of_kp' kW (by
          rintro k rfl
          refine ⟨?_, fun cs t fr hc ht => ?_⟩
          · rintro (h | h | h)
            · have := ht.lt; omega
            · omega
            · exact hrG h
          · unfold IsLog Blk at hlog
            rw [hlog] at hc; simp only [Option.some.injEq, Obj.cells.injEq] at hc; rw [← hc.2.1] at ht; unfold TF at ht; simp at ht)
        have hkm : Keepm W2.heap.size W ((((W.setCell ⟨G, 1, none⟩ (.int .i64 x.fin)).setCell ⟨G, 2, none⟩ (.int .u32 x.sum)).setCell ⟨G, 3, none⟩ (.int .u32 m1)).drew) := Keepm.of_kp kW (by rintro k rfl; exact .inl (by omega))
        clear hfin hlog2 hxL kW s0 s1 s2 s3 g1 g2 g3 f1 f2 f3 hHeld
        gi_wp2
        exact ⟨hkm, hq, hfV.out⟩
    case done =>
      rintro D W hD ⟨hlog, hbl, hkp, hw2⟩ hK
      obtain ⟨f, hf⟩ : ∃ f, lastF (framesL d.b) = f := ⟨_, rfl⟩
      have hfl := lastF_ok hby (List.prefix_refl (framesL d.b))
      rw [hf] at hlog hfl
      have hrec : recE d.b = f := hf
      have hrecV := V.mk hrec
      clear hf hrec
      have hdD := hd.kp hkp (fun h => h) (fun _ _ h => h)
      have s0 := hbl.cell' 0 rfl
      have s1 := Blk.cell' hlog 1 rfl
      have hdgD : dg ≠ D := fun e => by have := hd.lt; omega
      have hend : V (∀ (W' : World) (r' : Option Nat) (d' : Dsk) (v : Value), IsDisk W' dg r' d' → Kp W W' (fun k => k = dg ∨ r = some k) → Fr w r r' → d.recov.2 = d' →
          ((d.recov.1 ≠ 0 ∧ v = .tuple #[.pointer none, .int .i64 d.recov.1]) ∨ (d.recov.1 = 0 ∧ v = .tuple #[.pointer (some ⟨G, 0, none⟩), .int .i64 0] ∧ IsLog W' G dg f.fin f.sum ((f.num + 1) % 4294967296))) →
          W'.heap[D]? = some (.deferred (some [])) ∧ RecP w dg r d (.returned v) (W'.putObj D (.deferred none))) := ⟨by
        rintro W' r' d' v hd' hk' hf' rfl hv
        have hKD : W'.heap[D]? = some (.deferred (some [])) := (hk'.blk D (Array.getElem?_eq_some_iff.1 hK).1 (by
          rintro (h | h)
          · exact hdgD h.symm
          · have := hd.rlt h; omega)).trans hK
        refine ⟨hKD, ?_⟩
        have ht : Turn D (fun _ => False) W' (W'.putObj D (.deferred none)) := Turn.put _ (Nat.le_refl _) hKD (fun cs t fr h => by simp at h)
        unfold RecP
        dsimp only
        rw [hrecV.out]
        refine ⟨r', ?_, hf', ((hkp.mono (fun _ h => h.elim)).trans hk' (fun j h => .inl h)).trans ht (fun j h => .inr (by have := h.1; omega)), ?_⟩
        · obtain ⟨A', c', hb', hr'⟩ := hd'
          exact ⟨A', c', ht.blk hb' (fun h => h), ht.row hr' (fun h => h)⟩
        · rcases hv with ⟨h1, h2⟩ | ⟨h1, h2, h3⟩
          · exact .inl ⟨h1, by rw [h2]⟩
          · exact .inr ⟨h1, G, hwG, by rw [h2], ht.blk h3 (fun h => h)⟩⟩
      go_wp2_with fail
      go_region_held3 (fun W => W.cell? ⟨G + 1, 0, none⟩ = some (.pointer (some ⟨G, 0, none⟩)) ∧ W.cell? ⟨G, 1, none⟩ = some (.int .i64 f.fin)) (first | exact hHeld | exact ⟨s0, s1⟩)
        ((first | (go_at_call 37; refine (end_any _ dg r d (IsDisk.drew hdD)).mono ?_; rintro e x ⟨rfl, rfl⟩) | fail "no arm"))
      by_cases hlt : f.fin < d.b.length
      · have d1 : decide (f.fin < d.b.length) = true := by simpa using hlt
        have d2 : decide ((d.b.length : Int) > (f.fin : Int)) = true := by simp; omega
        obtain ⟨nz, hnzv⟩ : ∃ v, d.b.length - f.fin = v := ⟨_, rfl⟩
        have hnz : (d.b.length : Int) - (f.fin : Int) = (nz : Int) := by omega
        have hrv : V (d.recov = d.put (f.fin : Int) (List.replicate nz 0)) := ⟨by unfold Dsk.recov; rw [hrecV.out, if_neg (by rw [hstV.out]; decide), if_pos hlt, hnzv]⟩
        have hnzl : nz ≤ 1048576 := by have := hlV.out; omega
        have hwz : IntKind.i64.wrap (nz : Int) = (nz : Int) := IntWalk.i64_in (nz : Int) (by omega)
        obtain ⟨i0, hi, hz0, hz1, hz2⟩ := info_parts i_byte
        have hlogA : IsLog W.drew G dg f.fin f.sum ((f.num + 1) % 4294967296) := hlog.drew
        have hblA := hbl.drew
        have hdA := IsDisk.drew hdD
        have kA : Kp W W.drew (fun k => k = dg ∨ r = some k) := (Kp.refl W _).drew
        have fA : Fr w r r := Fr.refl _ _
        have hwW : w.heap.size ≤ W.drew.heap.size := hkp.size
        have hSG : ¬ (G = dg ∨ r = some G) := by
          rintro (h | h)
          · have := hd.lt; omega
          · have := hd.rlt h; omega
        have hSG1 : ¬ (G + 1 = dg ∨ r = some (G + 1)) := by
          rintro (h | h)
          · have := hd.lt; omega
          · have := hd.rlt h; omega
        have s0A := hblA.cell' 0 rfl
        have s1A := Blk.cell' hlogA 1 rfl
        go_wp2_with fail
        clear s0 s1
        obtain ⟨Wa, hWa⟩ : ∃ Wa, W.drew = Wa := ⟨_, rfl⟩
        rw [hWa] at hlogA hblA hdA kA hwW s0A s1A ⊢
        clear hWa
        have hnzV := V.mk hnzv
        clear hnzv
        refine wp_region_noPanic ?_
        refine wp_region_E (fun W => W.cell? ⟨G + 1, 0, none⟩ = some (.pointer (some ⟨G, 0, none⟩)) ∧ W.cell? ⟨G, 1, none⟩ = some (.int .i64 f.fin)) [] (by kernel_rfl) ⟨s0A, s1A⟩ (fun hHeld => ?_)
        refine wpAnyE_take (i := 0) (oi := ⟨some 44, _, _, _, _, _⟩) (v := ?_) rfl (by kernel_rfl) (by kernel_rfl) (by kernel_rfl) (fun _ _ _ h => h) (Or.inl ⟨by rfl, ?_⟩) ?_
        rotate_left
        · intro W' _; go_simp <;> with_reducible rfl
        try simp only [Act.put, List.setIfInBounds_toArray, List.set_cons_zero, List.set_cons_succ]
        refine wpAnyE_load [] (i := 1) (oi := ⟨some 45, _, _, _, _, _⟩) (v := ?_) rfl (by kernel_rfl) (by kernel_rfl) (by kernel_rfl) (by kernel_rfl) (by kernel_rfl) (by kernel_rfl) (fun _ _ _ h => h) (Or.inl ⟨by rfl, ?_⟩) hHeld ?_
        rotate_left
        · intro W' hSw; (try dsimp only at hSw); go_simp <;> with_reducible rfl
        try simp only [Act.put, List.setIfInBounds_toArray, List.set_cons_zero, List.set_cons_succ]
        refine wpAnyE_take (i := 2) (oi := ⟨some 46, _, _, _, _, _⟩) (v := ?_) rfl (by kernel_rfl) (by kernel_rfl) (by kernel_rfl) (fun _ _ _ h => h) (Or.inl ⟨by rfl, ?_⟩) ?_
        rotate_left
        · intro W' _; go_simp <;> with_reducible rfl
        try simp only [Act.put, List.setIfInBounds_toArray, List.set_cons_zero, List.set_cons_succ]
        refine wpAnyE_take (i := 3) (oi := ⟨some 47, _, _, _, _, _⟩) (v := ?_) rfl (by kernel_rfl) (by kernel_rfl) (by kernel_rfl) (fun _ _ _ h => h) (Or.inl ⟨by rfl, ?_⟩) ?_
        rotate_left
        · intro W' _; go_simp <;> with_reducible rfl
        try simp only [Act.put, List.setIfInBounds_toArray, List.set_cons_zero, List.set_cons_succ]
        refine wpAnyE_load [] (i := 4) (oi := ⟨some 48, _, _, _, _, _⟩) (v := ?_) rfl (by kernel_rfl) (by kernel_rfl) (by kernel_rfl) (by kernel_rfl) (by kernel_rfl) (by kernel_rfl) (fun _ _ _ h => h) (Or.inl ⟨by rfl, ?_⟩) hHeld ?_
        rotate_left
        · intro W' hSw; (try dsimp only at hSw); go_simp <;> with_reducible rfl
        try simp only [Act.put, List.setIfInBounds_toArray, List.set_cons_zero, List.set_cons_succ]
        refine wpAnyE_take (i := 5) (oi := ⟨some 49, _, _, _, _, _⟩) (v := ?_) rfl (by kernel_rfl) (by kernel_rfl) (by kernel_rfl) (fun _ _ _ h => h) (Or.inl ⟨by rfl, ?_⟩) ?_
        rotate_left
        · intro W' _; go_simp <;> with_reducible rfl
        try simp only [Act.put, List.setIfInBounds_toArray, List.set_cons_zero, List.set_cons_succ]
        refine wpAnyE_load [] (i := 7) (oi := ⟨some 51, _, _, _, _, _⟩) (v := ?_) rfl (by kernel_rfl) (by kernel_rfl) (by kernel_rfl) (by kernel_rfl) (by kernel_rfl) (by kernel_rfl) (fun _ _ _ h => h) (Or.inl ⟨by rfl, ?_⟩) hHeld ?_
        rotate_left
        · intro W' hSw; (try dsimp only at hSw); go_simp <;> with_reducible rfl
        try simp only [Act.put, List.setIfInBounds_toArray, List.set_cons_zero, List.set_cons_succ]
        refine wpAnyE_take (i := 8) (oi := ⟨some 52, _, _, _, _, _⟩) (v := ?_) rfl (by kernel_rfl) (by kernel_rfl) (by kernel_rfl) (fun _ _ _ h => h) (Or.inl ⟨by rfl, ?_⟩) ?_
        rotate_left
        · intro W' _; go_simp <;> with_reducible rfl
        try simp only [Act.put, List.setIfInBounds_toArray, List.set_cons_zero, List.set_cons_succ]
        refine wpAnyE_take (i := 9) (oi := ⟨some 53, _, _, _, _, _⟩) (v := ?_) rfl (by kernel_rfl) (by kernel_rfl) (by kernel_rfl) (fun _ _ _ h => h) (Or.inl ⟨by rfl, ?_⟩) ?_
        rotate_left
        · intro W' _; go_simp <;> with_reducible rfl
        try simp only [Act.put, List.setIfInBounds_toArray, List.set_cons_zero, List.set_cons_succ]
        refine wpAnyE_load [] (i := 10) (oi := ⟨some 54, _, _, _, _, _⟩) (v := ?_) rfl (by kernel_rfl) (by kernel_rfl) (by kernel_rfl) (by kernel_rfl) (by kernel_rfl) (by kernel_rfl) (fun _ _ _ h => h) (Or.inl ⟨by rfl, ?_⟩) hHeld ?_
        rotate_left
        · intro W' hSw; (try dsimp only at hSw); go_simp <;> with_reducible rfl
        try simp only [Act.put, List.setIfInBounds_toArray, List.set_cons_zero, List.set_cons_succ]
        refine wpAnyE_step (i := 6) (by kernel_rfl) rfl (fun K hK => ?_)
        go_simp
        go_at_call 37
        refine (end_any _ dg r d (IsDisk.drew hdA)).mono ?_
        rintro e x ⟨rfl, rfl⟩
        go_simp
        refine hK.out _ _ (fun _ hHeld => ?_) ?_
        · (try dsimp only); first | exact hHeld | exact ⟨s04, s14⟩ | exact ⟨hk3.cell hHeld.1 (fun h => h), hk3.cell hHeld.2 (fun h => h)⟩
        clear hK K
        try simp only [Act.put, List.setIfInBounds_toArray, List.set_cons_zero, List.set_cons_succ]
        refine wpAnyE_take (i := 11) (oi := ⟨some 55, _, _, _, _, _⟩) (v := ?_) rfl (by kernel_rfl) (by kernel_rfl) (by kernel_rfl) (fun _ _ _ h => h) (Or.inl ⟨by rfl, ?_⟩) ?_
        rotate_left
        · intro W' _; go_simp <;> with_reducible rfl
        try simp only [Act.put, List.setIfInBounds_toArray, List.set_cons_zero, List.set_cons_succ]
        refine wpAnyE_step (i := 12) (by kernel_rfl) rfl (fun K hK => ?_)
        rw [if_pos (by rfl)]
        refine oper_mk (.tmp 55) (.tmp 55) 38 rfl 5 i0 (.int .u8 0) u_bytes hi hz0 hz1 rfl .i64 .i64 _ _ nz (by rfl) (by rfl) rfl rfl (by rw [hz2]; omega) (by simp only [maxLen]; omega) ?_
        intro W3 hrow3 hk3
        have hd3 := (IsDisk.drew hdA).kp hk3 (fun h => h) (fun _ _ h => h)
        refine hK.out _ _ (fun _ hHeld => ?_) ?_
        · (try dsimp only); first | exact hHeld | exact ⟨s04, s14⟩ | exact ⟨hk3.cell hHeld.1 (fun h => h), hk3.cell hHeld.2 (fun h => h)⟩
        clear hK K
        try simp only [Act.put, List.setIfInBounds_toArray, List.set_cons_zero, List.set_cons_succ]
        refine wpAnyE_step (i := 13) (by kernel_rfl) rfl (fun K hK => ?_)
        go_simp
        go_at_call 33
        refine (put_any _ dg r d hd3 hok (f.fin : Int) _ nz nz (List.replicate nz 0) (by simp) (by rw [B8_zeros]; exact hrow3.rd) (by
          intro ad ha _
          simp only [Option.some.injEq] at ha
          subst ha
          exact ⟨fun e => absurd e (Nat.ne_of_gt hdA.lt), fun e => absurd (hdA.rlt e) (Nat.lt_irrefl _)⟩)).mono ?_
        rintro e W4 ⟨rfl, r4, hd4, k4, f4⟩
        have k34 := hk3.mono (S' := fun k => k = dg ∨ r = some k) (fun _ h => h.elim)
        have k24 := Kp.of_drew (k34.trans k4 (fun j h => .inl h))
        have hlog4 : IsLog W4 G dg f.fin f.sum ((f.num + 1) % 4294967296) := Blk.kp hlogA k24 hSG
        have hbl4 := Blk.kp hblA k24 hSG1
        have s04 := hbl4.cell' 0 rfl
        have s14 := Blk.cell' hlog4 1 rfl
        go_simp
        refine hK.out _ _ (fun _ hHeld => ?_) ?_
        · (try dsimp only); first | exact hHeld | exact ⟨s04, s14⟩ | exact ⟨hk3.cell hHeld.1 (fun h => h), hk3.cell hHeld.2 (fun h => h)⟩
        clear hK K
        try simp only [Act.put, List.setIfInBounds_toArray, List.set_cons_zero, List.set_cons_succ]
        refine wpAnyE_take (i := 14) (oi := ⟨some 6, _, _, _, _, _⟩) (v := ?_) rfl (by kernel_rfl) (by kernel_rfl) (by kernel_rfl) (fun _ _ _ h => h) (Or.inl ⟨by rfl, ?_⟩) ?_
        rotate_left
        · intro W' _; go_simp <;> with_reducible rfl
        try simp only [Act.put, List.setIfInBounds_toArray, List.set_cons_zero, List.set_cons_succ]
        refine wpAnyE_done (by kernel_rfl) ?_ _
        refine NoPanic.normal ?_
        have k4A : Kp W W4 (fun k => k = dg ∨ r = some k) := kA.trans k24 (fun j h => .inl h)
        have f4A : Fr w r r4 := (Fr.refl w r).trans (by have := hk3.size; exact Nat.le_trans hwW this) f4
        clear hlogA hblA hdA kA s0A s1A hrow3 hk3 hd3 k4 f4 k34 k24 hHeld
        obtain ⟨res, hres⟩ : ∃ v, d.put (f.fin : Int) (List.replicate nz 0) = v := ⟨_, rfl⟩
        rw [hres] at hd4 hrv ⊢
        obtain ⟨q1, q2⟩ := res
        simp only at hd4 ⊢
        clear hres
        by_cases h0 : q1 = 0
        · subst h0
          obtain ⟨hKD, hR⟩ := hend.out W4 r4 q2 (.tuple #[.pointer (some ⟨G, 0, none⟩), .int .i64 0]) hd4 k4A f4A (by rw [hrv.out]) (.inr ⟨by rw [hrv.out], rfl, hlog4⟩)
          go_wp2
          refine marks_ret hKD ⟨.tuple #[.pointer (some ⟨G, 0, none⟩), .int .i64 0], ?_, hR⟩
          simp [results, Tryd.results8, go_sem]
        · have h1 : (q1 != (0 : Int)) = true := by simpa using h0
          obtain ⟨hKD, hR⟩ := hend.out W4 r4 q2 (.tuple #[.pointer none, .int .i64 q1]) hd4 k4A f4A (by rw [hrv.out]) (.inl ⟨by rw [hrv.out]; exact h0, by rw [hrv.out]⟩)
          go_wp2
          refine marks_ret hKD ⟨.tuple #[.pointer none, .int .i64 q1], ?_, hR⟩
          simp [results, Tryd.results8, go_sem]
      · have d1 : decide (f.fin < d.b.length) = false := by simpa using hlt
        have d2 : decide ((d.b.length : Int) > (f.fin : Int)) = false := by simp; omega
        have hrv : V (d.recov = (0, d)) := ⟨by unfold Dsk.recov; rw [hrecV.out, if_neg (by rw [hstV.out]; decide), if_neg hlt]⟩
        go_wp2
        obtain ⟨hKD, hR⟩ := hend.out W.drew r d (.tuple #[.pointer (some ⟨G, 0, none⟩), .int .i64 0]) (IsDisk.drew hdD) ((Kp.refl W _).drew) (Fr.refl _ _) (by rw [hrv.out]) (.inr ⟨by rw [hrv.out], rfl, hlog.drew⟩)
        refine marks_ret hKD ⟨.tuple #[.pointer (some ⟨G, 0, none⟩), .int .i64 0], ?_, hR⟩
        simp [results, Tryd.results8, go_sem]
    case stop =>
      rintro D c pre W hD hpre h hK
      exact h.elim

end Go.Proofs.YtkameiopahcacaaDoor
