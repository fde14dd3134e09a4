/- log.All's iterator: it goes through the frames that stand below the log's end. Condition: the log and its disk stand; the table stands. -/
import Derived.Test.YtkameiopahcacaaDoorRec15
import Derived.Test.YtkameiopahcacaaDoorSeqM
set_option linter.unusedVariables false
set_option linter.unusedSimpArgs false
set_option maxRecDepth 100000
namespace Go.Proofs.YtkameiopahcacaaDoor
open Go.RowKit Go.Shelf
attribute [local go_sem] Oper.semAt_some

theorem in_wide {F : Fence} {n : Nat} {P : Program} {c : Code} {Q : Exit → Act → World → Prop} {a : Act} {w : World} (hF : IsWide F) (h : c.wp P Q a w) : c.wpIn F n P Q a w := by
  unfold IsWide at hF; subst hF
  exact wpIn_wide.2 h
theorem Kp.of_call {w W : World} (h : Below w.heap.size w W) : Kp w W (fun _ => False) := Kp.of_below h (fun k h1 h2 => by omega)
theorem read_pre (d : Dsk) (m : Nat) : d.read 0 (m : Int) = d.b.take m := by
  have h : ¬ ((0 : Int) < 0 ∨ (m : Int) < 0 ∨ (d.b.length : Int) < 0) := by omega
  unfold Dsk.read
  rw [if_neg h]
  simp

/-- What a round is handed. -/
def encA (W : World) (x : Fm) (W1 : World) (args : Array Value) : Prop :=
  ∃ A n c r, args = #[.int .u32 x.num, .slice A n c] ∧ x.pay.length = n ∧ Row W1 5 1 A n c (B8 x.pay) r ∧ New W r
def X0 (k : Nat) : Prop := k = 0

set_option maxHeartbeats 4000000 in
theorem lall1_in (F : Fence) (hF : IsWide F) (w : World) (ht : Tab w) (Bc G dg : Nat) (r : Option Nat) (at_ sum next : Nat) (d : Dsk) (hb : Blk w Bc #[.pointer (some ⟨G, 0, none⟩)] 22) (hl : IsLog w G dg at_ sum next)
    (hd : IsDisk w dg r d) (hok : d.ok) (hby : IsB d.b) (hat : at_ ≤ 1048576) :
    SeqM F Tryd.prog 48 #[.pointer (some ⟨Bc, 0, none⟩)] encA TF X0 TF (framesL (d.b.take at_)) w := by
  intro n l J Jx W hW hJ hJx hY h0
  have hro := wide_ro hF
  have hde := wide_de hF
  have hfn := wide_fn hF
  have kW := Kp.of_call hW
  have htW := ht.kp kW (fun h => h)
  have hbW := Blk.kp hb kW (fun h => h)
  have hlW : IsLog W G dg at_ sum next := Blk.kp hl kW (fun h => h)
  have hdW := hd.kp kW (fun h => h) (fun _ _ h => h)
  have hYV := V.mk hY
  have h0V := V.mk h0
  clear hY hb hl hd ht h0
  refine callsIn_of_wp_marks Tryd.func48 rfl (hfn _) ?_ hro
  simp only [Tryd.ntmps48, List.size_toArray, List.length_cons, List.length_nil, Nat.reduceAdd, Nat.reduceSub, Array.replicate_succ, Array.replicate_zero, List.push_toArray, List.append_toArray, List.nil_append, List.cons_append]
  have k1 := (Kp.refl W (fun _ => False)).alloc (.cells #[.func (.yield l) #[] #[]] 90)
  have hyB := Blk.new W #[.func (.yield l) #[] #[]] 90
  have q0 := hbW.cell' 0 rfl
  have q1 := (Blk.kp hbW k1 (fun h => h)).cell' 0 rfl
  gi_wp2_with fail
  obtain ⟨W0, hW0⟩ : ∃ W0, W.alloc (.cells #[.func (.yield l) #[] #[]] 90) = W0 := ⟨_, rfl⟩
  rw [hW0] at k1 hyB q1 ⊢
  clear hW0
  have hl0 : IsLog W0 G dg at_ sum next := Blk.kp hlW k1 (fun h => h)
  have hb0 := Blk.kp hbW k1 (fun h => h)
  have hd0 := hdW.kp k1 (fun h => h) (fun _ _ h => h)
  have ht0 := htW.kp k1 (fun h => h)
  clear hlW hbW hdW htW q0 q1
  refine (cin hF (lnone_is W0 G dg at_ sum next hl0)).mono ?_
  rintro e w1 ⟨rfl, hw1⟩
  subst hw1
  have p0 := hb0.cell' 0 rfl
  have p1 := Blk.cell' hl0 0 rfl
  have p2 := Blk.cell' hl0 1 rfl
  gi_wp2_with fail
  refine in_wide hF ?_
  go_region_held3 (fun W => W.cell? ⟨Bc, 0, none⟩ = some (.pointer (some ⟨G, 0, none⟩)) ∧ W.cell? ⟨G, 0, none⟩ = some (.pointer (some ⟨dg, 0, none⟩)) ∧ W.cell? ⟨G, 1, none⟩ = some (.int .i64 at_))
    (first | exact hHeld | exact ⟨p0, p1, p2⟩ | exact ⟨hk2.cell p0 (fun h => h), hk2.cell p1 (fun h => h), hk2.cell p2 (fun h => h)⟩ | exact ⟨hk3.cell (hk2.cell p0 (fun h => h)) (fun h => h), hk3.cell (hk2.cell p1 (fun h => h)) (fun h => h), hk3.cell (hk2.cell p2 (fun h => h)) (fun h => h)⟩)
    ((first | (go_at_call 36; refine (frames_any w2 A nb cb).mono ?_; rintro e w3 ⟨rfl, hw3⟩; have hbs : Blk w3 w2.heap.size #[.slice A nb cb] 38 := by { rw [hw3]; exact Blk.new _ _ _ }; have hk3 : Kp w2 w3 (fun _ => False) := by { rw [hw3]; exact (Kp.refl _ _).alloc _ }; have hs3 : w3.heap.size = w2.heap.size + 1 := by { rw [hw3]; simp }; clear hw3)
            | (go_at_call 13; have hrdV := read_any W0.drew dg r d (IsDisk.drew hd0) hok 0 (at_ : Int) (by omega); rw [read_pre] at hrdV; refine hrdV.mono ?_; rintro e w2 ⟨A, nb, cb, rr, rfl, hrow, hnew, hk2⟩; clear hrdV)
            | fail "no arm"))
  have kw2 : Kp W w2 (fun _ => False) := k1.quiet (Kp.of_drew hk2)
  have kw3 := kw2.quiet hk3
  have hsW := k1.size
  have hs2 : W0.heap.size ≤ w2.heap.size := (Kp.of_drew hk2).size
  have hyb3 := Blk.kp hyB ((Kp.of_drew hk2).quiet hk3) (fun h => h)
  have hrow3 := hrow.kp hk3 (fun _ _ h => h)
  have ht3 := ht0.kp ((Kp.of_drew hk2).quiet hk3) (fun h => h)
  have hnb : (d.b.take at_).length = nb := by have := hrow.len; simpa [B8] using this
  have hrlt : ∀ k, rr = some k → k < w2.heap.size := fun k hk => hrow.lt hk
  have hrge : ∀ k, rr = some k → W0.heap.size ≤ k := fun k hk => hnew k hk
  have hylt := hyB.lt
  have hnl : nb ≤ 1048576 := by rw [← hnb, List.length_take]; omega
  have hseq := V.mk (frames1_in F hF w3 ht3 A nb cb (d.b.take at_) hnb hrow3.rd (fun c hc => hby c (List.mem_of_mem_take hc)) hnl w2.heap.size hbs (fun k => k = 0 ∨ k = w2.heap.size ∨ rr = some k) (.inl rfl)
      (fun ad ha hne => .inr (.inr (by obtain ⟨g2, rfl, h2⟩ := hrow3.addr_some ha; exact h2))) (.inr (.inl rfl))
      (by rintro k (rfl | rfl | h); exact ht3.lt; omega; have := hrlt k h; omega) TF (fun _ h => h))
  obtain ⟨N, hN⟩ : ∃ N, w3.heap.size = N := ⟨_, rfl⟩
  have hJ3 : J N [] w3 := hJ N _ _ _ (h0V.out N (by omega)) (Turn.kp kw3)
  have hJ3V := V.mk hJ3
  have ht3p := ht3.lt
  have kw3V := V.mk kw3
  clear hnb hnew hrow hrow3 hJ3 p0 p1 p2 hk2 hk3 kw2 kw3 ht3 ht0 hl0 hb0 hd0 hbs hyB k1
  gi_wp2_with fail
  refine range_lawC hF (gf := 56) (lb := #[.pointer (some ⟨w2.heap.size, 0, none⟩)]) rfl (fun _ _ => rfl) (δ := Option Addr × Nat × Nat)
    (fun x y => #[.agg #[.slice y.1 y.2.1 y.2.2, .int .u32 x.num, .int .u32 x.sum, .int .i64 x.fin]]) (fun x y => #[.slice y.1 y.2.1 y.2.2, .int .u32 x.num, .int .u32 x.sum, .int .i64 x.fin]) 75 hseq.out
    (fun x y V => x.pay.length = y.2.1 ∧ ∃ r', Row V 5 1 y.1 y.2.1 y.2.2 (B8 x.pay) r' ∧ New W r')
    (by rintro x y _ Y Z ⟨q1, r', q2, q3⟩ ht; exact ⟨q1, r', ht.row q2 (fun h => h), q3⟩) (by rintro k (rfl | rfl | h); exact ht3p; omega; have := hrlt k h; omega) (fun _ h => h) (Below.refl _ _)
    (fun V x W1 args hV he => by obtain ⟨A, n, c, r, rfl, q1, q2, q3⟩ := he; exact ⟨(A, n, c), rfl, q1, r, q2, q3.mono (by have := hV.size; omega)⟩) (fun V x W args he => by obtain ⟨A, n, c, r, rfl, _⟩ := he; rfl)
    (fun pre V => J N pre V ∧ Blk V W.heap.size #[.func (.yield l) #[] #[]] 90 ∧ N ≤ V.heap.size) (fun c pre V => c = .ret ∧ Jx N pre V) ?_ ?_ (fun pre V h => by have := h.2.2; omega) ⟨hJ3V.out, hyb3, by omega⟩ ?_ ?done ?stop
  · rintro s Y Z ⟨q1, q2, q3⟩ ht
    exact ⟨hJ N _ Y Z q1 (ht.mono (by omega) (fun _ h => h)), ht.blk q2 (fun h => by unfold TF at h; simp at h), Nat.le_trans q3 ht.size⟩
  · rintro c s Y Z ⟨q0, q1⟩ ht
    exact ⟨q0, hJx N _ Y Z q1 (ht.mono (by omega) (fun _ h => h))⟩
  · apply Exists.intro
    constructor
    · intro l x y V K hK
      gi_wp2
      generalize V.heap.size = B at hK ⊢
      exact hK
    · rintro l' pre x y B V hl' ⟨rl, hrl⟩ ⟨hj, hy, hNV⟩ hpx hB hbx ⟨hlen, r', hrow, hnew⟩
      have ky := hy.cell' 0 rfl
      have kx0 := hbx.cell' 0 rfl
      have kx1 := hbx.cell' 1 rfl
      obtain ⟨fn, tmps, assign, body, hyl, hR⟩ := hYV.out N (n - 1 - 1 - 1) pre x #[.int .u32 x.num, .slice y.1 y.2.1 y.2.2] V (by omega) hNV hj hpx ⟨y.1, y.2.1, y.2.2, r', rfl, hlen, hrow, hnew⟩
      gi_wp2
      refine RoundIn.mono (F := F.inRound l') hR ?_
      rintro e V2 (⟨rfl, hj2, hk2, km2⟩ | ⟨rfl, hjx2, km2⟩)
      · have hy2 := hk2.blkX hy (.inr ⟨Nat.le_refl _, by omega⟩)
        have hq : Kq (fun k => k = 0 ∨ k = w2.heap.size ∨ rr = some k) TF V V2 := hk2.mono (by
          rintro k (h | h | h)
          · exact .inl h
          · exact .inr (by omega)
          · have h1 := hrlt k h; have h2 := hrge k h; exact .inr (by omega)) (fun _ h => h)
        have hs2 : N ≤ V2.heap.size := by have := km2.1; omega
        gi_wp2
        exact ⟨km2.mono (by omega), hq, hj2, hy2, hs2⟩
      · gi_wp2
        exact ⟨km2.mono (by omega), rfl, hjx2⟩
  case done =>
    rintro D V hD ⟨hj, _⟩ hK
    gi_wp2
    refine ⟨by simp, .inl ⟨_, _, rfl, run_takeDeferred hK, ?_⟩⟩
    have hj' := hJ N _ _ _ hj (Turn.put (.deferred none) (by omega) hK (fun cs t fr h => by simp at h))
    exact ⟨_, results_none rfl _ _ _, ⟨_, rfl⟩, N, by omega, .inl hj'⟩
  case stop =>
    rintro D c pre V hD hp ⟨rfl, hjx⟩ hK
    gi_wp2
    refine ⟨by simp, .inl ⟨_, _, rfl, run_takeDeferred hK, ?_⟩⟩
    have hj' := hJx N _ _ _ hjx (Turn.put (.deferred none) (by omega) hK (fun cs t fr h => by simp at h))
    exact ⟨_, results_none rfl _ _ _, ⟨_, rfl⟩, N, by omega, .inr ⟨_, hp, hj'⟩⟩

end Go.Proofs.YtkameiopahcacaaDoor
