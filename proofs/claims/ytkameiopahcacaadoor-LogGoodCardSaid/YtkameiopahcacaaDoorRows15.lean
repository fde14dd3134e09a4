/- longwirelaw15.Rows: a log's payloads, handed back in new memory. Condition: the log and its disk stand (or there is none); the table stands. -/
import Derived.Test.YtkameiopahcacaaDoorAll15
import Derived.Test.YtkameiopahcacaaDoorRows15M
set_option linter.unusedVariables false
set_option linter.unusedSimpArgs false
set_option maxRecDepth 100000
namespace Go.Proofs.YtkameiopahcacaaDoor
open Go.RowKit Go.Shelf
attribute [local go_sem] Oper.semAt_some

theorem safe2_any (w : World) (g : Nat) (lb : Array Value) :
    Calls Tryd.prog 27 #[.func (.func g) #[] lb] w fun e w' => e = .returned (.func (.func g) #[] lb) ∧ w = w' := by
  have he : ∀ w, (binOp .eql 62 (.func (.func g) #[] lb) .nilFunc).run Tryd.prog w = .ok (.bool false) w := fun _ => by kernel_rfl
  go_enter Tryd.func27, Tryd.ntmps27
  go_wp2
  go_ret
  exact ⟨rfl, rfl⟩

/-- A piece of bytes that stands in memory: where, and what it holds. -/
structure Pc where
  A : Option Addr
  n : Nat
  c : Nat
  b : List Int
  r : Option Nat
def Pc.val (p : Pc) : Value := .slice p.A p.n p.c
/-- It stands, in a row of its own that is new since n0. -/
def Pc.Ok (w : World) (n0 : Nat) (p : Pc) : Prop := Row w 5 1 p.A p.n p.c (B8 p.b) p.r ∧ p.b.length = p.n ∧ ∀ k, p.r = some k → n0 ≤ k
theorem Pc.Ok.kp {w w1 : World} {n0 : Nat} {p : Pc} {S : Nat → Prop} (h : p.Ok w n0) (hk : Kp w w1 S) (hS : ∀ k, p.r = some k → ¬ S k) : p.Ok w1 n0 := ⟨h.1.kp hk hS, h.2⟩
theorem Pc.Ok.turn {w w1 : World} {n0 B : Nat} {T : TypeId → Prop} {p : Pc} (h : p.Ok w n0) (ht : Turn B T w w1) (hT : ¬ T 5) : p.Ok w1 n0 := ⟨ht.row h.1 hT, h.2⟩
theorem Row.apart {w : World} {e e' : TypeId} {sz sz' n c n' c' : Nat} {A A' : Option Addr} {xs xs' : List Value} {r r' : Option Nat} (h : Row w e sz A n c xs r) (h' : Row w e' sz' A' n' c' xs' r') (he : e ≠ e') (k : Nat) (hk : r = some k) : r' ≠ some k := by
  intro hk'
  obtain ⟨cur, h1⟩ := h.cellsAt hk
  obtain ⟨cur', h2⟩ := h'.cellsAt hk'
  rw [h1] at h2
  simp only [Option.some.injEq, Obj.cells.injEq] at h2
  exact he h2.2.1

/-- What Rows hands back. -/
def RowsP (w : World) (ps : List (List Int)) (e : Ending) (w' : World) : Prop :=
  ∃ (A : Option Addr) (c : Nat) (r : Option Nat) (qs : List Pc), e = .returned (.slice A ps.length c) ∧ Row w' 38 1 A ps.length c (qs.map Pc.val) r ∧ New w r ∧ Kp w w' (fun _ => False) ∧ qs.map (·.b) = ps ∧ ∀ q ∈ qs, q.Ok w' w.heap.size

def RowsI (w : World) (N : Nat) (pre : List Fm) (W : World) : Prop :=
  ∃ (A : Option Addr) (c : Nat) (r : Option Nat) (qs : List Pc), Blk W (w.heap.size + 1) #[.slice A pre.length c] 34 ∧ Blk W w.heap.size #[.slice none 0 0] 34 ∧
    Row W 38 1 A pre.length c (qs.map Pc.val) r ∧ (∀ k, r = some k → N ≤ k) ∧ Kp w W (fun _ => False) ∧ qs.map (·.b) = pre.map (·.pay) ∧ ∀ q ∈ qs, q.Ok W w.heap.size
theorem RowsI.still {w : World} {N B : Nat} (hB : w.heap.size ≤ B) : Still B TF (RowsI w N) := by
  rintro pre Y Z ⟨A, c, r, qs, h1, h2, h3, h4, h5, h6, h7⟩ ht
  exact ⟨A, c, r, qs, ht.blk h1 (fun h => by unfold TF at h; simp at h), ht.blk h2 (fun h => by unfold TF at h; simp at h), ht.row h3 (fun h => by unfold TF at h; simp at h), h4, h5.turn ht hB, h6, fun q hq => (h7 q hq).turn ht (fun h => by unfold TF at h; simp at h)⟩

theorem u_bss : Tryd.prog.underlying 34 = some (.slice 38) := by kernel_rfl
theorem i_bs : (Tryd.prog.info? 38).map (fun i => (i.zero, i.size, i.bytes)) = some (some (.slice none 0 0), 1, 24) := by kernel_rfl

set_option maxHeartbeats 4000000 in
theorem rows_gen (w : World) (hwlt : 0 < w.heap.size) (g : Option Addr) (L : List Fm) (hnumL : ∀ pre x, pre ++ [x] <+: L → x.num = pre.length + 1 ∧ pre.length + 1 ≤ 1048576)
    (hseqL : ∀ (W1 : World) (Bc : Nat), Kp w W1 (fun _ => False) → Blk W1 Bc #[.pointer g] 22 → ∀ F, IsWide F → SeqM F Tryd.prog 48 #[.pointer (some ⟨Bc, 0, none⟩)] encA TF X0 TF L W1) :
    Calls Tryd.prog 11 #[.pointer g] w (RowsP w (L.map (·.pay))) := by
  obtain ⟨i0, hi, hz0, hz1, hz2⟩ := info_parts i_bs
  have k0 := ((Kp.refl w (fun _ => False)).alloc (.cells #[.slice none 0 0] 34)).alloc (.cells #[.slice none 0 0] 34)
  have hb0 := (Blk.new w #[.slice none 0 0] 34).alloc (.cells #[.slice none 0 0] 34)
  have hb1 := Blk.new (w.alloc (.cells #[.slice none 0 0] 34)) #[.slice none 0 0] 34
  rw [World.size_alloc] at hb1
  refine calls_of_wp_marks Tryd.func11 rfl ?_
  simp only [Tryd.ntmps11, List.size_toArray, List.length_cons, List.length_nil, Nat.reduceAdd, Nat.reduceSub, Array.replicate_succ, Array.replicate_zero, List.push_toArray, List.append_toArray, List.nil_append, List.cons_append]
  go_wp2_with fail
  obtain ⟨W0, hW0⟩ : ∃ W0, (w.alloc (.cells #[.slice none 0 0] 34)).alloc (.cells #[.slice none 0 0] 34) = W0 := ⟨_, rfl⟩
  rw [hW0] at k0 hb0 hb1 ⊢
  clear hW0
  refine (lall_any W0 g).mono ?_
  rintro e W1 ⟨rfl, hW1⟩
  have k1 : Kp W0 W1 (fun _ => False) := by rw [hW1]; exact (Kp.refl _ _).alloc _
  have hbc : Blk W1 W0.heap.size #[.pointer g] 22 := by rw [hW1]; exact Blk.new _ _ _
  clear hW1
  have kw1 := k0.quiet k1
  have hs0 : w.heap.size + 2 ≤ W0.heap.size := by have := hb1.lt; omega
  have hs1 := k1.size
  have hseq := V.mk (hseqL W1 W0.heap.size kw1 hbc)
  have hi0V : V (∀ N, W1.heap.size + 2 ≤ N → RowsI w N [] W1) := ⟨fun N _ => ⟨none, 0, none, [], Blk.kp hb1 k1 (fun h => h), Blk.kp hb0 k1 (fun h => h), Row.nil _ _ _, fun k hk => by simp at hk, kw1, rfl, fun q hq => by simp at hq⟩⟩
  clear k0 hb0 hb1 hbc kw1 k1 hseqL
  go_wp2_with fail
  refine (safe2_any W1 _ _).mono ?_
  rintro e W2 ⟨rfl, hW2⟩
  subst hW2
  go_wp2_with fail
  refine range_wpM (gf := 48) (lb := #[.pointer (some ⟨W0.heap.size, 0, none⟩)]) rfl (fun _ _ => rfl) (δ := Option Addr × Nat × Nat × Option Nat)
    (fun x y => #[.int .u32 x.num, .slice y.1 y.2.1 y.2.2.1]) hseq.out
    (fun x y V => x.pay.length = y.2.1 ∧ Row V 5 1 y.1 y.2.1 y.2.2.1 (B8 x.pay) y.2.2.2 ∧ New W1 y.2.2.2)
    (by rintro x y _ Y Z ⟨q1, q2, q3⟩ ht; exact ⟨q1, ht.row q2 (fun h => h), q3⟩) (by rintro k rfl; omega) (fun _ h => h) (Below.refl _ _)
    (fun V x W1 args hV he => by obtain ⟨A, n, c, r, rfl, q1, q2, q3⟩ := he; exact ⟨(A, n, c, r), rfl, q1, q2, q3.mono hV.size⟩) (fun V x W args he => by obtain ⟨A, n, c, r, rfl, _⟩ := he; rfl)
    (RowsI w) (fun _ _ _ _ => False) (fun N => RowsI.still (by omega)) (fun _ _ => by intro s Y Z h _; exact h) hi0V.out ?_ ?done ?stop
  · apply Exists.intro
    constructor
    · intro F l x y W K hF hK
      gi_wp2
      exact hK
    · rintro F N l pre x y W hF hde hN1 hN2 hl' hloop ⟨A, c, r, qs, hbo, hbz, hrow, hr, hk, hqs, hq⟩ hpx ⟨hlen, hpay, hnew⟩
      have hnum := hnumL _ _ hpx
      have q0 := hbo.cell' 0 rfl
      have hnn : (x.num : Int) = (pre.length : Int) + 1 := by omega
      have hw := IntWalk.i64_in ((pre.length : Int) + 1) (by omega)
      obtain ⟨m, hm⟩ : ∃ m, pre.length = m := ⟨_, rfl⟩
      rw [hm] at hrow hbo q0 hnn hw
      have hmV := V.mk hm
      clear hm
      have hbo' := hbo.alloc (.cells #[.slice y.1 y.2.1 y.2.2.1] 38)
      have hmlt : m + 1 ≤ 1048576 := by omega
      clear hnum
      gi_wp2_with (gi_at_builtin; refine wpListIn_app (by rfl) (.tmp 20) (.tmp 22) 34 rfl 38 i0 (.slice none 0 0) 1 24 u_bss hi hz0 hz1 hz2 rfl (by decide) A m c _ r (by rfl) (hrow.alloc _) _ 1 1 [.slice y.1 y.2.1 y.2.2.1] (by rfl) (Rd.lit _ _ _ 1 _ (by simp [maxLen])) rfl (by simp [Value.oneCell']) (m + 1) rfl (by omega) (by simp only [maxLen]; omega) ?_)
      intro A2 c2 r2 w2 hrow2 hkp2 hfr2 _
      have hka := (Kp.refl W (fun _ => False)).alloc (.cells #[.slice y.1 y.2.1 y.2.2.1] 38)
      have hne1 : r ≠ some (w.heap.size + 1) := hrow.ne_type hbo (by decide)
      have hne0 : r ≠ some w.heap.size := hrow.ne_type hbz (by decide)
      have hbo2 := Blk.kp hbo' hkp2 hne1
      have hbz2 := Blk.kp (hbz.alloc (.cells #[.slice y.1 y.2.1 y.2.2.1] 38)) hkp2 hne0
      have hkW : Kp W (w2.setCell ⟨w.heap.size + 1, 0, none⟩ (.slice A2 (m + 1) c2)) (fun k => r = some k ∨ k = w.heap.size + 1) :=
        ((hka.mono (fun _ h => h.elim)).trans hkp2 (fun j hj => .inl (.inl hj))).set _ _ _ (.inl (.inr rfl))
      have hne2 : r2 ≠ some (w.heap.size + 1) := hrow2.ne_type hbo2 (by decide)
      have hkeep : ∀ (q : Pc), q.Ok W w.heap.size → q.Ok (w2.setCell ⟨w.heap.size + 1, 0, none⟩ (.slice A2 (m + 1) c2)) w.heap.size := fun q hq => hq.kp hkW (fun k hk => by
        rintro (h | h)
        · exact hq.1.apart hrow (by decide) k hk h
        · subst h; exact hq.1.ne_type hbo (by decide) hk)
      have hlp : (pre ++ [x]).length = m + 1 := by rw [List.length_append, hmV.out]; rfl
      have hfin : RowsI w N (pre ++ [x]) (w2.setCell ⟨w.heap.size + 1, 0, none⟩ (.slice A2 (m + 1) c2)) := by
        refine ⟨A2, c2, r2, qs ++ [⟨y.1, y.2.1, y.2.2.1, x.pay, y.2.2.2⟩], ?_, hbz2.far (by simp only; omega) _, ?_, ?_, ?_, by simp [hqs], ?_⟩
        · rw [hlp]; simpa using hbo2.set 0 (.slice A2 (m + 1) c2)
        · rw [hlp, List.map_append]; exact hrow2.far hne2 _
        · intro k hk
          rcases hfr2.of_lt hk with h | h
          · exact hr k h
          · rw [World.size_alloc] at h; omega
        · exact hk.trans hkW (fun j hj => by
            rcases hj with h | h
            · have := hr j h; exact .inr (by omega)
            · exact .inr (by omega))
        · intro q hqq
          rw [List.mem_append] at hqq
          rcases hqq with h | h
          · exact hkeep q (hq q h)
          · simp only [List.mem_singleton] at h
            subst h
            exact hkeep _ ⟨hpay, hlen, fun k hk => by have := hnew k hk; omega⟩
      have hq2 : Kq (Xn X0 (W1.heap.size + 2) N) TF W (w2.setCell ⟨w.heap.size + 1, 0, none⟩ (.slice A2 (m + 1) c2)) := Kq.of_kp' hkW (by
        rintro k (h | rfl)
        · refine ⟨?_, fun cs t fr hc ht => ?_⟩
          · have := hr k h
            rintro (h1 | h1)
            · unfold X0 at h1; omega
            · omega
          · obtain ⟨cur, hcur⟩ := hrow.cellsAt h
            rw [hcur] at hc; simp only [Option.some.injEq, Obj.cells.injEq] at hc; rw [← hc.2.1] at ht; unfold TF at ht; simp at ht
        · refine ⟨?_, fun cs t fr hc ht => ?_⟩
          · rintro (h1 | h1)
            · unfold X0 at h1; omega
            · omega
          · unfold Blk at hbo
            rw [hbo] at hc; simp only [Option.some.injEq, Obj.cells.injEq] at hc; rw [← hc.2.1] at ht; unfold TF at ht; simp at ht)
      have hkm : Keepm W1.heap.size W (w2.setCell ⟨w.heap.size + 1, 0, none⟩ (.slice A2 (m + 1) c2)) := Keepm.of_kp hkW (by
        rintro k (h | rfl)
        · obtain ⟨cur, hcur⟩ := hrow.cellsAt h
          exact .inr ⟨_, _, _, hcur⟩
        · exact .inr ⟨_, _, _, hbo⟩)
      have s0 := hbo2.cell' 0 rfl
      have s1 := hbo2.free 0
      have hfV := V.mk hfin
      clear hfin hkeep hlp hkW hq hqs hpay hrow hrow2 hkp2 hfr2 hbo hbo' hbz hka q0
      gi_wp2
      exact ⟨hkm, hq2, hfV.out⟩
  case done =>
    rintro N D W hN hD ⟨A, c, r, qs, hbo, hbz, hrow, hr, hk, hqs, hq⟩ hK
    have q0 := hbo.cell' 0 rfl
    have q1 := hbz.cell' 0 rfl
    have f1 := hbz.free 0
    obtain ⟨m, hm⟩ : ∃ m, L.length = m := ⟨_, rfl⟩
    rw [hm] at hbo hrow q0
    have hml : (L.map (·.pay)).length = m := by rw [List.length_map, hm]
    have hmlV := V.mk hml
    clear hm hml
    have hkS : Kp W (W.setCell ⟨w.heap.size, 0, none⟩ (.slice A m c)) (fun k => k = w.heap.size) := (Kp.refl W (fun k => k = w.heap.size)).set _ _ _ (.inl rfl)
    have hbz2 : Blk (W.setCell ⟨w.heap.size, 0, none⟩ (.slice A m c)) w.heap.size #[.slice A m c] 34 := by simpa using hbz.set 0 (.slice A m c)
    have hrow2 := hrow.kp hkS (fun k h1 h2 => hrow.ne_type hbz (by decide) (by rw [h1, h2]))
    have hq2 : ∀ q ∈ qs, q.Ok (W.setCell ⟨w.heap.size, 0, none⟩ (.slice A m c)) w.heap.size := fun q hqq => (hq q hqq).kp hkS (fun k h1 h2 => (hq q hqq).1.ne_type hbz (by decide) (by rw [h1, h2]))
    have hk2 : Kp w (W.setCell ⟨w.heap.size, 0, none⟩ (.slice A m c)) (fun _ => False) := hk.trans hkS (fun j h => .inr (by omega))
    have hK2 : (W.setCell ⟨w.heap.size, 0, none⟩ (.slice A m c)).heap[D]? = some (.deferred (some [])) := (hkS.blk D (Array.getElem?_eq_some_iff.1 hK).1 (by omega)).trans hK
    go_wp2_with fail
    obtain ⟨W3, hW3⟩ : ∃ W3, W.setCell ⟨w.heap.size, 0, none⟩ (.slice A m c) = W3 := ⟨_, rfl⟩
    rw [hW3] at hbz2 hrow2 hq2 hk2 hK2 ⊢
    clear hW3 hkS q0 q1 f1
    have ht : Turn D (fun _ => False) W3 (W3.putObj D (.deferred none)) := Turn.put _ (Nat.le_refl _) hK2 (fun cs t fr h => by simp at h)
    have z0 := (ht.blk hbz2 (fun h => h)).cell' 0 rfl
    refine marks_ret hK2 ⟨.slice A m c, ?_, ?_⟩
    · simp [results, Tryd.results11, go_sem, z0]
    · refine ⟨A, c, r, qs, by rw [hmlV.out], by rw [hmlV.out]; exact ht.row hrow2 (fun h => h), fun k hk => by have := hr k hk; omega, hk2.turn ht (by omega), hqs, fun q hqq => (hq2 q hqq).turn ht (fun h => h)⟩
  case stop =>
    rintro N D c pre W hN hD hpre h hK
    exact h.elim

theorem rows_any (w : World) (ht : Tab w) (G dg : Nat) (r : Option Nat) (at_ sum next : Nat) (d : Dsk) (hl : IsLog w G dg at_ sum next) (hd : IsDisk w dg r d) (hok : d.ok) (hby : IsB d.b) (hat : at_ ≤ 1048576) :
    Calls Tryd.prog 11 #[.pointer (some ⟨G, 0, none⟩)] w (RowsP w (paysL (d.b.take at_))) := by
  have hbl : (d.b.take at_).length ≤ 1048576 := by rw [List.length_take]; omega
  have hbb : IsB (d.b.take at_) := fun c hc => hby c (List.mem_of_mem_take hc)
  exact rows_gen w ht.lt _ (framesL (d.b.take at_)) (fun pre x h => by have := framesL_num hbb hbl h; omega)
    (fun W1 Bc hk hb F hF => lall1_in F hF W1 (ht.kp hk (fun h => h)) Bc G dg r at_ sum next d hb (Blk.kp hl hk (fun h => h)) (hd.kp hk (fun h => h) (fun _ _ h => h)) hok hby hat)

set_option maxHeartbeats 1000000 in
theorem lall1_nil_in (F : Fence) (hF : IsWide F) (w : World) (Bc : Nat) (hb : Blk w Bc #[.pointer none] 22) :
    SeqM F Tryd.prog 48 #[.pointer (some ⟨Bc, 0, none⟩)] encA TF X0 TF [] w := by
  intro n l J Jx W hW hJ hJx hY h0
  have hro := wide_ro hF
  have hde := wide_de hF
  have hfn := wide_fn hF
  have kW := Kp.of_call hW
  have hbW := Blk.kp hb kW (fun h => h)
  have k1 := (Kp.refl W (fun _ => False)).alloc (.cells #[.func (.yield l) #[] #[]] 90)
  have q1 := (Blk.kp hbW k1 (fun h => h)).cell' 0 rfl
  have hj := hJ W.heap.size _ _ _ (h0 _ (Nat.le_refl _)) (Turn.kp k1)
  have hjV := V.mk hj
  clear hY hj h0 k1
  refine callsIn_of_wp_marks Tryd.func48 rfl (hfn _) ?_ hro
  simp only [Tryd.ntmps48, List.size_toArray, List.length_cons, List.length_nil, Nat.reduceAdd, Nat.reduceSub, Array.replicate_succ, Array.replicate_zero, List.push_toArray, List.append_toArray, List.nil_append, List.cons_append]
  gi_wp2_with fail
  refine (cin hF (lnone_nil _)).mono ?_
  rintro e w1 ⟨rfl, hw1⟩
  subst hw1
  gi_wp2
  exact ⟨_, results_none rfl _ _ _, ⟨_, rfl⟩, W.heap.size, Nat.le_refl _, .inl hjV.out⟩
theorem rows_nil (w : World) (hwlt : 0 < w.heap.size) :
    Calls Tryd.prog 11 #[.pointer none] w (RowsP w []) :=
  rows_gen w hwlt none [] (fun pre x h => by have := h.length_le; simp at this) (fun W1 Bc hk hb F hF => lall1_nil_in F hF W1 Bc hb)

end Go.Proofs.YtkameiopahcacaaDoor
