/- seq.Span.All, seq.those: what they go through. Condition: for those, the iterator and the test have contracts. -/
import Derived.Test.YtboambncimdfjaaSeqIt
set_option linter.unusedVariables false
set_option linter.unusedSimpArgs false
namespace Go.Proofs.Ytboambncimdfjaa
open Go.RowKit Go.Shelf
attribute [local go_sem] Oper.semAt_some

/-- The numbers from f on, below t. -/
def spanL (f t : Nat) : List Int := (List.range (t - f)).map (fun (i : Nat) => ((f : Int) + (i : Int)))
theorem spanL_length (f t : Nat) : (spanL f t).length = t - f := by simp [spanL]
theorem spanL_take (f t k : Nat) (h : k < t - f) : (spanL f t).take (k + 1) = (spanL f t).take k ++ [((f : Int) + (k : Int))] := by
  rw [List.take_succ_eq_append_getElem (by rw [spanL_length]; exact h)]
  simp [spanL]

def encU (_ : World) (x : Int) (_ : World) (args : Array Value) : Prop := args = #[.int .u32 x]
/-- The types of the closures' boxes: what no round writes. -/
def TB (t : TypeId) : Prop := t = 74 ∨ t = 29 ∨ t = 76
def T0 (_ : TypeId) : Prop := False

set_option maxRecDepth 100000 in
set_option maxHeartbeats 1000000 in
theorem all1_in (F : Fence) (hF : IsWide F) (B f t : Nat) (hf32 : f < 4294967296) (ht : t < 4294967296) (w : World)
    (hb : Blk w B #[.int .u32 f, .int .u32 t] 76) (X : Nat → Prop) (T2 : TypeId → Prop) (hT2 : T2 76) :
    SeqL F Try.prog 57 #[.pointer (some ⟨B, 0, none⟩)] encU T0 X T2 (spanL f t) w := by
  intro n l J Jx W hW hJ hJx hY h0
  have hro := wide_ro hF
  have hde := wide_de hF
  have hbW : Blk W B #[.int .u32 f, .int .u32 t] 76 := (hW.block B hb.lt).trans hb
  have k0 := hbW.cell' 0 rfl
  have k1 := hbW.cell' 1 rfl
  refine callsIn_of_wp Try.func57 rfl (wide_fn hF _) ?_ hro
  simp only [Try.ntmps57, List.size_toArray, List.length_cons, List.length_nil, Nat.reduceAdd, Nat.reduceSub, Array.replicate_succ, Array.replicate_zero, List.push_toArray, List.append_toArray, List.nil_append, List.cons_append]
  gi_wp2
  gi_loopw [3] (fun p wr => ∃ k : Nat, k ≤ t - f ∧ p = .int .u32 ((f : Int) + (k : Int)) ∧ Blk wr B #[.int .u32 f, .int .u32 t] 76 ∧ J ((spanL f t).take k) wr) (fun p wr => t - f - ((intOf p).toNat - f))
  case atStart => exact ⟨0, Nat.zero_le _, by simp, hbW, by simpa using h0⟩
  case round =>
    obtain ⟨k, hk, rfl, hb1, hj⟩ := hrel
    have q1 := hb1.cell' 1 rfl
    by_cases hgo : k < t - f
    · have hpre : (spanL f t).take k ++ [((f : Int) + (k : Int))] <+: spanL f t := by
        rw [← spanL_take f t k hgo]
        exact List.take_prefix _ _
      obtain ⟨fn, tmps, assign, body, hy, hR⟩ := hY (n - 1) _ _ _ wr hj hpre rfl
      try dsimp only at hy
      gi_wp2
      refine hR.mono ?_
      rintro e W' (⟨rfl, hJ', hk', _⟩ | ⟨rfl, hJx', _⟩)
      · have hb2 := hk'.blk hb1 hT2
        gi_wp2
        go_roundw
        case rel => exact ⟨k + 1, by omega, by go_num, hb2, by rw [spanL_take f t k hgo]; exact hJ'⟩
        case measure => simp [intOf]; omega
      · gi_wp2
        refine bodyPost_ret (results_none rfl _ _ _) rfl ?_
        exact ⟨⟨_, rfl⟩, .inr ⟨_, hpre, hJx'⟩⟩
    · have hend : (spanL f t).take k = spanL f t := List.take_of_length_le (by rw [spanL_length]; omega)
      rw [hend] at hj
      gi_wp2
      go_end0
      exact ⟨⟨_, rfl⟩, .inl hj⟩

set_option maxRecDepth 100000 in
set_option maxHeartbeats 1000000 in
theorem those1_in (F : Fence) (hF : IsWide F) (Ba Bs g gs : Nat) (lb lbs : Array Value) (L : List Int) (p : Int → Bool) (w : World) (X : Nat → Prop) (T2 : TypeId → Prop) (hT2 : ∀ t, TB t → T2 t)
    (hX : ∀ k, X k → k < w.heap.size)
    (ha : Blk w Ba #[.func (.func g) #[] lb] 29) (hs : Blk w Bs #[.func (.func gs) #[] lbs] 74)
    (eg : ∀ args w, (callFunc g args).run Try.prog w = .ok (.enter g args) w) (egs : ∀ args w, (callFunc gs args).run Try.prog w = .ok (.enter gs args) w)
    (hall : SeqL F Try.prog g lb encU T0 X T2 L w)
    (J0 : World → Prop) (hJ0 : ∀ W W', J0 W → Kq X T2 W W' → J0 W') (h00 : J0 w)
    (hso : ∀ (x : Int) (W : World), J0 W → x ∈ L → Calls Try.prog gs (#[.int .u32 x] ++ lbs) W fun e W' => e = .returned (.bool (p x)) ∧ Kp W W' (fun _ => False)) :
    SeqL F Try.prog 65 #[.pointer (some ⟨Ba, 0, none⟩), .pointer (some ⟨Bs, 0, none⟩)] encU T0 X T2 (L.filter p) w := by
  intro n l J Jx W hW hJ hJx hY h0
  have hro := wide_ro hF
  have hde := wide_de hF
  have hfn := wide_fn hF
  have haW : Blk W Ba #[.func (.func g) #[] lb] 29 := (hW.block Ba ha.lt).trans ha
  have hsW : Blk W Bs #[.func (.func gs) #[] lbs] 74 := (hW.block Bs hs.lt).trans hs
  have hkW : Kq X T2 w W := ⟨hW.os, hW.tape, hW.output, hW.size, fun k hk _ => hW.block k hk⟩
  have j0W := hJ0 _ _ h00 hkW
  have ka := (haW.alloc (.cells #[.func (.yield l) #[] #[]] 74)).cell' 0 rfl
  have hkB : Kq X T2 W (W.alloc (.cells #[.func (.yield l) #[] #[]] 74)) := Kq.of_kp ((Kp.refl _ _).alloc _)
  refine callsIn_of_wp_marks Try.func65 rfl (hfn _) ?_ hro
  simp only [Try.ntmps65, List.size_toArray, List.length_cons, List.length_nil, Nat.reduceAdd, Nat.reduceSub, Array.replicate_succ, Array.replicate_zero, List.push_toArray, List.append_toArray, List.nil_append, List.cons_append]
  gi_wp2
  have hyB := Blk.new W #[.func (.yield l) #[] #[]] 74
  have hsB := hsW.alloc (.cells #[.func (.yield l) #[] #[]] 74)
  have hJB := hJ _ _ _ h0 (Turn.alloc W.heap.size T0 W (.cells #[.func (.yield l) #[] #[]] 74))
  have j0B := hJ0 _ _ j0W hkB
  have hwB : Below w.heap.size w (W.alloc (.cells #[.func (.yield l) #[] #[]] 74)) := hW.alloc hW.size _
  have hsz : W.heap.size ≤ (W.alloc (.cells #[.func (.yield l) #[] #[]] 74)).heap.size := by simp
  have hwsz := hW.size
  have TBy : T2 74 := hT2 _ (.inl rfl)
  clear ka hkB
  generalize W.alloc (.cells #[.func (.yield l) #[] #[]] 74) = WB at *
  refine range_law hF (gf := g) (lb := lb) rfl eg hall (fun k hk => by have := hX k hk; omega) (fun _ h => h.elim) hwB (fun _ _ _ _ h => by rw [h]; rfl)
    (fun pre V => J (pre.filter p) V ∧ Blk V W.heap.size #[.func (.yield l) #[] #[]] 74 ∧ Blk V Bs #[.func (.func gs) #[] lbs] 74 ∧ J0 V)
    (fun c pre V => c = .ret ∧ Jx (pre.filter p) V) ?_ ?_ ⟨hJB, hyB, hsB, j0B⟩
    (fun x a' V => a' = { tmps := #[.func (.yield l) #[] #[], .pointer (some ⟨Ba, 0, none⟩), .pointer (some ⟨Bs, 0, none⟩), .pointer (some ⟨W.heap.size, 0, none⟩), .int .u32 x, .func (.func g) #[] lb, .int .u32 x, undef, undef, undef, undef, undef, undef, undef, undef, undef], defers := [] }) ?_ ?assign ?body ?done ?stop
  · rintro s Y Z ⟨q1, q2, q3, q4⟩ ht
    exact ⟨hJ _ Y Z q1 (ht.mono (by omega) (fun _ h => h)), ht.blk q2 (fun h => h), ht.blk q3 (fun h => h), hJ0 Y Z q4 (Kq.turn (fun k hk => by have := hX k hk; omega) (fun _ h => h.elim) ht)⟩
  · rintro c s Y Z ⟨q0, q1⟩ ht
    exact ⟨q0, hJx _ Y Z q1 (ht.mono (by omega) (fun _ h => h))⟩
  · intro x a' _ Y Z h _
    exact h
  case assign =>
    rintro l' pre x V' args V K hi hpx _ rfl hK
    gi_wp2
    exact hK _ _ (Keepm.refl _ _) (Kq.refl _ _ _) hi rfl
  case body =>
    rintro l' pre x a' V hl' ⟨r, hr⟩ ⟨hj, hy, hs', hj0⟩ hpx rfl
    have ks := hs'.cell' 0 rfl
    have hxL : x ∈ L := hpx.subset (by simp)
    have hso1 := Go.Proofs.Ytboambncimdfjaa.V.mk (hso x V hj0 hxL)
    gi_wp2
    refine (cinR hF hso1.out).mono ?_
    rintro e V1 ⟨rfl, hk1⟩
    clear hso1
    have hj1 := hJ _ _ _ hj (Turn.kp hk1)
    have hy1 := Blk.kp hy hk1 (fun h => h)
    have hs1 := Blk.kp hs' hk1 (fun h => h)
    have hj01 := hJ0 _ _ hj0 (Kq.of_kp hk1)
    have ky1 := hy1.cell' 0 rfl
    by_cases hp : p x = true
    · have hf : (pre ++ [x]).filter p = pre.filter p ++ [x] := by simp [hp]
      have hpx2 : pre.filter p ++ [x] <+: L.filter p := by
        rw [← hf]
        exact hpx.filter p
      obtain ⟨fn, tmps, assign, body, hyl, hR⟩ := hY (n - 1 - 1 - 1) (pre.filter p) x _ V1 hj1 hpx2 rfl
      have hfV := Go.Proofs.Ytboambncimdfjaa.V.mk hf
      clear hf
      gi_wp2
      refine RoundIn.mono (F := F.inRound l') hR ?_
      rintro e V2 (⟨rfl, hj2, hk2, km2⟩ | ⟨rfl, hjx2, km2⟩)
      · have hy2 := hk2.blk hy1 TBy
        have hs2 := hk2.blk hs1 TBy
        rw [← hfV.out] at hj2
        gi_wp2
        exact ⟨(Keepm.of_kp hk1 (fun _ h => h.elim)).trans (km2.mono (by omega)), (Kq.of_kp hk1).trans hk2, hj2, hy2, hs2, hJ0 _ _ hj01 hk2⟩
      · rw [← hfV.out] at hjx2
        gi_wp2
        exact ⟨(Keepm.of_kp hk1 (fun _ h => h.elim)).trans (km2.mono (by omega)), rfl, hjx2⟩
    · have hp' : p x = false := by simpa using hp
      have hf : (pre ++ [x]).filter p = pre.filter p := by simp [hp']
      rw [← hf] at hj1
      clear hf
      gi_wp2
      exact ⟨Keepm.of_kp hk1 (fun _ h => h.elim), Kq.of_kp hk1, hj1, hy1, hs1, hj01⟩
  case done =>
    rintro D V hD ⟨hj, _⟩ hK
    gi_wp2
    refine ⟨by simp, .inl ⟨_, _, rfl, run_takeDeferred hK, ?_⟩⟩
    have hj' := hJ _ _ _ hj (Turn.put (.deferred none) (by omega) hK (fun cs t fr h => by simp at h))
    exact ⟨_, results_none rfl _ _ _, ⟨_, rfl⟩, .inl hj'⟩
  case stop =>
    rintro D c pre V hD hp ⟨rfl, hjx⟩ hK
    gi_wp2
    refine ⟨by simp, .inl ⟨_, _, rfl, run_takeDeferred hK, ?_⟩⟩
    have hj' := hJx _ _ _ hjx (Turn.put (.deferred none) (by omega) hK (fun cs t fr h => by simp at h))
    exact ⟨_, results_none rfl _ _ _, ⟨_, rfl⟩, .inr ⟨_, hp.filter p, hj'⟩⟩

end Go.Proofs.Ytboambncimdfjaa
