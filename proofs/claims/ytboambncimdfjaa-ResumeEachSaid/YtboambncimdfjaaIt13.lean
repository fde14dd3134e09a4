/- What a client tells (layer 13): what is sent again, replayed, past: what the ranges go through. Condition: what is told reads as a list. -/
import Derived.Test.YtboambncimdfjaaFits13
set_option linter.unusedVariables false
set_option linter.unusedSimpArgs false
namespace Go.Proofs.Ytboambncimdfjaa
open Go.RowKit Go.Shelf
attribute [local go_sem] Oper.semAt_some

/-- An iterator that is called with the yield at hand. -/
theorem SeqL.use {α : Type} {F : Fence} {P : Program} {g : Nat} {lb : Array Value} {E : World → α → World → Array Value → Prop} {T1 : TypeId → Prop} {X : Nat → Prop} {T2 : TypeId → Prop} {L : List α} {w3 : World}
    (h : SeqL F P g lb E T1 X T2 L w3) (n l : Nat) {J Jx : List α → World → Prop} {W : World} (hk : Kp W w3 (fun _ => False)) (hJ : Still W.heap.size T1 J) (hJx : Still W.heap.size T1 Jx)
    (hE : ∀ x W1 args, E w3 x W1 args → E W x W1 args)
    (hY : ∀ m pre x args W1, J pre W1 → pre ++ [x] <+: L → E W x W1 args → YieldAt F m P l args W1 fun e W' =>
      (e = .returned (.bool true) ∧ J (pre ++ [x]) W' ∧ Kq X T2 W1 W' ∧ Keepm W.heap.size W1 W') ∨ (e = .returned (.bool false) ∧ Jx (pre ++ [x]) W' ∧ Keepm W.heap.size W1 W'))
    (h0 : J [] W) :
    CallsIn F n P g (#[.func (.yield l) #[] #[]] ++ lb) w3 fun e W' => (∃ v, e = .returned v) ∧ (J L W' ∨ ∃ pre, pre <+: L ∧ Jx pre W') := by
  refine h n l J Jx w3 (Below.refl _ _) (fun s A B hj ht => hJ s A B hj (ht.mono hk.size (fun _ h => h))) (fun s A B hj ht => hJx s A B hj (ht.mono hk.size (fun _ h => h))) ?_ (hJ _ _ _ h0 (Turn.kp hk))
  rintro m pre x args W1 hj hp he
  obtain ⟨fn, tmps, assign, body, hy, hR⟩ := hY m pre x args W1 hj hp (hE _ _ _ he)
  refine ⟨fn, tmps, assign, body, hy, hR.mono ?_⟩
  rintro e W' (⟨h1, h2, h3, h4⟩ | ⟨h1, h2, h3⟩)
  · exact .inl ⟨h1, h2, h3, h4.mono hk.size⟩
  · exact .inr ⟨h1, h2, h3.mono hk.size⟩

def againL (next : Nat) (l : List Hv) (last : Nat) : List Int := if fits next l last = 0 then spanL (last + 1) next else []
def replayL (next : Nat) (l : List Hv) (last : Nat) : List Hv := if fits next l last = 0 then l.filter (fun h => decide (h.id ≤ (last : Int))) else []
def pastL (next : Nat) (l : List Hv) (last : Nat) : List Int := if fits next l last = 0 then (spanL 1 (last + 1)).filter (fun x => !hasB l x) else []
theorem fits_lt {next : Nat} {l : List Hv} {last : Nat} (h : fits next l last = 0) : last < next := by
  unfold fits at h
  by_cases h1 : may next l = false
  · rw [if_pos h1] at h; omega
  · rw [if_neg h1] at h
    by_cases h2 : next ≤ last
    · rw [if_pos h2] at h; omega
    · omega

/-- What the ranges read: the told. -/
structure Told (w : World) (X : Nat → Prop) (next : Nat) (A : Option Addr) (n c : Nat) (l : List Hv) (last : Nat) (Ba Bl : Nat) : Prop where
  ba : Blk w Ba #[.int .u32 next, .slice A n c] 26
  bl : Blk w Bl #[.int .u32 last] 24
  rd : Rd w A n c (hvCells l)
  low : ∀ ad, A = some ad → hvCells l ≠ [] → ad.block < w.heap.size
  xa : ∀ ad, A = some ad → hvCells l ≠ [] → X ad.block
theorem Told.quiet {w w' : World} {X : Nat → Prop} {next : Nat} {A : Option Addr} {n c : Nat} {l : List Hv} {last Ba Bl : Nat} (h : Told w X next A n c l last Ba Bl) (hk : Kp w w' (fun _ => False)) : Told w' X next A n c l last Ba Bl :=
  ⟨Blk.kp h.ba hk (fun h => h), Blk.kp h.bl hk (fun h => h), h.rd.kp hk (fun _ _ _ h => h), fun ad h1 h2 => Nat.lt_of_lt_of_le (h.low ad h1 h2) hk.size, h.xa⟩
theorem Told.below {w w' : World} {X : Nat → Prop} {next : Nat} {A : Option Addr} {n c : Nat} {l : List Hv} {last Ba Bl : Nat} (h : Told w X next A n c l last Ba Bl) (hk : Below w.heap.size w w') : Told w' X next A n c l last Ba Bl :=
  ⟨(hk.block _ h.ba.lt).trans h.ba, (hk.block _ h.bl.lt).trans h.bl, h.rd.below hk h.low, fun ad h1 h2 => Nat.lt_of_lt_of_le (h.low ad h1 h2) hk.size, h.xa⟩

set_option maxRecDepth 100000 in
set_option maxHeartbeats 1000000 in
theorem again1_in (F : Fence) (hF : IsWide F) (w : World) (next : Nat) (hn1 : next < 4294967296) (A : Option Addr) (n c : Nat) (l : List Hv) (hl : l.length = n) (hok : ∀ h ∈ l, h.ok) (last : Nat) (hl1 : last < 4294967296) (Ba Bl : Nat)
    (X : Nat → Prop) (T2 : TypeId → Prop) (hT2 : ∀ t, TB t → T2 t) (ht : Told w X next A n c l last Ba Bl) :
    SeqL F Try.prog 36 #[.pointer (some ⟨Ba, 0, none⟩), .pointer (some ⟨Bl, 0, none⟩)] encU T0 X T2 (againL next l last) w := by
  intro N k J Jx W hW hJ hJx hY h0
  have htW := ht.below hW
  have hro := wide_ro hF
  have hde := wide_de hF
  have hfn := wide_fn hF
  have q0 := htW.ba.cell' 0 rfl
  have q1 := htW.ba.cell' 1 rfl
  have q2 := htW.bl.cell' 0 rfl
  have hfV := V.mk (fits_any W next hn1 A n c l hl htW.rd htW.low hok last hl1)
  have hYV := V.mk hY
  clear hY
  refine callsIn_of_wp Try.func36 rfl (wide_fn hF _) ?_ hro
  simp only [Try.ntmps36, List.size_toArray, List.length_cons, List.length_nil, Nat.reduceAdd, Nat.reduceSub, Array.replicate_succ, Array.replicate_zero, List.push_toArray, List.append_toArray, List.nil_append, List.cons_append]
  gi_wp2_with fail
  refine (cin hF hfV.out).mono ?_
  rintro e w1 ⟨rfl, hk1⟩
  have ht1 := htW.quiet hk1
  have q01 := ht1.ba.cell' 0 rfl
  have q11 := ht1.ba.cell' 1 rfl
  have q21 := ht1.bl.cell' 0 rfl
  clear q0 q1 q2 hfV
  by_cases hf : fits next l last = 0
  · have hlt := fits_lt hf
    have eL : V (againL next l last = spanL (last + 1) next) := ⟨by unfold againL; rw [if_pos hf]⟩
    have ef : (fits next l last == (0 : Int)) = true := by simpa using hf
    clear hf
    gi_wp2_with fail
    refine (cin hF (above_any _ next last (by omega) A n c)).mono ?_
    rintro e w2 ⟨rfl, hk2⟩
    gi_wp2_with fail
    refine (cin hF (all_any _ _ _)).mono ?_
    rintro e w3 ⟨B, rfl, hb, _, hk3⟩
    have hs := V.mk (SeqL.use (all1_in F hF B (last + 1) next (by omega) hn1 w3 hb X T2 (hT2 _ (.inr (.inr rfl)))) (N - 1) k ((hk1.quiet hk2).quiet hk3) hJ hJx (fun _ _ _ h => h) (by rw [← eL.out]; exact hYV.out) h0)
    clear q01 q11 q21 ef
    gi_wp2_with fail
    refine hs.out.mono ?_
    rintro e w4 ⟨⟨v, rfl⟩, hj⟩
    gi_wp2
    go_end0
    rw [← eL.out] at hj
    exact ⟨⟨_, rfl⟩, hj⟩
  · have eL : V (againL next l last = []) := ⟨by unfold againL; rw [if_neg hf]⟩
    have ef : (fits next l last == (0 : Int)) = false := by simpa using hf
    clear hf
    gi_wp2
    go_end0
    rw [eL.out]
    exact ⟨⟨_, rfl⟩, .inl (hJ _ _ _ h0 (Turn.kp hk1))⟩

set_option maxRecDepth 100000 in
set_option maxHeartbeats 1000000 in
theorem past1_in (F : Fence) (hF : IsWide F) (w : World) (next : Nat) (hn1 : next < 4294967296) (A : Option Addr) (n c : Nat) (l : List Hv) (hl : l.length = n) (hok : ∀ h ∈ l, h.ok) (last : Nat) (hl1 : last < 4294967296) (Ba Bl : Nat)
    (X : Nat → Prop) (T2 : TypeId → Prop) (hT2 : ∀ t, TB t → T2 t) (hX : ∀ k, X k → k < w.heap.size) (ht : Told w X next A n c l last Ba Bl) :
    SeqL F Try.prog 41 #[.pointer (some ⟨Ba, 0, none⟩), .pointer (some ⟨Bl, 0, none⟩)] encU T0 X T2 (pastL next l last) w := by
  intro N k J Jx W hW hJ hJx hY h0
  have htW := ht.below hW
  have hro := wide_ro hF
  have hde := wide_de hF
  have hfn := wide_fn hF
  have q0 := htW.ba.cell' 0 rfl
  have q1 := htW.ba.cell' 1 rfl
  have q2 := htW.bl.cell' 0 rfl
  have hfV := V.mk (fits_any W next hn1 A n c l hl htW.rd htW.low hok last hl1)
  have hYV := V.mk hY
  clear hY
  refine callsIn_of_wp Try.func41 rfl (wide_fn hF _) ?_ hro
  simp only [Try.ntmps41, List.size_toArray, List.length_cons, List.length_nil, Nat.reduceAdd, Nat.reduceSub, Array.replicate_succ, Array.replicate_zero, List.push_toArray, List.append_toArray, List.nil_append, List.cons_append]
  gi_wp2_with fail
  refine (cin hF hfV.out).mono ?_
  rintro e w1 ⟨rfl, hk1⟩
  have ht1 := htW.quiet hk1
  have q01 := ht1.ba.cell' 0 rfl
  have q11 := ht1.ba.cell' 1 rfl
  have q21 := ht1.bl.cell' 0 rfl
  clear q0 q1 q2 hfV
  by_cases hf : fits next l last = 0
  · have hlt := fits_lt hf
    have eL : V (pastL next l last = (spanL 1 (last + 1)).filter (fun x => !hasB l x)) := ⟨by unfold pastL; rw [if_pos hf]⟩
    have ef : (fits next l last == (0 : Int)) = true := by simpa using hf
    clear hf
    have hm := V.mk (missing_any w1 1 (last + 1) (by omega) (by omega) next A n c l hl ht1.rd X T2 hT2 (fun k hk => Nat.lt_of_lt_of_le (hX k hk) (Nat.le_trans hW.size hk1.size)) ht1.xa)
    gi_wp2_with fail
    refine (cin hF hm.out).mono ?_
    rintro e w2 ⟨g, lb, rfl, heg, hk2, hseq⟩
    have hs := V.mk (SeqL.use (hseq F hF) (N - 1) k (hk1.quiet hk2) hJ hJx (fun _ _ _ h => h) (by rw [← eL.out]; exact hYV.out) h0)
    clear q01 q11 q21 ef hm hseq
    gi_wp2_with fail
    refine hs.out.mono ?_
    rintro e w4 ⟨⟨v, rfl⟩, hj⟩
    gi_wp2
    go_end0
    rw [← eL.out] at hj
    exact ⟨⟨_, rfl⟩, hj⟩
  · have eL : V (pastL next l last = []) := ⟨by unfold pastL; rw [if_neg hf]⟩
    have ef : (fits next l last == (0 : Int)) = false := by simpa using hf
    clear hf
    gi_wp2
    go_end0
    rw [eL.out]
    exact ⟨⟨_, rfl⟩, .inl (hJ _ _ _ h0 (Turn.kp hk1))⟩

def encH (_ : World) (h : Hv) (_ : World) (args : Array Value) : Prop := args = #[.agg #[.int .u32 h.id, .int .u32 h.out, .int .u32 h.err, .bool h.st]]
theorem filter_take_succ {α : Type} (l : List α) (p : α → Bool) (k : Nat) (h : k < l.length) : (l.take (k + 1)).filter p = (l.take k).filter p ++ (if p l[k] then [l[k]] else []) := by
  rw [List.take_succ_eq_append_getElem h, List.filter_append]
  by_cases hp : p l[k] <;> simp [hp]

set_option maxRecDepth 100000 in
set_option maxHeartbeats 2000000 in
theorem replay1_in (F : Fence) (hF : IsWide F) (w : World) (next : Nat) (hn1 : next < 4294967296) (A : Option Addr) (n c : Nat) (l : List Hv) (hl : l.length = n) (hok : ∀ h ∈ l, h.ok) (last : Nat) (hl1 : last < 4294967296) (Ba Bl : Nat)
    (X : Nat → Prop) (T2 : TypeId → Prop) (hT2 : ∀ t, TB t → T2 t) (ht : Told w X next A n c l last Ba Bl) (hXl : X Bl) :
    SeqL F Try.prog 40 #[.pointer (some ⟨Ba, 0, none⟩), .pointer (some ⟨Bl, 0, none⟩)] encH T0 X T2 (replayL next l last) w := by
  intro N k J Jx W hW hJ hJx hY h0
  have hn : n ≤ c ∧ c ≤ 9223372036854775807 := ⟨ht.rd.1, by have := ht.rd.2.1; simpa [maxLen] using this⟩
  have htW := ht.below hW
  have hro := wide_ro hF
  have hde := wide_de hF
  have hfn := wide_fn hF
  have q0 := htW.ba.cell' 0 rfl
  have q1 := htW.ba.cell' 1 rfl
  have q2 := htW.bl.cell' 0 rfl
  have hfV := V.mk (fits_any W next hn1 A n c l hl htW.rd htW.low hok last hl1)
  have hYV := V.mk hY
  clear hY
  refine callsIn_of_wp Try.func40 rfl (wide_fn hF _) ?_ hro
  simp only [Try.ntmps40, List.size_toArray, List.length_cons, List.length_nil, Nat.reduceAdd, Nat.reduceSub, Array.replicate_succ, Array.replicate_zero, List.push_toArray, List.append_toArray, List.nil_append, List.cons_append]
  gi_wp2_with fail
  refine (cin hF hfV.out).mono ?_
  rintro e w1 ⟨rfl, hk1⟩
  have ht1 := htW.quiet hk1
  have q01 := ht1.ba.cell' 0 rfl
  have q11 := ht1.ba.cell' 1 rfl
  clear q0 q1 q2 hfV
  by_cases hf : fits next l last = 0
  · have eL : V (replayL next l last = l.filter (fun h => decide (h.id ≤ (last : Int)))) := ⟨by unfold replayL; rw [if_pos hf]⟩
    have ef : (fits next l last != (0 : Int)) = false := by simpa using hf
    have hj1 := hJ _ _ _ h0 (Turn.kp hk1)
    clear hf
    gi_wp2
    gi_loopw [5, 13] (fun _ i wr => ∃ k : Nat, k ≤ n ∧ i = .int .i64 k ∧ Blk wr Bl #[.int .u32 last] 24 ∧ Rd wr (A) n c (hvCells l) ∧ J ((l.take k).filter (fun h => decide (h.id ≤ (last : Int)))) wr) (fun _ i _ => n - (intOf i).toNat)
    case atStart => exact ⟨0, Nat.zero_le _, rfl, ht1.bl, ht1.rd, by simpa using hj1⟩
    case round =>
      obtain ⟨k, hk, rfl, hbl, hrd, hj⟩ := hrel
      by_cases hgo : k < n
      · obtain ⟨ab, ao, rfl, hcs⟩ := hrd.base (by omega) (by rw [hvCells_length]; omega)
        obtain ⟨x0, x1, x2, x3⟩ := hv_at hcs k (by omega)
        have hkl : k < l.length := by omega
        have hts := V.mk (filter_take_succ l (fun h => decide (h.id ≤ (last : Int))) k hkl)
        have hka := (Kp.refl wr (fun _ => False)).alloc (.cells #[.int .u32 l[k].id, .int .u32 l[k].out, .int .u32 l[k].err, .bool l[k].st] 35)
        have hba := hbl.alloc (.cells #[.int .u32 l[k].id, .int .u32 l[k].out, .int .u32 l[k].err, .bool l[k].st] 35)
        have hra := hrd.alloc (.cells #[.int .u32 l[k].id, .int .u32 l[k].out, .int .u32 l[k].err, .bool l[k].st] 35)
        have hja := hJ _ _ _ hj (Turn.kp hka)
        have q2 := hba.cell' 0 rfl
        clear hcs
        by_cases hle : l[k].id ≤ (last : Int)
        · have hpx : (l.take k).filter (fun h => decide (h.id ≤ (last : Int))) ++ [l[k]] <+: replayL next l last := by
            have e2 := hts.out
            simp only [hle, decide_true, if_true] at e2
            rw [← e2, eL.out]
            exact (List.take_prefix _ _).filter _
          have e2 : V ((l.take (k + 1)).filter (fun h => decide (h.id ≤ (last : Int))) = (l.take k).filter (fun h => decide (h.id ≤ (last : Int))) ++ [l[k]]) := ⟨by rw [hts.out]; simp [hle]⟩
          obtain ⟨fn, tmps, assign, body, hyl, hR⟩ := hYV.out (N - 1) _ _ _ _ hja hpx rfl
          have hle' : decide (l[k].id ≤ (last : Int)) = true := by simpa using hle
          clear hts
          gi_wp2
          refine hR.mono ?_
          rintro e W' (⟨rfl, hJ', hk', _⟩ | ⟨rfl, hJx', _⟩)
          · have hb2 := hk'.blkX hba hXl
            have hr2 := hra.kp hk' (fun ad ha hne q => q.1 (ht.xa ad ha hne))
            rw [← e2.out] at hJ'
            gi_wp2
            go_roundw
            case rel => exact ⟨k + 1, by omega, by go_num, hb2, hr2, hJ'⟩
            case measure => simp [intOf]; omega
          · gi_wp2
            refine bodyPost_ret (results_none rfl _ _ _) rfl ?_
            exact ⟨⟨_, rfl⟩, .inr ⟨_, hpx, hJx'⟩⟩
        · have e2 : V ((l.take (k + 1)).filter (fun h => decide (h.id ≤ (last : Int))) = (l.take k).filter (fun h => decide (h.id ≤ (last : Int)))) := ⟨by rw [hts.out]; simp [hle]⟩
          have hle' : decide (l[k].id ≤ (last : Int)) = false := by simpa using hle
          clear hts
          rw [← e2.out] at hja
          gi_wp2
          go_roundw
          case rel => exact ⟨k + 1, by omega, by go_num, hba, hra, hja⟩
          case measure => simp [intOf]; omega
      · have hend : l.take k = l := List.take_of_length_le (by omega)
        rw [hend, ← eL.out] at hj
        clear hend
        gi_wp2
        go_end0
        exact ⟨⟨_, rfl⟩, .inl hj⟩
  · have eL : V (replayL next l last = []) := ⟨by unfold replayL; rw [if_neg hf]⟩
    have ef : (fits next l last != (0 : Int)) = true := by simpa using hf
    clear hf
    gi_wp2
    refine bodyPost_ret (results_none rfl _ _ _) rfl ?_
    rw [eL.out]
    exact ⟨⟨_, rfl⟩, .inl (hJ _ _ _ h0 (Turn.kp hk1))⟩

set_option maxHeartbeats 1000000 in
theorem again_any (w : World) (next last : Int) (A : Option Addr) (n c : Nat) :
    Calls Try.prog 10 #[.agg #[.int .u32 next, .slice A n c], .int .u32 last] w (Clo2 w 36 #[.int .u32 next, .slice A n c] #[.int .u32 last] 26 24) := by
  go_enter Try.func10, Try.ntmps10
  go_wp2
  go_ret
  exact Clo2.mk _ _ _ _ _ _
set_option maxHeartbeats 1000000 in
theorem replay_any (w : World) (next last : Int) (A : Option Addr) (n c : Nat) :
    Calls Try.prog 12 #[.agg #[.int .u32 next, .slice A n c], .int .u32 last] w (Clo2 w 40 #[.int .u32 next, .slice A n c] #[.int .u32 last] 26 24) := by
  go_enter Try.func12, Try.ntmps12
  go_wp2
  go_ret
  exact Clo2.mk _ _ _ _ _ _
set_option maxHeartbeats 1000000 in
theorem past_any (w : World) (next last : Int) (A : Option Addr) (n c : Nat) :
    Calls Try.prog 13 #[.agg #[.int .u32 next, .slice A n c], .int .u32 last] w (Clo2 w 41 #[.int .u32 next, .slice A n c] #[.int .u32 last] 26 24) := by
  go_enter Try.func13, Try.ntmps13
  go_wp2
  go_ret
  exact Clo2.mk _ _ _ _ _ _

end Go.Proofs.Ytboambncimdfjaa
