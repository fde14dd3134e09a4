/- scribe.Reader: what it takes. Condition: the reader is one (its fields in a block, what is left in memory of its own). -/
import Derived.Test.YtkameiopahcacaaDoorScr
import Derived.Laws.Bits64b
set_option linter.unusedVariables false
set_option linter.unusedSimpArgs false
set_option maxRecDepth 100000
namespace Go.Proofs.YtkameiopahcacaaDoor
open Go.RowKit

/-- A reader at block g: bs are left, in the row rb; sh: something was not there. -/
def IsRr (w : World) (g : Nat) (rb : Option Nat) (bs : List Int) (sh : Bool) : Prop :=
  ∃ A c, Blk w g #[.slice A bs.length c, .bool sh] 109 ∧ Rd w A bs.length c (B8 bs) ∧ (∀ ad, A = some ad → bs ≠ [] → rb = some ad.block) ∧ rb ≠ some g ∧ (∀ k, rb = some k → k < w.heap.size)
theorem IsRr.kp {w w1 : World} {g : Nat} {rb : Option Nat} {bs : List Int} {sh : Bool} {S : Nat → Prop} (h : IsRr w g rb bs sh) (hk : Kp w w1 S) (h1 : ¬ S g) (h2 : ∀ k, rb = some k → ¬ S k) : IsRr w1 g rb bs sh := by
  obtain ⟨A, c, hb, hr, ha, hn, hl⟩ := h
  exact ⟨A, c, hb.kp hk h1, hr.kp hk (fun ad h3 h4 => h2 _ (ha ad h3 (fun e => h4 (by rw [e]; rfl)))), ha, hn, fun k h => Nat.lt_of_lt_of_le (hl k h) hk.size⟩
theorem IsRr.quiet {w w1 : World} {g : Nat} {rb : Option Nat} {bs : List Int} {sh : Bool} (h : IsRr w g rb bs sh) (hk : Kp w w1 (fun _ => False)) : IsRr w1 g rb bs sh := h.kp hk (fun h => h) (fun _ _ h => h)
theorem IsRr.lt {w : World} {g : Nat} {rb : Option Nat} {bs : List Int} {sh : Bool} (h : IsRr w g rb bs sh) : g < w.heap.size := by
  obtain ⟨A, c, hb, _⟩ := h
  exact hb.lt
theorem IsRr.rlt {w : World} {g : Nat} {rb : Option Nat} {bs : List Int} {sh : Bool} (h : IsRr w g rb bs sh) {k : Nat} (hk : rb = some k) : k < w.heap.size := by
  obtain ⟨A, c, hb, _, _, _, hl⟩ := h
  exact hl k hk

def RrPost (w : World) (bs : List Int) (e : Ending) (w' : World) : Prop :=
  ∃ g rb, e = .returned (.pointer (some ⟨g, 0, none⟩)) ∧ IsRr w' g rb bs false ∧ w.heap.size ≤ g ∧ New w rb ∧ Kp w w' (fun _ => False)

set_option maxHeartbeats 1000000 in
theorem rnewr_any (w : World) (A : Option Addr) (n c : Nat) (bs : List Int) (hx : bs.length = n) (hrd : Rd w A n c (B8 bs)) (hmax : n ≤ 1048576) :
    Calls Tryd.prog 57 #[.slice A n c] w (RrPost w bs) := by
  have hc := V.mk (clone_any w A n c bs hx hrd hmax)
  have hxV := V.mk hx
  clear hx
  go_enter Tryd.func57, Tryd.ntmps57
  go_wp2_with fail
  refine hc.out.mono ?_
  rintro e w1 ⟨A1, c1, r1, rfl, hrow, hn, hk⟩
  have hb := Blk.new w1 #[.slice A1 n c1, .bool false] 109
  have hr := hrow.rd.alloc (.cells #[.slice A1 n c1, .bool false] 109)
  have hk1 := hk.alloc (.cells #[.slice A1 n c1, .bool false] 109)
  have hrl : ∀ k, r1 = some k → k < w1.heap.size := fun k hk => hrow.lt hk
  have had : ∀ ad, A1 = some ad → bs ≠ [] → r1 = some ad.block := fun ad h1 _ => by
    obtain ⟨g, rfl, h2⟩ := hrow.addr_some h1
    exact h2
  have hsz := hk.size
  go_wp2
  go_ret
  exact ⟨w1.heap.size, r1, rfl, ⟨A1, c1, by rw [hxV.out]; exact hb, by rw [hxV.out]; exact hr, had, fun e => by have := hrl _ e; omega, fun k h => by have := hrl k h; simp; omega⟩, hsz, hn, hk1⟩

/-- What is taken, what is left. -/
def takeR (bs : List Int) (sh : Bool) (n : Nat) : List Int × List Int × Bool := if sh then ([], bs, true) else if bs.length < n then ([], [], true) else (bs.take n, bs.drop n, false)
def TkPost (w : World) (g : Nat) (rb : Option Nat) (res : List Int × List Int × Bool) (e : Ending) (w' : World) : Prop :=
  ∃ A n c r, e = .returned (.slice A n c) ∧ res.1.length = n ∧ Row w' 5 1 A n c (B8 res.1) r ∧ New w r ∧ IsRr w' g rb res.2.1 res.2.2 ∧ Kp w w' (fun k => k = g)

set_option maxHeartbeats 2000000 in
theorem rtake_any (w : World) (g : Nat) (rb : Option Nat) (bs : List Int) (sh : Bool) (h : IsRr w g rb bs sh) (n : Nat) (hn : n ≤ 2000000) (hmax : bs.length ≤ 1048576) :
    Calls Tryd.prog 60 #[.pointer (some ⟨g, 0, none⟩), .int .i64 n] w (TkPost w g rb (takeR bs sh n)) := by
  obtain ⟨A, c, hb, hrd, ha, hne, hl⟩ := h
  have k0 := hb.cell' 0 rfl
  have k1 := hb.cell' 1 rfl
  have f0 := hb.free 0
  have f1 := hb.free 1
  cases sh with
  | true =>
    have e1 : V (takeR bs true n = ([], bs, true)) := ⟨rfl⟩
    go_enter Tryd.func60, Tryd.ntmps60
    go_wp2
    go_ret
    rw [e1.out]
    exact ⟨none, 0, 0, none, rfl, rfl, Row.nil _ _ _, New.none _, ⟨A, c, hb, hrd, ha, hne, hl⟩, Kp.refl _ _⟩
  | false =>
    by_cases hlen : bs.length < n
    · have e1 : V (takeR bs false n = ([], [], true)) := ⟨by unfold takeR; rw [if_neg (by simp), if_pos hlen]⟩
      have hb2 := (hb.set 0 (.slice none 0 0)).set 1 (.bool true)
      have hk2 : Kp w ((w.setCell ⟨g, 0, none⟩ (.slice none 0 0)).setCell ⟨g, 1, none⟩ (.bool true)) (fun k => k = g) := ((Kp.refl w (fun k => k = g)).set g 0 _ (.inl rfl)).set g 1 _ (.inl rfl)
      have ht : decide ((n : Int) > (bs.length : Int)) = true := by simpa using hlen
      have ht2 : decide (bs.length < n) = true := by simpa using hlen
      have hl2 : ∀ k, rb = some k → k < ((w.setCell ⟨g, 0, none⟩ (.slice none 0 0)).setCell ⟨g, 1, none⟩ (.bool true)).heap.size := fun k h => by simpa using hl k h
      go_enter Tryd.func60, Tryd.ntmps60
      go_wp2
      go_ret
      rw [e1.out]
      exact ⟨none, 0, 0, none, rfl, rfl, Row.nil _ _ _, New.none _, ⟨none, 0, hb2, Rd.nil _, fun _ h => by simp at h, hne, hl2⟩, hk2⟩
    · have e1 : V (takeR bs false n = (bs.take n, bs.drop n, false)) := ⟨by unfold takeR; rw [if_neg (by simp), if_neg hlen]⟩
      have ht2 : decide (bs.length < n) = false := by simpa using hlen
      have hlt : V ((bs.take n).length = n) := ⟨by rw [List.length_take]; omega⟩
      have hcl := V.mk (clone_any w A n c (bs.take n) hlt.out (rd_take hrd n (by omega)) (by omega))
      have hbn : n ≤ bs.length := by omega
      have hbc := hrd.1
      have hsub := hrd.sub n (bs.length - n) (by omega)
      have ecs : ((B8 bs).drop n).take (bs.length - n) = B8 (bs.drop n) := by
        rw [B8_drop]; exact List.take_of_length_le (by simp)
      rw [ecs] at hsub
      have hadd : ∀ ad, (if c = n then A else A.map (fun x => x.add n)) = some ad → bs.drop n ≠ [] → rb = some ad.block := by
        intro ad h1 h2
        have hne' : bs ≠ [] := by rintro rfl; simp at h2
        have hlt' : n < bs.length := by
          have := List.length_pos_iff.2 h2
          simp at this
          omega
        rw [if_neg (by omega)] at h1
        obtain ⟨ad0, rfl, rfl⟩ := Option.map_eq_some_iff.1 h1
        rw [add_block]
        exact ha ad0 rfl hne'
      obtain ⟨AA, hAA⟩ : ∃ AA, (if c = n then A else A.map (fun x => x.add n)) = AA := ⟨_, rfl⟩
      rw [hAA] at hsub hadd
      have hdl : V ((bs.drop n).length = bs.length - n) := ⟨by simp⟩
      have hcm : (c : Int) ≤ 9223372036854775807 := by have := hrd.2.1; simp only [maxLen] at this; omega
      have hAAV := V.mk hAA
      clear ecs hAA
      go_enter Tryd.func60, Tryd.ntmps60
      go_wp2_with fail
      refine hcl.out.mono ?_
      rintro e w1 ⟨A1, c1, r1, rfl, hrow, hn1, hk1⟩
      have hb1 := Blk.kp hb hk1 (fun h => h)
      have q0 := hb1.cell' 0 rfl
      have q1 := hb1.free 0
      have hAA := hAAV.out
      have hne1 : r1 ≠ some g := fun e => by have := hn1 _ e; have := hb.lt; omega
      have hb2 := hb1.set 0 (.slice AA (bs.length - n) (c - n))
      have hr2 := hrow.far (p := ⟨g, 0, none⟩) hne1 (.slice AA (bs.length - n) (c - n))
      have hk2 : Kp w (w1.setCell ⟨g, 0, none⟩ (.slice AA (bs.length - n) (c - n))) (fun k => k = g) := Kp.set (S := fun k => k = g) (hk1.mono (fun _ h => h.elim)) g 0 _ (.inl rfl)
      have hrd2 := hsub.kp hk2 (fun ad h1 h2 e => hne (by rw [hadd ad h1 (fun e => h2 (by rw [e]; rfl)), e]))
      have hl2 : ∀ k, rb = some k → k < (w1.setCell ⟨g, 0, none⟩ (.slice AA (bs.length - n) (c - n))).heap.size := fun k h => Nat.lt_of_lt_of_le (hl k h) hk2.size
      clear hcl
      go_wp2
      go_ret
      rw [e1.out]
      exact ⟨A1, n, c1, r1, rfl, hlt.out, hr2, hn1, ⟨AA, c - n, by rw [hdl.out]; exact hb2, by rw [hdl.out]; exact hrd2, hadd, hne, hl2⟩, hk2⟩

/-- The number that bytes are. -/
def numB (l : List Int) : Int := l.foldl (fun n c => n * 256 + c) 0
theorem numB_snoc (l : List Int) (c : Int) : numB (l ++ [c]) = numB l * 256 + c := by simp [numB]
theorem numB_acc (l : List Int) : ∀ (a : Int) (k : Nat), 0 ≤ a → a < 256 ^ k → (∀ c ∈ l, 0 ≤ c ∧ c ≤ 255) → 0 ≤ l.foldl (fun n c => n * 256 + c) a ∧ l.foldl (fun n c => n * 256 + c) a < 256 ^ (k + l.length) := by
  induction l with
  | nil => intro a k h0 h1 _; exact ⟨h0, by simpa using h1⟩
  | cons c l ih =>
    intro a k h0 h1 h
    have hc := h c (by simp)
    have hp : (256 : Int) ^ (k + 1) = 256 ^ k * 256 := Int.pow_succ _ _
    have := ih (a * 256 + c) (k + 1) (by omega) (by omega) (fun x hx => h x (by simp [hx]))
    rw [List.foldl_cons, List.length_cons, show k + (l.length + 1) = k + 1 + l.length by omega]
    exact this
theorem numB_bound (l : List Int) (h : ∀ c ∈ l, 0 ≤ c ∧ c ≤ 255) : 0 ≤ numB l ∧ numB l < 256 ^ l.length := by
  have := numB_acc l 0 0 (by omega) (by simp) h
  rwa [Nat.zero_add] at this

theorem or_num (q y : Int) (h0 : 0 ≤ q) (h1 : q < 4294967296) (h2 : 0 ≤ y) (h3 : y ≤ 255) : bits .or .u64 (q * 256) y = q * 256 + y := by
  obtain ⟨a, rfl⟩ : ∃ a : Nat, q = a := ⟨q.toNat, by omega⟩
  obtain ⟨b, rfl⟩ : ∃ b : Nat, y = b := ⟨y.toNat, by omega⟩
  have := bits_or_u64_nat (a * 256) b (by omega) (by omega)
  rw [show ((a : Int) * 256) = ((a * 256 : Nat) : Int) by simp, this]
  have e := Nat.two_pow_add_eq_or_of_lt (b := b) (i := 8) (by omega) a
  rw [show a * 256 = 2 ^ 8 * a by omega, ← e]
  simp

def NumPost (w : World) (g : Nat) (rb : Option Nat) (k : IntKind) (v : Int) (bs : List Int) (sh : Bool) (e : Ending) (w' : World) : Prop :=
  e = .returned (.int k v) ∧ IsRr w' g rb bs sh ∧ Kp w w' (fun k => k = g)

set_option maxHeartbeats 2000000 in
theorem rnumber_any (w : World) (g : Nat) (rb : Option Nat) (bs : List Int) (sh : Bool) (h : IsRr w g rb bs sh) (n : Nat) (hn : n ≤ 4) (hmax : bs.length ≤ 1048576) (hby : ∀ c ∈ bs, 0 ≤ c ∧ c ≤ 255) :
    Calls Tryd.prog 65 #[.pointer (some ⟨g, 0, none⟩), .int .i64 n] w (NumPost w g rb .u64 (numB (takeR bs sh n).1) (takeR bs sh n).2.1 (takeR bs sh n).2.2) := by
  have hc := V.mk (rtake_any w g rb bs sh h n (by omega) hmax)
  have hby2 : ∀ c ∈ (takeR bs sh n).1, 0 ≤ c ∧ c ≤ 255 := by
    intro c hc'
    unfold takeR at hc'
    split at hc'
    · simp at hc'
    · split at hc'
      · simp at hc'
      · exact hby c (List.mem_of_mem_take hc')
  have hlen : (takeR bs sh n).1.length ≤ 4 := by
    unfold takeR
    split
    · simp
    · split
      · simp
      · simp only [List.length_take]; omega
  generalize takeR bs sh n = R at *
  obtain ⟨out, bs', sh'⟩ := R
  simp only at hby2 hlen ⊢
  go_enter Tryd.func65, Tryd.ntmps65
  go_wp2_with fail
  refine hc.out.mono ?_
  rintro e w1 ⟨A, m, c, r, rfl, hm, hrow, hnew, hrr, hk⟩
  have hrd := hrow.rd
  have hmc : m ≤ c := hrd.1
  have hmV := V.mk hm
  simp only at hm
  have hm4 : m ≤ 4 := by omega
  clear hc hm
  go_wp2
  go_loop [5, 7, 12] (fun v _ i => ∃ k : Nat, k ≤ m ∧ i = .int .i64 k ∧ v = .int .u64 (numB (out.take k))) (fun _ _ i => m - (intOf i).toNat)
  case atStart => exact ⟨0, Nat.zero_le _, rfl, rfl⟩
  case round =>
    obtain ⟨k, hk', rfl, rfl⟩ := hrel
    by_cases hgo : k < m
    · have hko : k < out.length := by rw [hmV.out]; exact hgo
      obtain ⟨ab, ao, rfl, hcs⟩ := hrd.base (by omega) (by simp; omega)
      have x0 := hcs k _ (show (B8 out)[k]? = some (.int .u8 out[k]) by simp [B8, hko])
      have hb := hby2 out[k] (List.getElem_mem _)
      have hts : V (numB (out.take (k + 1)) = numB (out.take k) * 256 + out[k]) := ⟨by rw [List.take_succ_eq_append_getElem hko, numB_snoc]⟩
      have hnb := numB_bound (out.take k) (fun c hc => hby2 c (List.mem_of_mem_take hc))
      have hnb2 : numB (out.take k) < 16777216 := by
        have h3 : (out.take k).length ≤ 3 := by rw [List.length_take]; omega
        have : (256 : Int) ^ (out.take k).length ≤ 256 ^ 3 := by exact_mod_cast Nat.pow_le_pow_right (by omega) h3
        omega
      have hnb1 := hnb.1
      generalize numB (out.take k) = q at *
      generalize out[k] = y at *
      clear hcs hnb
      have hor : V (bits .or .u64 (q * 256) y = numB (out.take (k + 1))) := ⟨by rw [hts.out]; exact or_num q y hnb1 (by omega) hb.1 hb.2⟩
      clear hts
      go_wp2
      go_round
      case rel => exact ⟨k + 1, by omega, by go_num, by rw [← hor.out]⟩
      case measure => simp [intOf]; omega
    · have hend : V (numB (out.take k) = numB out) := ⟨by rw [List.take_of_length_le (by rw [hmV.out]; omega)]⟩
      go_wp2
      go_ret
      exact ⟨by rw [← hend.out]; rfl, hrr, hk⟩

theorem takeR_num (bs : List Int) (sh : Bool) (n : Nat) (h : ∀ c ∈ bs, 0 ≤ c ∧ c ≤ 255) : 0 ≤ numB (takeR bs sh n).1 ∧ numB (takeR bs sh n).1 < 256 ^ n := by
  have h1 : ∀ c ∈ (takeR bs sh n).1, 0 ≤ c ∧ c ≤ 255 := by
    intro c hc'
    unfold takeR at hc'
    split at hc'
    · simp at hc'
    · split at hc'
      · simp at hc'
      · exact h c (List.mem_of_mem_take hc')
  have h2 : (takeR bs sh n).1.length ≤ n := by
    unfold takeR
    split
    · simp
    · split
      · simp
      · simp only [List.length_take]; omega
  have h3 := numB_bound _ h1
  have : (256 : Int) ^ (takeR bs sh n).1.length ≤ 256 ^ n := by exact_mod_cast Nat.pow_le_pow_right (by omega) h2
  exact ⟨h3.1, by omega⟩

set_option maxHeartbeats 1000000 in
theorem rtwo_any (w : World) (g : Nat) (rb : Option Nat) (bs : List Int) (sh : Bool) (h : IsRr w g rb bs sh) (hmax : bs.length ≤ 1048576) (hby : ∀ c ∈ bs, 0 ≤ c ∧ c ≤ 255) :
    Calls Tryd.prog 58 #[.pointer (some ⟨g, 0, none⟩)] w (NumPost w g rb .u16 (numB (takeR bs sh 2).1) (takeR bs sh 2).2.1 (takeR bs sh 2).2.2) := by
  have hc := V.mk (rnumber_any w g rb bs sh h 2 (by omega) hmax hby)
  have hb := takeR_num bs sh 2 hby
  have hb1 := hb.1
  have hb2 : numB (takeR bs sh 2).1 < 65536 := by have := hb.2; omega
  clear hb
  generalize takeR bs sh 2 = R at *
  generalize numB R.1 = v at *
  go_enter Tryd.func58, Tryd.ntmps58
  go_wp2_with fail
  refine hc.out.mono ?_
  rintro e w1 ⟨rfl, hrr, hk⟩
  go_wp2
  go_ret
  exact ⟨rfl, hrr, hk⟩

set_option maxHeartbeats 1000000 in
theorem rfour_any (w : World) (g : Nat) (rb : Option Nat) (bs : List Int) (sh : Bool) (h : IsRr w g rb bs sh) (hmax : bs.length ≤ 1048576) (hby : ∀ c ∈ bs, 0 ≤ c ∧ c ≤ 255) :
    Calls Tryd.prog 59 #[.pointer (some ⟨g, 0, none⟩)] w (NumPost w g rb .u32 (numB (takeR bs sh 4).1) (takeR bs sh 4).2.1 (takeR bs sh 4).2.2) := by
  have hc := V.mk (rnumber_any w g rb bs sh h 4 (by omega) hmax hby)
  have hb := takeR_num bs sh 4 hby
  have hb1 := hb.1
  have hb2 : numB (takeR bs sh 4).1 < 4294967296 := by have := hb.2; omega
  clear hb
  generalize takeR bs sh 4 = R at *
  generalize numB R.1 = v at *
  go_enter Tryd.func59, Tryd.ntmps59
  go_wp2_with fail
  refine hc.out.mono ?_
  rintro e w1 ⟨rfl, hrr, hk⟩
  go_wp2
  go_ret
  exact ⟨rfl, hrr, hk⟩

set_option maxHeartbeats 1000000 in
theorem rerr_any (w : World) (g : Nat) (rb : Option Nat) (bs : List Int) (sh : Bool) (h : IsRr w g rb bs sh) :
    Calls Tryd.prog 61 #[.pointer (some ⟨g, 0, none⟩)] w fun e w' => e = .returned (.int .i64 (if sh then 4 else 0)) ∧ w = w' := by
  obtain ⟨A, c, hb, _⟩ := h
  have k1 := hb.cell' 1 rfl
  cases sh with
  | true =>
    go_enter Tryd.func61, Tryd.ntmps61
    go_wp2
    go_ret
    exact ⟨rfl, rfl⟩
  | false =>
    go_enter Tryd.func61, Tryd.ntmps61
    go_wp2
    go_ret
    exact ⟨rfl, rfl⟩
end Go.Proofs.YtkameiopahcacaaDoor
