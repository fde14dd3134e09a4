/- What a client tells (layer 13): the numbers that are missing; Fits. Condition: what is told reads as a list. -/
import Derived.Test.YtboambncimdfjaaRes13
import Derived.Deep.RegionHeld3
set_option linter.unusedVariables false
set_option linter.unusedSimpArgs false
namespace Go.Proofs.Ytboambncimdfjaa
open Go.RowKit Go.Shelf
attribute [local go_sem] Oper.semAt_some

set_option maxHeartbeats 1000000 in
theorem above_any (w : World) (next : Int) (last : Nat) (h1 : last < 4294967295) (A : Option Addr) (n c : Nat) :
    Calls Try.prog 37 #[.agg #[.int .u32 next, .slice A n c], .int .u32 last] w fun e w' => e = .returned (.agg #[.int .u32 ((last + 1 : Nat) : Int), .int .u32 next]) ∧ Kp w w' (fun _ => False) := by
  have hk := ((Kp.refl w (fun _ => False)).alloc (.cells #[.int .u32 next, .slice A n c] 26)).alloc (.cells #[.int .u32 (last + 1), .int .u32 next] 76)
  have hb := (Blk.new w #[.int .u32 next, .slice A n c] 26).cell' 0 rfl
  have hb2 := ((Blk.new w #[.int .u32 next, .slice A n c] 26).alloc (.cells #[.int .u32 0, .int .u32 0] 76)).cell' 0 rfl
  go_enter Try.func37, Try.ntmps37
  go_wp2
  exact bodyPost_ret (v := .agg #[.int .u32 (last + 1), .int .u32 next]) (by simp [results, Try.results37, go_sem]) rfl ⟨by simp, hk⟩

/-- A closure over one box, over two. -/
def Clo1 (w : World) (f : Nat) (cs : Array Value) (t : TypeId) (e : Ending) (w' : World) : Prop :=
  ∃ B, e = .returned (.func (.func f) #[] #[.pointer (some ⟨B, 0, none⟩)]) ∧ Blk w' B cs t ∧ w.heap.size ≤ B ∧ Kp w w' (fun _ => False)
def Clo2 (w : World) (f : Nat) (cs1 cs2 : Array Value) (t1 t2 : TypeId) (e : Ending) (w' : World) : Prop :=
  ∃ B1 B2, e = .returned (.func (.func f) #[] #[.pointer (some ⟨B1, 0, none⟩), .pointer (some ⟨B2, 0, none⟩)]) ∧ Blk w' B1 cs1 t1 ∧ Blk w' B2 cs2 t2 ∧ w.heap.size ≤ B1 ∧ w.heap.size ≤ B2 ∧ Kp w w' (fun _ => False)
theorem Clo1.mk (w : World) (f : Nat) (cs : Array Value) (t : TypeId) : Clo1 w f cs t (.returned (.func (.func f) #[] #[.pointer (some ⟨w.heap.size, 0, none⟩)])) (w.alloc (.cells cs t)) :=
  ⟨_, rfl, Blk.new _ _ _, Nat.le_refl _, (Kp.refl _ _).alloc _⟩
theorem Clo2.mk (w : World) (f : Nat) (cs1 cs2 : Array Value) (t1 t2 : TypeId) : Clo2 w f cs1 cs2 t1 t2 (.returned (.func (.func f) #[] #[.pointer (some ⟨w.heap.size, 0, none⟩), .pointer (some ⟨w.heap.size + 1, 0, none⟩)])) ((w.alloc (.cells cs1 t1)).alloc (.cells cs2 t2)) := by
  have h2 := Blk.new (w.alloc (.cells cs1 t1)) cs2 t2
  rw [World.size_alloc] at h2
  exact ⟨_, _, rfl, (Blk.new w cs1 t1).alloc _, h2, Nat.le_refl _, by omega, ((Kp.refl _ _).alloc _).alloc _⟩

set_option maxHeartbeats 1000000 in
theorem all_any (w : World) (f t : Int) :
    Calls Try.prog 38 #[.agg #[.int .u32 f, .int .u32 t]] w (Clo1 w 57 #[.int .u32 f, .int .u32 t] 76) := by
  go_enter Try.func38, Try.ntmps38
  go_wp2
  go_ret
  exact Clo1.mk _ _ _ _

set_option maxHeartbeats 1000000 in
theorem those_any (w : World) (fg fh : Fn) (bg cg bh ch : Array Value) :
    Calls Try.prog 58 #[.func fg bg cg, .func fh bh ch] w (Clo2 w 65 #[.func fg bg cg] #[.func fh bh ch] 29 74) := by
  go_enter Try.func58, Try.ntmps58
  go_wp2
  go_ret
  exact Clo2.mk _ _ _ _ _ _

/-- The bound method a.has. -/
abbrev hasF (next : Int) (A : Option Addr) (n c : Nat) : Value := .func (.func 43) #[.agg #[.int .u32 next, .slice A n c]] #[]

set_option maxHeartbeats 1000000 in
theorem missing1_any (w : World) (next : Int) (A : Option Addr) (n c : Nat) (l : List Hv) (hl : l.length = n) (hrd : Rd w A n c (hvCells l)) (B : Nat) (x : Int)
    (hb : Blk w B #[hasF next A n c] 74) :
    Calls Try.prog 59 #[.int .u32 x, .pointer (some ⟨B, 0, none⟩)] w fun e w' => e = .returned (.bool (!hasB l x)) ∧ Kp w w' (fun _ => False) := by
  have hc := V.mk (has_any w next A n c l hl hrd x)
  have q0 := hb.cell' 0 rfl
  generalize hasB l x = b at hc ⊢
  go_enter Try.func59, Try.ntmps59
  go_wp2_with fail
  refine hc.out.mono ?_
  rintro e w1 ⟨rfl, hk⟩
  go_wp2
  go_ret
  exact ⟨rfl, hk⟩

/-- An iterator over numbers is handed back: it goes through L. -/
def UPost (X : Nat → Prop) (T2 : TypeId → Prop) (L : List Int) (w : World) (e : Ending) (w' : World) : Prop :=
  ∃ g lb, e = .returned (.func (.func g) #[] lb) ∧ (∀ args w, (callFunc g args).run Try.prog w = .ok (.enter g args) w) ∧ Kp w w' (fun _ => False) ∧ ∀ F, IsWide F → SeqL F Try.prog g lb encU T0 X T2 L w'

set_option maxHeartbeats 1000000 in
theorem missing_any (w : World) (f t : Nat) (hf : f < 4294967296) (ht : t < 4294967296) (next : Int) (A : Option Addr) (n c : Nat) (l : List Hv) (hl : l.length = n) (hrd : Rd w A n c (hvCells l))
    (X : Nat → Prop) (T2 : TypeId → Prop) (hT2 : ∀ t, TB t → T2 t) (hX : ∀ k, X k → k < w.heap.size) (hXA : ∀ ad, A = some ad → hvCells l ≠ [] → X ad.block) :
    Calls Try.prog 42 #[.agg #[.int .u32 f, .int .u32 t], hasF next A n c] w (UPost X T2 ((spanL f t).filter (fun x => !hasB l x)) w) := by
  have hb1 := ((Kp.refl w (fun _ => False)).alloc (.cells #[.int .u32 f, .int .u32 t] 76)).alloc (.cells #[hasF next A n c] 74)
  have B0 := Blk.new (w.alloc (.cells #[.int .u32 f, .int .u32 t] 76)) #[hasF next A n c] 74
  have k0 := (((Blk.new w #[.int .u32 f, .int .u32 t] 76)).alloc (.cells #[hasF next A n c] 74)).cell' 0 rfl
  have k1 := (((Blk.new w #[.int .u32 f, .int .u32 t] 76)).alloc (.cells #[hasF next A n c] 74)).cell' 1 rfl
  rw [World.size_alloc] at B0
  have hbV := V.mk hb1
  have B0V := V.mk B0
  clear hb1 B0
  go_enter Try.func42, Try.ntmps42
  go_wp2_with fail
  refine (all_any _ _ _).mono ?_
  rintro e w1 ⟨Bs, rfl, hs, hsl, hk1⟩
  clear k0 k1
  go_wp2_with fail
  refine (those_any _ _ _ _ _ _ _).mono ?_
  rintro e w2 ⟨Ba, Bt, rfl, ha, hb, hal, hbl, hk2⟩
  have kp1 := hbV.out.quiet hk1
  have kp2 := kp1.quiet hk2
  have B02 := Blk.kp (Blk.kp B0V.out hk1 (fun h => h)) hk2 (fun h => h)
  have hs2 := Blk.kp hs hk2 (fun h => h)
  go_wp2_with fail
  go_ret
  refine ⟨_, _, rfl, fun _ _ => rfl, kp2, fun F hF => ?_⟩
  refine those1_in F hF Ba Bt _ _ _ _ _ (fun x => !hasB l x) w2 X T2 hT2 (fun k hk => Nat.lt_of_lt_of_le (hX k hk) kp2.size) ha hb (fun _ _ => rfl) (fun _ _ => rfl)
    (all1_in F hF Bs f t hf ht w2 hs2 X T2 (hT2 _ (.inr (.inr rfl)))) (fun W => Blk W (w.heap.size + 1) #[hasF next A n c] 74 ∧ Rd W A n c (hvCells l)) ?_ ⟨B02, hrd.kp kp2 (fun _ _ _ h => h)⟩ ?_
  · rintro W W' ⟨h1, h2⟩ hq
    exact ⟨hq.blk h1 (hT2 _ (.inl rfl)), h2.kp hq (fun ad ha hne q => q.1 (hXA ad ha hne))⟩
  · rintro x W ⟨h1, h2⟩ hx
    exact missing1_any W next A n c l hl h2 _ x h1

/-- Whether both fit: 0, or why not. -/
def fits (next : Nat) (l : List Hv) (last : Nat) : Int :=
  if may next l = false then 1 else if next ≤ last then 5 else if (spanL (last + 1) next).filter (fun x => !hasB l x) = [] then 0 else 6

set_option maxRecDepth 100000 in
set_option maxHeartbeats 2000000 in
theorem fits_any (w : World) (next : Nat) (hn1 : next < 4294967296) (A : Option Addr) (n c : Nat) (l : List Hv) (hl : l.length = n) (hrd : Rd w A n c (hvCells l)) (hlow : ∀ ad, A = some ad → hvCells l ≠ [] → ad.block < w.heap.size) (hok : ∀ h ∈ l, h.ok) (last : Nat) (hl1 : last < 4294967296) :
    Calls Try.prog 14 #[.agg #[.int .u32 next, .slice A n c], .int .u32 last] w fun e w' => e = .returned (.int .i64 (fits next l last)) ∧ Kp w w' (fun _ => False) := by
  have hk0 := ((Kp.refl w (fun _ => False)).alloc (.cells #[.int .u32 next, .slice A n c] 26)).alloc (.cells #[.int .i64 0] 37)
  have hbx := (Blk.new w #[.int .u32 next, .slice A n c] 26).alloc (.cells #[.int .i64 0] 37)
  have hbe := Blk.new (w.alloc (.cells #[.int .u32 next, .slice A n c] 26)) #[.int .i64 0] 37
  rw [World.size_alloc] at hbe
  have hm := V.mk (may_any _ next (by omega) (by omega) A n c l hl (hrd.kp hk0 (fun _ _ _ h => h)) hok)
  have q0 := hbx.cell' 0 rfl
  have q1 := hbx.cell' 1 rfl
  refine calls_of_wp_marks Try.func14 rfl ?_
  simp only [Try.ntmps14, List.size_toArray, List.length_cons, List.length_nil, Nat.reduceAdd, Nat.reduceSub, Array.replicate_succ, Array.replicate_zero, List.push_toArray, List.append_toArray, List.nil_append, List.cons_append]
  go_wp2_with fail
  refine hm.out.mono ?_
  rintro e w1 ⟨rfl, hk1⟩
  have kp1 := hk0.quiet hk1
  have hb1 := Blk.kp hbx hk1 (fun h => h)
  have he1 := Blk.kp hbe hk1 (fun h => h)
  clear hbx hbe hk1 hm q0 q1 hk0
  have s0 := he1.cell' 0 rfl
  have s1 := he1.free 0
  by_cases hmay : may next l = true
  · have hmV := V.mk hmay
    rw [hmay]
    clear hmay
    have q0 := hb1.cell' 0 rfl
    have q1 := hb1.cell' 1 rfl
    by_cases hge : next ≤ last
    · have e1 : V (fits next l last = 5) := ⟨by unfold fits; rw [hmV.out, if_neg (by simp), if_pos hge]⟩
      have hs := (he1.set 0 (.int .i64 5)).cell' 0 rfl
      have kp2 := kp1.set (w.heap.size + 1) 0 (.int .i64 5) (.inr (by omega))
      have hge' : decide ((last : Int) ≥ (next : Int)) = true := by simpa using hge
      go_wp2
      exact marks_ret0 (v := .int .i64 5) (by simp [results, Try.results14, go_sem, hs]) ⟨ret_int e1.out.symm, kp2⟩
    · have hge' : decide ((last : Int) ≥ (next : Int)) = false := by simpa using hge
      go_wp2
      go_region_held3 (fun W => W.cell? ⟨w.heap.size, 0, none⟩ = some (.int .u32 next) ∧ W.cell? ⟨w.heap.size, 1, none⟩ = some (.slice A n c)) (exact ⟨by assumption, by assumption⟩)
        ((first | (go_at_call 42; refine (missing_any _ (last + 1) next (by omega) (by omega) next A n c l hl (hrd.kp kp2 (fun _ _ _ h => h)) (fun k => k < w.heap.size) TB (fun _ h => h) (fun k hk => Nat.lt_of_lt_of_le hk kp2.size) hlow).mono ?_; rintro e w3 ⟨g, lb, rfl, heg, hk3, hseq⟩; have q03 := (Blk.kp (Blk.kp hb1 (Kp.of_drew hk2) (fun h => h)) hk3 (fun h => h)).cell' 0 rfl; have q13 := (Blk.kp (Blk.kp hb1 (Kp.of_drew hk2) (fun h => h)) hk3 (fun h => h)).cell' 1 rfl) | (go_at_call 37; refine (above_any _ next last (by omega) A n c).mono ?_; rintro e w2 ⟨rfl, hk2⟩; have kp2 := kp1.quiet (Kp.of_drew hk2); have q02 := (Blk.kp hb1 (Kp.of_drew hk2) (fun h => h)).cell' 0 rfl; have q12 := (Blk.kp hb1 (Kp.of_drew hk2) (fun h => h)).cell' 1 rfl) | fail "no arm fits"))
      all_goals
        have kp3 := kp2.quiet hk3
        have he3 := Blk.kp (Blk.kp he1 (Kp.of_drew hk2) (fun h => h)) hk3 (fun h => h)
        have hlt := he1.lt
        have hsz := kp1.size
        have hsz3 := (Kp.quiet (Kp.of_drew hk2) hk3).size
        clear q0 q1 q02 q12 q03 q13 hk2 hk3 s0 s1 he1 hb1
        go_wp2_with fail
        refine range_wp0 (gf := g) (lb := lb) rfl heg (fun x => #[.int .u32 x]) hseq (fun k hk => by omega) (fun _ h => h.elim) (Below.refl _ _) (fun _ => rfl)
          (fun pre W => pre = [] ∧ Blk W (w.heap.size + 1) #[.int .i64 0] 37 ∧ Kp w W (fun _ => False))
          (fun c pre W => c = .ret ∧ pre ≠ [] ∧ Blk W (w.heap.size + 1) #[.int .i64 6] 37 ∧ Kp w W (fun _ => False)) ?_ ?_ ⟨rfl, he3, kp3⟩ ?body ?done ?stop
        · rintro s Y Z ⟨p1, p2, p3⟩ ht
          exact ⟨p1, ht.blk p2 (fun h => h), p3.turn ht (by omega)⟩
        · rintro c s Y Z ⟨p0, p1, p2, p3⟩ ht
          exact ⟨p0, p1, ht.blk p2 (fun h => h), p3.turn ht (by omega)⟩
        case body =>
          rintro F l' pre x W hF hde hl' _ ⟨rfl, hb, hk⟩ hpx
          have s0 := hb.cell' 0 rfl
          have s1 := hb.free 0
          have hb2 := hb.set 0 (.int .i64 6)
          have kp2 := hk.set (w.heap.size + 1) 0 (.int .i64 6) (.inr (by omega))
          have km : Keepm w3.heap.size W (W.setCell ⟨w.heap.size + 1, 0, none⟩ (.int .i64 6)) := Keepm.of_kp ((Kp.refl W (fun k => k = w.heap.size + 1)).set _ _ _ (.inl rfl)) (fun k hk => .inl (by omega))
          gi_wp2
          exact ⟨km, rfl, by simp, hb2, kp2⟩
        case done =>
          rintro D W hD ⟨hnil, hb, hk⟩ hK
          have e1 : V (fits next l last = 0) := ⟨by unfold fits; rw [hmV.out, if_neg (by simp), if_neg hge, if_pos hnil]⟩
          clear hnil
          have s0 := hb.cell' 0 rfl
          have s1 := hb.free 0
          have hs := ((hb.set 0 (.int .i64 0)).putObj (D := D) (.deferred none) (by omega)).cell' 0 rfl
          have kp4 := (hk.set (w.heap.size + 1) 0 (.int .i64 0) (.inr (by omega))).putObj (D := D) (.deferred none) (by omega)
          have hK' := deferred_set hK (p := ⟨w.heap.size + 1, 0, none⟩) (by simp only; omega) (.int .i64 0)
          go_wp2
          exact marks_ret hK' ⟨.int .i64 0, by simp [results, Try.results14, go_sem, hs], ret_int e1.out.symm, kp4⟩
        case stop =>
          rintro D c pre W hD hpre ⟨rfl, hne, hb, hk⟩ hK
          have e1 : V (fits next l last = 6) := ⟨by unfold fits; rw [hmV.out, if_neg (by simp), if_neg hge, if_neg (by rintro h; rw [h] at hpre; exact hne (List.prefix_nil.1 hpre))]⟩
          have hs := (hb.putObj (D := D) (.deferred none) (by omega)).cell' 0 rfl
          have kp4 := hk.putObj (D := D) (.deferred none) (by omega)
          go_wp2
          exact marks_ret hK ⟨.int .i64 6, by simp [results, Try.results14, go_sem, hs], ret_int e1.out.symm, kp4⟩
  · have hmay' : may next l = false := by simpa using hmay
    have e1 : V (fits next l last = 1) := ⟨by unfold fits; rw [if_pos hmay']⟩
    rw [hmay']
    clear hmay hmay'
    have hs := (he1.set 0 (.int .i64 1)).cell' 0 rfl
    have kp2 := kp1.set (w.heap.size + 1) 0 (.int .i64 1) (.inr (by omega))
    go_wp2
    exact marks_ret0 (v := .int .i64 1) (by simp [results, Try.results14, go_sem, hs]) ⟨ret_int e1.out.symm, kp2⟩

end Go.Proofs.Ytboambncimdfjaa
