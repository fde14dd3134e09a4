/- The program's disk (layer 14): what each of its functions does, in the model's words. Condition: the disk is one (its fields in a block, its bytes in a row of their own). -/
import Derived.Test.YtkameiopahcacaaDoorBy
import Derived.Test.YtkameiopahcacaaDoorDskM
set_option linter.unusedVariables false
set_option linter.unusedSimpArgs false
set_option maxRecDepth 100000
namespace Go.Proofs.YtkameiopahcacaaDoor
open Go.RowKit

/-- The disk d stands at block g, its bytes in the row r. -/
def IsDisk (w : World) (g : Nat) (r : Option Nat) (d : Dsk) : Prop :=
  ∃ A c, Blk w g #[.bool true, .int .i64 d.cap, .slice A d.b.length c, .int .i64 d.puts, .bool d.st, .bool d.is, .int .i64 d.p, .int .i64 d.n] 79 ∧
    Row w 5 1 A d.b.length c (B8 d.b) r

section
variable {w w1 : World} {g : Nat} {r : Option Nat} {d : Dsk} {S : Nat → Prop}
theorem IsDisk.kp (h : IsDisk w g r d) (hk : Kp w w1 S) (h1 : ¬ S g) (h2 : ∀ k, r = some k → ¬ S k) : IsDisk w1 g r d := by
  obtain ⟨A, c, hb, hr⟩ := h
  exact ⟨A, c, hb.kp hk h1, hr.kp hk h2⟩
theorem IsDisk.alloc (h : IsDisk w g r d) (o : Obj) : IsDisk (w.alloc o) g r d := h.kp (S := fun _ => False) ((Kp.refl _ _).alloc o) (fun h => h) (fun _ _ h => h)
theorem IsDisk.ne (h : IsDisk w g r d) : r ≠ some g := by
  obtain ⟨A, c, hb, hr⟩ := h
  exact hr.ne_type hb (by decide)
theorem IsDisk.lt (h : IsDisk w g r d) : g < w.heap.size := by
  obtain ⟨A, c, hb, hr⟩ := h
  exact hb.lt
theorem IsDisk.rlt (h : IsDisk w g r d) {k : Nat} (hk : r = some k) : k < w.heap.size := by
  obtain ⟨A, c, hb, hr⟩ := h
  exact hr.lt hk
theorem IsDisk.cells (h : IsDisk w g r d) : ∃ A c, w.cell? ⟨g, 0, none⟩ = some (.bool true) ∧ w.cell? ⟨g, 1, none⟩ = some (.int .i64 d.cap) ∧ w.cell? ⟨g, 2, none⟩ = some (.slice A d.b.length c) ∧
    w.cell? ⟨g, 3, none⟩ = some (.int .i64 d.puts) ∧ w.cell? ⟨g, 4, none⟩ = some (.bool d.st) ∧ w.cell? ⟨g, 5, none⟩ = some (.bool d.is) ∧ w.cell? ⟨g, 6, none⟩ = some (.int .i64 d.p) ∧ w.cell? ⟨g, 7, none⟩ = some (.int .i64 d.n) ∧
    (∀ j, w.frozen? ⟨g, j, none⟩ = false) ∧ Blk w g #[.bool true, .int .i64 d.cap, .slice A d.b.length c, .int .i64 d.puts, .bool d.st, .bool d.is, .int .i64 d.p, .int .i64 d.n] 79 ∧
    Row w 5 1 A d.b.length c (B8 d.b) r := by
  obtain ⟨A, c, hb, hr⟩ := h
  exact ⟨A, c, hb.cell' 0 rfl, hb.cell' 1 rfl, hb.cell' 2 rfl, hb.cell' 3 rfl, hb.cell' 4 rfl, hb.cell' 5 rfl, hb.cell' 6 rfl, hb.cell' 7 rfl, hb.free, hb, hr⟩
end

theorem none_is (w : World) (g : Nat) (r : Option Nat) (d : Dsk) (h : IsDisk w g r d) :
    Calls Tryd.prog 38 #[.pointer (some ⟨g, 0, none⟩)] w fun e w' => e = .returned (.bool false) ∧ w = w' := by
  obtain ⟨A, c, h0, -⟩ := h.cells
  go_enter Tryd.func38, Tryd.ntmps38
  go_wp2
  go_ret
  exact ⟨rfl, rfl⟩

theorem none_nil (w : World) :
    Calls Tryd.prog 38 #[.pointer none] w fun e w' => e = .returned (.bool true) ∧ w = w' := by
  go_enter Tryd.func38, Tryd.ntmps38
  go_wp2
  go_ret
  exact ⟨rfl, rfl⟩

theorem lay_list1 (b x : List Int) (at_ n : Nat) (hx : x.length = n) (h1 : at_ ≤ b.length) (h2 : b.length < at_ + n) :
    (B8 b ++ List.replicate (at_ + n - b.length) (Value.int .u8 0)).take at_ ++ ((B8 x).take n ++ (B8 b ++ List.replicate (at_ + n - b.length) (Value.int .u8 0)).drop (at_ + n)) = B8 (layB b at_ x) := by
  have e1 : (B8 b ++ List.replicate (at_ + n - b.length) (Value.int .u8 0)).take at_ = B8 (b.take at_) := by
    rw [List.take_append_of_le_length (by simpa using h1), B8_take]
  have e2 : (B8 x).take n = B8 x := List.take_of_length_le (by simp [hx])
  have e3 : (B8 b ++ List.replicate (at_ + n - b.length) (Value.int .u8 0)).drop (at_ + n) = [] := List.drop_eq_nil_of_le (by simp; omega)
  have e4 : b.drop (at_ + x.length) = [] := List.drop_eq_nil_of_le (by omega)
  rw [e1, e2, e3, layB, e4, B8_append, B8_append]
  rfl

theorem lay_list2 (b x : List Int) (at_ n : Nat) (hx : x.length = n) (h1 : at_ + n ≤ b.length) :
    (B8 b).take at_ ++ ((B8 x).take (b.length - at_) ++ (B8 b).drop (at_ + Nat.min n (b.length - at_))) = B8 (layB b at_ x) := by
  have hm : Nat.min n (b.length - at_) = n := by show min n _ = n; omega
  have e2 : (B8 x).take (b.length - at_) = B8 x := List.take_of_length_le (by simp; omega)
  rw [hm, e2, layB, B8_append, B8_append, B8_take, B8_drop, hx]

theorem lay_post {w w1 w2 : World} {g : Nat} {r r1 : Option Nat} {d : Dsk} {at_ n : Nat} {x : List Int} {A0 A1 : Option Addr} {c0 c1 : Nat} {ys : List Value} (hne : r ≠ some g)
    (HB : Blk w g #[.bool true, .int .i64 d.cap, .slice A0 d.b.length c0, .int .i64 d.puts, .bool d.st, .bool d.is, .int .i64 d.p, .int .i64 d.n] 79)
    (hx : x.length = n) (h1 : at_ ≤ d.b.length) (hkp1 : Kp w w1 (fun k => r = some k)) (hfr1 : Fr w r r1)
    (hkp2 : Kp (w1.setCell ⟨g, 2, none⟩ (.slice A1 (at_ + n) c1)) w2 (fun k => r1 = some k)) (hrow2 : Row w2 5 1 A1 (at_ + n) c1 ys r1)
    (hN : d.b.length ≤ at_ + n) (hys : ys = B8 (layB d.b at_ x)) :
    ∃ r', IsDisk w2 g r' { d with b := layB d.b at_ x } ∧ Kp w w2 (fun k => k = g ∨ r = some k) ∧ Fr w r r' := by
  subst hys
  have hb1 := HB.kp hkp1 hne
  have hg1 : r1 ≠ some g := by
    intro e
    rcases hfr1.of_lt e with h | h
    · exact hne h
    · have := HB.lt; omega
  have hl : (layB d.b at_ x).length = at_ + n := by rw [layB_length _ _ _ h1, hx]; omega
  refine ⟨r1, ⟨A1, c1, ?_, ?_⟩, ?_, hfr1⟩
  · have := (hb1.set 2 (.slice A1 (at_ + n) c1)).kp hkp2 hg1
    simpa [hl] using this
  · show Row w2 5 1 A1 (layB d.b at_ x).length c1 (B8 (layB d.b at_ x)) r1
    rw [hl]
    exact hrow2
  · refine Kp.trans (((hkp1.mono (S' := fun k => k = g ∨ r = some k) (fun k h => Or.inr h)).set g 2 _ (.inl (.inl rfl)))) hkp2 ?_
    intro k hk
    rcases hfr1.of_lt hk with h | h
    · exact .inl (.inr h)
    · exact .inr h

theorem lay_post2 {w w2 : World} {g : Nat} {r : Option Nat} {d : Dsk} {at_ n : Nat} {x : List Int} {A0 : Option Addr} {c0 : Nat} {ys : List Value} (hne : r ≠ some g)
    (HB : Blk w g #[.bool true, .int .i64 d.cap, .slice A0 d.b.length c0, .int .i64 d.puts, .bool d.st, .bool d.is, .int .i64 d.p, .int .i64 d.n] 79)
    (hx : x.length = n) (h1 : at_ ≤ d.b.length) (hkp2 : Kp w w2 (fun k => r = some k)) (hrow2 : Row w2 5 1 A0 d.b.length c0 ys r)
    (hN : at_ + n ≤ d.b.length) (hys : ys = B8 (layB d.b at_ x)) :
    ∃ r', IsDisk w2 g r' { d with b := layB d.b at_ x } ∧ Kp w w2 (fun k => k = g ∨ r = some k) ∧ Fr w r r' := by
  subst hys
  have hl : (layB d.b at_ x).length = d.b.length := by rw [layB_length _ _ _ h1, hx]; omega
  refine ⟨r, ⟨A0, c0, ?_, ?_⟩, hkp2.mono (fun k h => .inr h), .inl rfl⟩
  · simpa [hl] using HB.kp hkp2 hne
  · show Row w2 5 1 A0 (layB d.b at_ x).length c0 (B8 (layB d.b at_ x)) r
    rw [hl]
    exact hrow2

set_option maxHeartbeats 400000 in
theorem lay_any (w : World) (g : Nat) (r : Option Nat) (d : Dsk) (h : IsDisk w g r d) (at_ : Nat) (A : Option Addr) (n c : Nat) (x : List Int) (hx : x.length = n) (hrd : Rd w A n c (B8 x))
    (haw : ∀ ad, A = some ad → x ≠ [] → ad.block ≠ g ∧ r ≠ some ad.block) (h1 : at_ ≤ d.b.length) (h2 : at_ + n ≤ 1048576) (h3 : d.b.length ≤ 1048576) :
    Calls Tryd.prog 55 #[.pointer (some ⟨g, 0, none⟩), .int .i64 at_, .slice A n c] w fun e w' => e = .returned (.tuple #[]) ∧
      ∃ r', IsDisk w' g r' { d with b := layB d.b at_ x } ∧ Kp w w' (fun k => k = g ∨ r = some k) ∧ Fr w r r' := by
  have hne := h.ne
  obtain ⟨i0, hi, hz0, hz1, hz2⟩ := info_parts i_byte
  obtain ⟨A0, c0, k0, k1, k2, k3, k4, k5, k6, k7, kf, HB, hrow⟩ := h.cells
  by_cases hm : d.b.length < at_ + n
  · go_enter Tryd.func55, Tryd.ntmps55
    go_wp2_with (at_builtin; refine wpList_app_zeros rfl (.tmp 23) (.tmp 24) 38 3 rfl 5 i0 (.int .u8 0) 1 .i64 .i64 u_bytes u_int hi hz0 hz1 hz2 rfl rfl A0 d.b.length c0 (B8 d.b) r rfl hrow _ (at_ + n - d.b.length) rfl (by omega) (by omega) (at_ + n) (by omega) (by omega) (by simp only [maxLen]; omega) ?_)
    intro A1 c1 r1 w1 hrow1 hkp1 hfr1
    have hb1 := HB.kp hkp1 hne
    have q2 := hb1.cell' 2 rfl
    have qf := hb1.free
    clear k0 k1 k2 k3 k4 k5 k6 k7 kf
    have hrdA : Rd (w1.setCell ⟨g, 2, none⟩ (.slice A1 (at_ + n) c1)) A n c (B8 x) :=
      hrd.kp (S := fun k => k = g ∨ r = some k) ((hkp1.mono (S' := fun k => k = g ∨ r = some k) (fun k h => Or.inr h)).set g 2 _ (.inl (.inl rfl))) (fun ad ha hx0 => by
        have := haw ad ha (by rintro rfl; exact hx0 rfl)
        rintro (h | h)
        · exact this.1 h
        · exact this.2 h)
    have hrowA : Row (w1.setCell ⟨g, 2, none⟩ (.slice A1 (at_ + n) c1)) 5 1 A1 (at_ + n) c1 _ r1 := hrow1.far (hrow1.ne_type hb1 (by decide)) _
    go_wp2_with ((with_reducible show wpList _ _ _ (⟨some 35, _, _, _, _, _⟩ :: _) _ _); refine wpList_cpy_at rfl (.tmp 33) (.tmp 34) 38 38 rfl 5 u_bytes (by rw [hi]; simp [hz1]) A n _ n c rfl A1 (at_ + n) c1 _ r1 hrowA at_ rfl (by omega) (B8 x) hrdA (by simp [hx]) (B8_one x) ?_)
    all_goals (intro w2 hrow2 hkp2; go_wp2; go_end0; exact ⟨rfl, lay_post hne HB hx h1 hkp1 hfr1 hkp2 hrow2 (by omega) (by simpa using lay_list1 d.b x at_ n hx h1 hm)⟩)
  · have h4 : at_ + n ≤ d.b.length := by omega
    have hw0 : ¬ (0 : Int) < (at_ : Int) + n - d.b.length := by omega
    go_enter Tryd.func55, Tryd.ntmps55
    go_wp2_with ((with_reducible show wpList _ _ _ (⟨some 35, _, _, _, _, _⟩ :: _) _ _); (refine wpList_cpy_at rfl (.tmp 33) (.tmp 34) 38 38 rfl 5 u_bytes (by rw [hi]; simp [hz1]) A (d.b.length - at_) (c0 - at_) n c (by rfl) A0 d.b.length c0 _ r hrow at_ (by rfl) (by omega) (B8 x) hrd (by simp [hx]) (B8_one x) ?_))
    all_goals (intro w2 hrow2 hkp2; go_wp2; go_end0; first | exact ⟨rfl, lay_post2 hne HB hx h1 hkp2 hrow2 h4 (lay_list2 d.b x at_ n hx h4)⟩ | (obtain rfl : c0 = at_ := (by assumption); exact ⟨rfl, lay_post2 hne HB hx h1 hkp2 hrow2 h4 (lay_list2 d.b x _ n hx h4)⟩))

section
variable {w w1 : World} {g : Nat} {r : Option Nat} {d : Dsk}
theorem IsDisk.set_puts (h : IsDisk w g r d) (x : Int) : IsDisk (w.setCell ⟨g, 3, none⟩ (.int .i64 x)) g r { d with puts := x } := by
  obtain ⟨A, c, hb, hr⟩ := h
  exact ⟨A, c, by simpa using hb.set 3 (.int .i64 x), hr.far (hr.ne_type hb (by decide)) _⟩
theorem IsDisk.set_st (h : IsDisk w g r d) (x : Bool) : IsDisk (w.setCell ⟨g, 4, none⟩ (.bool x)) g r { d with st := x } := by
  obtain ⟨A, c, hb, hr⟩ := h
  exact ⟨A, c, by simpa using hb.set 4 (.bool x), hr.far (hr.ne_type hb (by decide)) _⟩
theorem IsDisk.set_is (h : IsDisk w g r d) (x : Bool) : IsDisk (w.setCell ⟨g, 5, none⟩ (.bool x)) g r { d with is := x } := by
  obtain ⟨A, c, hb, hr⟩ := h
  exact ⟨A, c, by simpa using hb.set 5 (.bool x), hr.far (hr.ne_type hb (by decide)) _⟩
theorem IsDisk.set_p (h : IsDisk w g r d) (x : Int) : IsDisk (w.setCell ⟨g, 6, none⟩ (.int .i64 x)) g r { d with p := x } := by
  obtain ⟨A, c, hb, hr⟩ := h
  exact ⟨A, c, by simpa using hb.set 6 (.int .i64 x), hr.far (hr.ne_type hb (by decide)) _⟩
theorem IsDisk.set_n (h : IsDisk w g r d) (x : Int) : IsDisk (w.setCell ⟨g, 7, none⟩ (.int .i64 x)) g r { d with n := x } := by
  obtain ⟨A, c, hb, hr⟩ := h
  exact ⟨A, c, by simpa using hb.set 7 (.int .i64 x), hr.far (hr.ne_type hb (by decide)) _⟩
end

/-- What a call of the disk's leaves. -/
def DPost (w : World) (g : Nat) (r : Option Nat) (res : Int × Dsk) (e : Ending) (w' : World) : Prop :=
  e = .returned (.int .i64 res.1) ∧ ∃ r', IsDisk w' g r' res.2 ∧ Kp w w' (fun k => k = g ∨ r = some k) ∧ Fr w r r'

theorem DPost.same {w : World} {g : Nat} {r : Option Nat} {d : Dsk} (h : IsDisk w g r d) (x : Int) : DPost w g r (x, d) (.returned (.int .i64 x)) w :=
  ⟨rfl, r, h, Kp.refl _ _, .inl rfl⟩

theorem wr64_eq (x : Int) : wrap64 x = wr64 x := by unfold wrap64 wr64; rfl



end Go.Proofs.YtkameiopahcacaaDoor
