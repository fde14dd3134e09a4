/- scribe.Writer: what it lays. Condition: the writer is one (its fields in a block, its bytes in a row of their own; no error so far). -/
import Derived.Test.YtkameiopahcacaaDoorBy
set_option linter.unusedVariables false
set_option linter.unusedSimpArgs false
set_option maxRecDepth 100000
namespace Go.Proofs.YtkameiopahcacaaDoor
open Go.RowKit

def be2 (n : Int) : List Int := [n / 256, n % 256]
def be4 (n : Int) : List Int := be2 (n / 65536) ++ be2 (n % 65536)

/-- A writer at block g that has laid bs (its row r), without an error. -/
def IsWr (w : World) (g : Nat) (r : Option Nat) (bs : List Int) : Prop :=
  ∃ A c, Blk w g #[.slice A bs.length c, .int .i64 0] 93 ∧ Row w 5 1 A bs.length c (B8 bs) r
def WrPost (w : World) (g : Nat) (r : Option Nat) (bs : List Int) (e : Ending) (w' : World) : Prop :=
  ∃ r', e = .returned (.pointer (some ⟨g, 0, none⟩)) ∧ IsWr w' g r' bs ∧ Kp w w' (fun k => k = g ∨ r = some k) ∧ Fr w r r'
theorem IsWr.kp {w w1 : World} {g : Nat} {r : Option Nat} {bs : List Int} {S : Nat → Prop} (h : IsWr w g r bs) (hk : Kp w w1 S) (h1 : ¬ S g) (h2 : ∀ k, r = some k → ¬ S k) : IsWr w1 g r bs := by
  obtain ⟨A, c, hb, hr⟩ := h
  exact ⟨A, c, hb.kp hk h1, hr.kp hk h2⟩
theorem IsWr.alloc {w : World} {g : Nat} {r : Option Nat} {bs : List Int} (h : IsWr w g r bs) (o : Obj) : IsWr (w.alloc o) g r bs := h.kp (S := fun _ => False) ((Kp.refl _ _).alloc o) (fun h => h) (fun _ _ h => h)
theorem IsWr.lt {w : World} {g : Nat} {r : Option Nat} {bs : List Int} (h : IsWr w g r bs) : g < w.heap.size := by
  obtain ⟨A, c, hb, hr⟩ := h
  exact hb.lt
theorem IsWr.new (w : World) : IsWr (w.alloc (.cells #[.slice none 0 0, .int .i64 0] 93)) w.heap.size none [] := ⟨none, 0, Blk.new _ _ _, Row.nil _ _ _⟩

theorem WrPost.alloc {w : World} {o : Obj} {g : Nat} {r : Option Nat} {bs : List Int} {e : Ending} {w' : World} (hr : ∀ k, r = some k → k < w.heap.size) (h : WrPost (w.alloc o) g r bs e w') : WrPost w g r bs e w' := by
  obtain ⟨r', he, hw, hk, hf⟩ := h
  refine ⟨r', he, hw, ((Kp.refl w (fun k => k = g ∨ r = some k)).alloc o).trans hk (fun k h => .inl h), ?_⟩
  rcases hf with rfl | ⟨k, rfl, hk2⟩
  · exact .inl rfl
  · exact .inr ⟨k, rfl, by rw [World.size_alloc] at hk2; omega⟩
theorem WrPost.step {w w1 w' : World} {g : Nat} {r r1 : Option Nat} {bs : List Int} {e : Ending} (hk : Kp w w1 (fun k => k = g ∨ r = some k)) (hf : Fr w r r1) (h : WrPost w1 g r1 bs e w') : WrPost w g r bs e w' := by
  obtain ⟨r', he, hw, hk2, hf2⟩ := h
  refine ⟨r', he, hw, hk.trans hk2 ?_, hf.trans hk.size hf2⟩
  rintro k (rfl | h)
  · exact .inl (.inl rfl)
  · rcases hf.of_lt h with h | h
    · exact .inl (.inr h)
    · exact .inr h
theorem IsWr.rlt {w : World} {g : Nat} {r : Option Nat} {bs : List Int} (h : IsWr w g r bs) {k : Nat} (hk : r = some k) : k < w.heap.size := by
  obtain ⟨A, c, hb, hr⟩ := h
  exact hr.lt hk

set_option maxHeartbeats 1000000 in
theorem wbyte_any (w : World) (g : Nat) (r : Option Nat) (bs : List Int) (h : IsWr w g r bs) (A : Option Addr) (n c : Nat) (x : List Int) (hx : x.length = n) (hrd : Rd w A n c (B8 x)) (hmax : bs.length + n ≤ 1000000000) :
    Calls Tryd.prog 53 #[.pointer (some ⟨g, 0, none⟩), .slice A n c] w (WrPost w g r (bs ++ x)) := by
  obtain ⟨i0, hi, hz0, hz1, hz2⟩ := info_parts i_byte
  obtain ⟨A0, c0, hb, hrow⟩ := h
  have k0 := hb.cell' 0 rfl
  have k1 := hb.cell' 1 rfl
  have f0 := hb.free 0
  have hxV := V.mk hx
  clear hx
  go_enter Tryd.func53, Tryd.ntmps53
  go_wp2_with (at_builtin; refine wpList_app (by rfl) (.tmp 18) (.tmp 19) 38 rfl 5 i0 (.int .u8 0) 1 1 u_bytes hi hz0 hz1 hz2 rfl (by decide) A0 bs.length c0 _ r (by rfl) hrow A n c (B8 x) (by rfl) hrd (by simp [hxV.out]) (B8_one x) (bs.length + n) rfl (by omega) (by simp only [maxLen]; omega) ?_)
  intro A1 c1 r1 w1 hrow1 hkp1 hfr1 _
  have hne : r ≠ some g := hrow.ne_type hb (by decide)
  have hb1 := Blk.kp hb hkp1 hne
  have hne1 : r1 ≠ some g := hrow1.ne_type hb1 (by decide)
  have s0 := hb1.cell' 0 rfl
  have s1 := hb1.free 0
  have hb2 := hb1.set 0 (.slice A1 (bs.length + n) c1)
  have hr2 := hrow1.far (p := ⟨g, 0, none⟩) hne1 (.slice A1 (bs.length + n) c1)
  have hk2 : Kp w (w1.setCell ⟨g, 0, none⟩ (.slice A1 (bs.length + n) c1)) (fun k => k = g ∨ r = some k) := (hkp1.mono (fun k hk => .inr hk)).set _ _ _ (.inl (.inl rfl))
  have hl : V ((bs ++ x).length = bs.length + n) := ⟨by rw [List.length_append, hxV.out]⟩
  rw [← B8_append] at hr2
  clear hrow1 hkp1 hrow
  go_wp2
  go_ret
  exact ⟨r1, rfl, ⟨A1, c1, by rw [hl.out]; exact hb2, by rw [hl.out]; exact hr2⟩, hk2, hfr1⟩

set_option maxHeartbeats 1000000 in
theorem wtwo_any (w : World) (g : Nat) (r : Option Nat) (bs : List Int) (h : IsWr w g r bs) (n : Int) (h0 : 0 ≤ n) (h1 : n < 65536) (hmax : bs.length ≤ 900000000) :
    Calls Tryd.prog 52 #[.pointer (some ⟨g, 0, none⟩), .int .u16 n] w (WrPost w g r (bs ++ be2 n)) := by
  have hc := V.mk (wbyte_any _ g r bs (h.alloc (.cells #[.int .u8 (n / 256), .int .u8 (n % 256)] 5)) _ 2 2 (be2 n) rfl (Rd.lit w 5 (0, 0) 2 [.int .u8 (n / 256), .int .u8 (n % 256)] (by simp [maxLen])) (by omega))
  go_enter Tryd.func52, Tryd.ntmps52
  go_wp2_with fail
  refine hc.out.mono ?_
  intro e w1 hp
  have hp2 := hp.alloc (fun k hk => h.rlt hk)
  obtain ⟨r', rfl, hw, hk, hf⟩ := hp2
  clear hp
  go_wp2
  go_ret
  exact ⟨r', rfl, hw, hk, hf⟩

set_option maxHeartbeats 1000000 in
theorem wfour_any (w : World) (g : Nat) (r : Option Nat) (bs : List Int) (h : IsWr w g r bs) (n : Int) (h0 : 0 ≤ n) (h1 : n < 4294967296) (hmax : bs.length ≤ 800000000) :
    Calls Tryd.prog 51 #[.pointer (some ⟨g, 0, none⟩), .int .u32 n] w (WrPost w g r (bs ++ be4 n)) := by
  have hc := V.mk (wtwo_any w g r bs h (n / 65536) (by omega) (by omega) (by omega))
  go_enter Tryd.func51, Tryd.ntmps51
  go_wp2_with fail
  refine hc.out.mono ?_
  rintro e w1 ⟨r1, rfl, hw1, hk1, hf1⟩
  have hc2 := V.mk (wtwo_any w1 g r1 _ hw1 (n % 65536) (by omega) (by omega) (by simp [be2]; omega))
  go_wp2_with fail
  refine hc2.out.mono ?_
  intro e w2 hp
  obtain ⟨r', rfl, hw, hk, hf⟩ := hp.step hk1 hf1
  clear hp
  go_wp2
  go_ret
  exact ⟨r', rfl, by simpa [be4] using hw, hk, hf⟩

/-- What was laid is handed back, in new memory; no error. -/
def DonePost (w : World) (g : Nat) (r : Option Nat) (bs : List Int) (e : Ending) (w' : World) : Prop :=
  ∃ A c r', e = .returned (.tuple #[.slice A bs.length c, .int .i64 0]) ∧ Row w' 5 1 A bs.length c (B8 bs) r' ∧ New w r' ∧ Kp w w' (fun k => k = g ∨ r = some k)

set_option maxHeartbeats 1000000 in
theorem wdone_any (w : World) (g : Nat) (r : Option Nat) (bs : List Int) (h : IsWr w g r bs) (hmax : bs.length ≤ 1048576) :
    Calls Tryd.prog 54 #[.pointer (some ⟨g, 0, none⟩)] w (DonePost w g r bs) := by
  have hc := V.mk (wbyte_any w g r bs h none 0 0 [] rfl (Rd.nil w) (by omega))
  rw [List.append_nil] at hc
  go_enter Tryd.func54, Tryd.ntmps54
  go_wp2_with fail
  refine hc.out.mono ?_
  rintro e w1 ⟨r1, rfl, ⟨A, c, hb, hrow⟩, hk1, hf1⟩
  have k0 := hb.cell' 0 rfl
  have k1 := hb.cell' 1 rfl
  have hcl := V.mk (clone_any w1 A bs.length c bs rfl hrow.rd hmax)
  go_wp2_with fail
  refine hcl.out.mono ?_
  rintro e w2 ⟨A2, c2, r2, rfl, hrow2, hn2, hk2⟩
  go_wp2
  go_ret2
  exact ⟨A2, c2, r2, rfl, hrow2, fun k hk => Nat.le_trans hk1.size (hn2 k hk), hk1.trans hk2 (fun _ h => h.elim)⟩

end Go.Proofs.YtkameiopahcacaaDoor
