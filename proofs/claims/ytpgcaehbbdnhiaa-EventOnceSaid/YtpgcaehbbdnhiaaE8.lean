/- The great region of EventOnce, walked by itself. -/
import Derived.Test.YtpgcaehbbdnhiaaEC
import Derived.BigQuiet
namespace Go.Proofs.Ytpgcaehbbdnhiaa
open Go.RowKit
def regionOf (k : Nat) : Code → Option Code
  | .region j ops d => if j == k then some (.region j ops d) else none
  | .loop c => regionOf k c
  | .seq a b => match regionOf k a with
    | some c => some c
    | none => regionOf k b
  | .block _ c => regionOf k c
  | .scope c => regionOf k c
  | .cond _ a b => match regionOf k a with
    | some c => some c
    | none => regionOf k b
  | _ => none
noncomputable def reg10 : Code := ((Try.f6.body.bind (regionOf 10)).getD .skip)
set_option maxRecDepth 100000 in
set_option maxHeartbeats 4000000 in
theorem reg10_no (W : World) (Q : Exit → Act → World → Prop) (bA oA n ca wz gs gx i : Nat) (p cn cp t : Int) (kind : ByteArray) (bub β : Bool) {s0 s2 s3 s4 s6 s9 s11 s12 s13 s14 s15 s16 s17 s18 s19 s20 s21 s22 s23 s24 s25 s26 s27 s28 s29 s30 s31 s32 s33 s34 s35 s36 s37 s38 s39 s40 s41 s42 s43 s44 s45 s46 s47 s48 s49 s50 s51 s52 s53 s54 s55 s56 s57 s58 s59 s60 s61 s62 s63 s64 s65 s66 s67 s68 s69 s70 s71 s72 s73 s74 s75 s76 s77 s78 s79 s80 s81 s82 s83 s84 s85 s86 s87 s88 s89 s90 s91 s92 s93 s94 s95 s96 s97 s98 s99 s100 s101 s102 s103 s104 s105 s106 s107 s108 s109 s110 s111 : Value}
    (k0 : (0 : Int) ≤ (i : Int)) (k1 : (i : Int) < (n : Int)) (d1 : decide ((i : Int) < 0) = false) (d2' : decide (n ≤ i) = false) (d3 : decide (cp < p) = false) (d4 : decide ((3 : Int) < cp) = false)
    (hbe : (cn == t) = β) (h2 : (cp == 2) = β) (e3 : (cp == 3) = false)
    (x0 : W.cell? ⟨gx, 0, none⟩ = some (.int .i64 i)) (x1 : W.cell? ⟨gx, 1, none⟩ = some (.int .i64 cn)) (x2 : W.cell? ⟨gx, 2, none⟩ = some (.int .i64 cp))
    (sc : W.cell? ⟨gs, i, none⟩ = some (.bool false)) (y0 : W.cell? ⟨bA, oA + i * 4, none⟩ = some (.int .i64 cn)) (y1 : W.cell? ⟨bA, oA + i * 4 + 1, none⟩ = some (.string kind))
    (b0 : W.cell? ⟨wz, 0, none⟩ = some (.int .i64 t)) (b1 : W.cell? ⟨wz, 1, none⟩ = some (.string kind)) (_b2 : W.cell? ⟨wz, 2, none⟩ = some (.bool bub))
    (hK : ∀ (u34 u35 u36 u37 u38 u39 u40 u41 u42 u43 u44 u45 u46 u47 u48 u49 u50 u51 u52 u53 u54 u55 u56 u57 u58 u59 u60 u61 u62 u63 u64 u65 u66 u67 u68 u69 u70 u71 u72 u73 u74 u75 u76 u77 u78 u79 u80 u81 u82 u83 u84 u85 u86 u87 u88 u89 u90 u91 u92 u93 u94 u95 u96 u97 u98 u99 u100 u101 u102 u103 : Value) (nq : Nat), Q .normal ⟨#[s0, .slice (some ⟨bA, oA, none⟩) n ca, s2, s3, s4, .pointer (some ⟨wz, 0, none⟩), s6, .slice (some ⟨gs, 0, none⟩) n n, .int .i64 p, s9, .pointer (some ⟨gx, 0, none⟩), s11, s12, s13, s14, s15, s16, s17, s18, s19, s20, s21, s22, s23, s24, s25, s26, s27, s28, s29, s30, s31, s32, s33, u34, u35, u36, u37, u38, u39, u40, u41, u42, u43, u44, u45, u46, u47, u48, u49, u50, u51, u52, u53, u54, u55, u56, u57, u58, u59, u60, u61, u62, u63, u64, u65, u66, u67, u68, u69, u70, u71, u72, u73, u74, u75, u76, u77, u78, u79, u80, u81, u82, u83, u84, u85, u86, u87, u88, u89, u90, u91, u92, u93, u94, u95, u96, u97, u98, u99, u100, u101, u102, u103, .bool false, s105, s106, s107, s108, s109, s110, s111], []⟩ (W.drewN nq)) : Code.wp Try.prog reg10 Q ⟨#[s0, .slice (some ⟨bA, oA, none⟩) n ca, s2, s3, s4, .pointer (some ⟨wz, 0, none⟩), s6, .slice (some ⟨gs, 0, none⟩) n n, .int .i64 p, s9, .pointer (some ⟨gx, 0, none⟩), s11, s12, s13, s14, s15, s16, s17, s18, s19, s20, s21, s22, s23, s24, s25, s26, s27, s28, s29, s30, s31, s32, s33, s34, s35, s36, s37, s38, s39, s40, s41, s42, s43, s44, s45, s46, s47, s48, s49, s50, s51, s52, s53, s54, s55, s56, s57, s58, s59, s60, s61, s62, s63, s64, s65, s66, s67, s68, s69, s70, s71, s72, s73, s74, s75, s76, s77, s78, s79, s80, s81, s82, s83, s84, s85, s86, s87, s88, s89, s90, s91, s92, s93, s94, s95, s96, s97, s98, s99, s100, s101, s102, s103, s104, s105, s106, s107, s108, s109, s110, s111], []⟩ W := by
  conv => arg 2; whnf
  go_quiet (fail)
  exact hK _ _ _ _ _ _ _ _ _ _ _ _ _ _ _ _ _ _ _ _ _ _ _ _ _ _ _ _ _ _ _ _ _ _ _ _ _ _ _ _ _ _ _ _ _ _ _ _ _ _ _ _ _ _ _ _ _ _ _ _ _ _ _ _ _ _ _ _ _ _ _
set_option maxRecDepth 100000 in
set_option maxHeartbeats 4000000 in
theorem reg10_yes (W : World) (Q : Exit → Act → World → Prop) (bA oA n ca wz gs gx i : Nat) (p cn cp t : Int) (kind : ByteArray) (bub β : Bool) {s0 s2 s3 s4 s6 s9 s11 s12 s13 s14 s15 s16 s17 s18 s19 s20 s21 s22 s23 s24 s25 s26 s27 s28 s29 s30 s31 s32 s33 s34 s35 s36 s37 s38 s39 s40 s41 s42 s43 s44 s45 s46 s47 s48 s49 s50 s51 s52 s53 s54 s55 s56 s57 s58 s59 s60 s61 s62 s63 s64 s65 s66 s67 s68 s69 s70 s71 s72 s73 s74 s75 s76 s77 s78 s79 s80 s81 s82 s83 s84 s85 s86 s87 s88 s89 s90 s91 s92 s93 s94 s95 s96 s97 s98 s99 s100 s101 s102 s103 s104 s105 s106 s107 s108 s109 s110 s111 : Value}
    (k0 : (0 : Int) ≤ (i : Int)) (k1 : (i : Int) < (n : Int)) (d1 : decide ((i : Int) < 0) = false) (d2' : decide (n ≤ i) = false) (d3 : decide (cp < p) = false) (d4 : decide ((3 : Int) < cp) = false)
    (hbe : (cn == t) = β) (h2 : (cp == 2) = β) (e3 : (cp == 3) = true) (hb : bub = true)
    (x0 : W.cell? ⟨gx, 0, none⟩ = some (.int .i64 i)) (x1 : W.cell? ⟨gx, 1, none⟩ = some (.int .i64 cn)) (x2 : W.cell? ⟨gx, 2, none⟩ = some (.int .i64 cp))
    (sc : W.cell? ⟨gs, i, none⟩ = some (.bool false)) (y0 : W.cell? ⟨bA, oA + i * 4, none⟩ = some (.int .i64 cn)) (y1 : W.cell? ⟨bA, oA + i * 4 + 1, none⟩ = some (.string kind))
    (b0 : W.cell? ⟨wz, 0, none⟩ = some (.int .i64 t)) (b1 : W.cell? ⟨wz, 1, none⟩ = some (.string kind)) (b2 : W.cell? ⟨wz, 2, none⟩ = some (.bool bub))
    (hK : ∀ (u34 u35 u36 u37 u38 u39 u40 u41 u42 u43 u44 u45 u46 u47 u48 u49 u50 u51 u52 u53 u54 u55 u56 u57 u58 u59 u60 u61 u62 u63 u64 u65 u66 u67 u68 u69 u70 u71 u72 u73 u74 u75 u76 u77 u78 u79 u80 u81 u82 u83 u84 u85 u86 u87 u88 u89 u90 u91 u92 u93 u94 u95 u96 u97 u98 u99 u100 u101 u102 u103 : Value) (nq : Nat), Q .normal ⟨#[s0, .slice (some ⟨bA, oA, none⟩) n ca, s2, s3, s4, .pointer (some ⟨wz, 0, none⟩), s6, .slice (some ⟨gs, 0, none⟩) n n, .int .i64 p, s9, .pointer (some ⟨gx, 0, none⟩), s11, s12, s13, s14, s15, s16, s17, s18, s19, s20, s21, s22, s23, s24, s25, s26, s27, s28, s29, s30, s31, s32, s33, u34, u35, u36, u37, u38, u39, u40, u41, u42, u43, u44, u45, u46, u47, u48, u49, u50, u51, u52, u53, u54, u55, u56, u57, u58, u59, u60, u61, u62, u63, u64, u65, u66, u67, u68, u69, u70, u71, u72, u73, u74, u75, u76, u77, u78, u79, u80, u81, u82, u83, u84, u85, u86, u87, u88, u89, u90, u91, u92, u93, u94, u95, u96, u97, u98, u99, u100, u101, u102, u103, .bool false, s105, s106, s107, s108, s109, s110, s111], []⟩ (W.drewN nq)) : Code.wp Try.prog reg10 Q ⟨#[s0, .slice (some ⟨bA, oA, none⟩) n ca, s2, s3, s4, .pointer (some ⟨wz, 0, none⟩), s6, .slice (some ⟨gs, 0, none⟩) n n, .int .i64 p, s9, .pointer (some ⟨gx, 0, none⟩), s11, s12, s13, s14, s15, s16, s17, s18, s19, s20, s21, s22, s23, s24, s25, s26, s27, s28, s29, s30, s31, s32, s33, s34, s35, s36, s37, s38, s39, s40, s41, s42, s43, s44, s45, s46, s47, s48, s49, s50, s51, s52, s53, s54, s55, s56, s57, s58, s59, s60, s61, s62, s63, s64, s65, s66, s67, s68, s69, s70, s71, s72, s73, s74, s75, s76, s77, s78, s79, s80, s81, s82, s83, s84, s85, s86, s87, s88, s89, s90, s91, s92, s93, s94, s95, s96, s97, s98, s99, s100, s101, s102, s103, s104, s105, s106, s107, s108, s109, s110, s111], []⟩ W := by
  subst hb
  conv => arg 2; whnf
  go_quiet (fail)
  exact hK _ _ _ _ _ _ _ _ _ _ _ _ _ _ _ _ _ _ _ _ _ _ _ _ _ _ _ _ _ _ _ _ _ _ _ _ _ _ _ _ _ _ _ _ _ _ _ _ _ _ _ _ _ _ _ _ _ _ _ _ _ _ _ _ _ _ _ _ _ _ _
end Go.Proofs.Ytpgcaehbbdnhiaa
