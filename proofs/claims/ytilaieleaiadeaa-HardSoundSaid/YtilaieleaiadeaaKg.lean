/-
Facts about the types of this translation, in short.
-/
import Derived.Test.YtilaieleaiadeaaKe
import Derived.Test.YtilaieleaiadeaaProg
import Derived.KernelRfl
namespace Go.AW.TyTry
open Go Go.Proofs
-- 158 types
@[go_sem] theorem uk1 : ukOf Try.prog 1 = .func := by kernel_rfl
@[go_sem] theorem sz1 : szOf Try.prog 1 = 1 := by kernel_rfl
@[go_sem] theorem ck1 : cellK Try.prog 8 1 = [none] := by kernel_rfl
@[go_sem] theorem by1 : Try.prog.bytesOf 1 = 8 := by kernel_rfl
@[go_sem] theorem zr1 : zeroAV Try.prog 1 = some (.nilf) := by kernel_rfl
@[go_sem] theorem uk2 : ukOf Try.prog 2 = .int .i64 := by kernel_rfl
@[go_sem] theorem sz2 : szOf Try.prog 2 = 1 := by kernel_rfl
@[go_sem] theorem ck2 : cellK Try.prog 8 2 = [none] := by kernel_rfl
@[go_sem] theorem by2 : Try.prog.bytesOf 2 = 8 := by kernel_rfl
@[go_sem] theorem zr2 : zeroAV Try.prog 2 = some (.i .i64 0) := by kernel_rfl
@[go_sem] theorem uk3 : ukOf Try.prog 3 = .int .i64 := by kernel_rfl
@[go_sem] theorem sz3 : szOf Try.prog 3 = 1 := by kernel_rfl
@[go_sem] theorem ck3 : cellK Try.prog 8 3 = [none] := by kernel_rfl
@[go_sem] theorem by3 : Try.prog.bytesOf 3 = 8 := by kernel_rfl
@[go_sem] theorem zr3 : zeroAV Try.prog 3 = some (.i .i64 0) := by kernel_rfl
@[go_sem] theorem uk4 : ukOf Try.prog 4 = .bool := by kernel_rfl
@[go_sem] theorem sz4 : szOf Try.prog 4 = 1 := by kernel_rfl
@[go_sem] theorem ck4 : cellK Try.prog 8 4 = [none] := by kernel_rfl
@[go_sem] theorem by4 : Try.prog.bytesOf 4 = 1 := by kernel_rfl
@[go_sem] theorem zr4 : zeroAV Try.prog 4 = some (.b false) := by kernel_rfl
@[go_sem] theorem uk5 : ukOf Try.prog 5 = .int .u8 := by kernel_rfl
@[go_sem] theorem sz5 : szOf Try.prog 5 = 1 := by kernel_rfl
@[go_sem] theorem ck5 : cellK Try.prog 8 5 = [none] := by kernel_rfl
@[go_sem] theorem by5 : Try.prog.bytesOf 5 = 1 := by kernel_rfl
@[go_sem] theorem zr5 : zeroAV Try.prog 5 = some (.i .u8 0) := by kernel_rfl
@[go_sem] theorem uk6 : ukOf Try.prog 6 = .int .u8 := by kernel_rfl
@[go_sem] theorem sz6 : szOf Try.prog 6 = 1 := by kernel_rfl
@[go_sem] theorem ck6 : cellK Try.prog 8 6 = [none] := by kernel_rfl
@[go_sem] theorem by6 : Try.prog.bytesOf 6 = 1 := by kernel_rfl
@[go_sem] theorem zr6 : zeroAV Try.prog 6 = some (.i .u8 0) := by kernel_rfl
@[go_sem] theorem uk7 : ukOf Try.prog 7 = .struct := by kernel_rfl
@[go_sem] theorem sz7 : szOf Try.prog 7 = 4 := by kernel_rfl
@[go_sem] theorem fd7_0 : fldOf Try.prog 7 0 = some (0, 2) := by kernel_rfl
@[go_sem] theorem fd7_1 : fldOf Try.prog 7 1 = some (1, 3) := by kernel_rfl
@[go_sem] theorem fd7_2 : fldOf Try.prog 7 2 = some (2, 4) := by kernel_rfl
@[go_sem] theorem fd7_3 : fldOf Try.prog 7 3 = some (3, 6) := by kernel_rfl
@[go_sem] theorem ck7 : cellK Try.prog 8 7 = [none, none, none, none] := by kernel_rfl
@[go_sem] theorem so7 : structOk Try.prog 7 = true := by kernel_rfl
@[go_sem] theorem by7 : Try.prog.bytesOf 7 = 24 := by kernel_rfl
@[go_sem] theorem zr7 : zeroAV Try.prog 7 = some (.agg [.i .i64 0, .i .i64 0, .b false, .i .u8 0]) := by kernel_rfl
@[go_sem] theorem uk8 : ukOf Try.prog 8 = .struct := by kernel_rfl
@[go_sem] theorem sz8 : szOf Try.prog 8 = 4 := by kernel_rfl
@[go_sem] theorem fd8_0 : fldOf Try.prog 8 0 = some (0, 2) := by kernel_rfl
@[go_sem] theorem fd8_1 : fldOf Try.prog 8 1 = some (1, 3) := by kernel_rfl
@[go_sem] theorem fd8_2 : fldOf Try.prog 8 2 = some (2, 4) := by kernel_rfl
@[go_sem] theorem fd8_3 : fldOf Try.prog 8 3 = some (3, 6) := by kernel_rfl
@[go_sem] theorem ck8 : cellK Try.prog 8 8 = [none, none, none, none] := by kernel_rfl
@[go_sem] theorem so8 : structOk Try.prog 8 = true := by kernel_rfl
@[go_sem] theorem by8 : Try.prog.bytesOf 8 = 24 := by kernel_rfl
@[go_sem] theorem zr8 : zeroAV Try.prog 8 = some (.agg [.i .i64 0, .i .i64 0, .b false, .i .u8 0]) := by kernel_rfl
@[go_sem] theorem uk9 : ukOf Try.prog 9 = .str := by kernel_rfl
@[go_sem] theorem sz9 : szOf Try.prog 9 = 1 := by kernel_rfl
@[go_sem] theorem ck9 : cellK Try.prog 8 9 = [none] := by kernel_rfl
@[go_sem] theorem by9 : Try.prog.bytesOf 9 = 16 := by kernel_rfl
@[go_sem] theorem zr9 : zeroAV Try.prog 9 = some (.s ByteArray.empty) := by kernel_rfl
@[go_sem] theorem uk10 : ukOf Try.prog 10 = .str := by kernel_rfl
@[go_sem] theorem sz10 : szOf Try.prog 10 = 1 := by kernel_rfl
@[go_sem] theorem ck10 : cellK Try.prog 8 10 = [none] := by kernel_rfl
@[go_sem] theorem by10 : Try.prog.bytesOf 10 = 16 := by kernel_rfl
@[go_sem] theorem zr10 : zeroAV Try.prog 10 = some (.s ByteArray.empty) := by kernel_rfl
@[go_sem] theorem uk11 : ukOf Try.prog 11 = .str := by kernel_rfl
@[go_sem] theorem sz11 : szOf Try.prog 11 = 1 := by kernel_rfl
@[go_sem] theorem ck11 : cellK Try.prog 8 11 = [none] := by kernel_rfl
@[go_sem] theorem by11 : Try.prog.bytesOf 11 = 16 := by kernel_rfl
@[go_sem] theorem zr11 : zeroAV Try.prog 11 = some (.s ByteArray.empty) := by kernel_rfl
@[go_sem] theorem uk12 : ukOf Try.prog 12 = .int .u64 := by kernel_rfl
@[go_sem] theorem sz12 : szOf Try.prog 12 = 1 := by kernel_rfl
@[go_sem] theorem ck12 : cellK Try.prog 8 12 = [none] := by kernel_rfl
@[go_sem] theorem by12 : Try.prog.bytesOf 12 = 8 := by kernel_rfl
@[go_sem] theorem zr12 : zeroAV Try.prog 12 = some (.i .u64 0) := by kernel_rfl
@[go_sem] theorem uk13 : ukOf Try.prog 13 = .struct := by kernel_rfl
@[go_sem] theorem sz13 : szOf Try.prog 13 = 2 := by kernel_rfl
@[go_sem] theorem fd13_0 : fldOf Try.prog 13 0 = some (0, 9) := by kernel_rfl
@[go_sem] theorem fd13_1 : fldOf Try.prog 13 1 = some (1, 12) := by kernel_rfl
@[go_sem] theorem ck13 : cellK Try.prog 8 13 = [none, none] := by kernel_rfl
@[go_sem] theorem so13 : structOk Try.prog 13 = true := by kernel_rfl
@[go_sem] theorem by13 : Try.prog.bytesOf 13 = 24 := by kernel_rfl
@[go_sem] theorem zr13 : zeroAV Try.prog 13 = some (.agg [.s ByteArray.empty, .i .u64 0]) := by kernel_rfl
@[go_sem] theorem uk14 : ukOf Try.prog 14 = .struct := by kernel_rfl
@[go_sem] theorem sz14 : szOf Try.prog 14 = 2 := by kernel_rfl
@[go_sem] theorem fd14_0 : fldOf Try.prog 14 0 = some (0, 9) := by kernel_rfl
@[go_sem] theorem fd14_1 : fldOf Try.prog 14 1 = some (1, 12) := by kernel_rfl
@[go_sem] theorem ck14 : cellK Try.prog 8 14 = [none, none] := by kernel_rfl
@[go_sem] theorem so14 : structOk Try.prog 14 = true := by kernel_rfl
@[go_sem] theorem by14 : Try.prog.bytesOf 14 = 24 := by kernel_rfl
@[go_sem] theorem zr14 : zeroAV Try.prog 14 = some (.agg [.s ByteArray.empty, .i .u64 0]) := by kernel_rfl
@[go_sem] theorem uk15 : ukOf Try.prog 15 = .ptr 144 := by kernel_rfl
@[go_sem] theorem sz15 : szOf Try.prog 15 = 1 := by kernel_rfl
@[go_sem] theorem ck15 : cellK Try.prog 8 15 = [none] := by kernel_rfl
@[go_sem] theorem by15 : Try.prog.bytesOf 15 = 8 := by kernel_rfl
@[go_sem] theorem zr15 : zeroAV Try.prog 15 = some (.nilp) := by kernel_rfl
@[go_sem] theorem uk16 : ukOf Try.prog 16 = .ptr 147 := by kernel_rfl
@[go_sem] theorem sz16 : szOf Try.prog 16 = 1 := by kernel_rfl
@[go_sem] theorem ck16 : cellK Try.prog 8 16 = [none] := by kernel_rfl
@[go_sem] theorem by16 : Try.prog.bytesOf 16 = 8 := by kernel_rfl
@[go_sem] theorem zr16 : zeroAV Try.prog 16 = some (.nilp) := by kernel_rfl
@[go_sem] theorem uk17 : ukOf Try.prog 17 = .ptr 156 := by kernel_rfl
@[go_sem] theorem sz17 : szOf Try.prog 17 = 1 := by kernel_rfl
@[go_sem] theorem ck17 : cellK Try.prog 8 17 = [none] := by kernel_rfl
@[go_sem] theorem by17 : Try.prog.bytesOf 17 = 8 := by kernel_rfl
@[go_sem] theorem zr17 : zeroAV Try.prog 17 = some (.nilp) := by kernel_rfl
@[go_sem] theorem uk18 : ukOf Try.prog 18 = .struct := by kernel_rfl
@[go_sem] theorem sz18 : szOf Try.prog 18 = 1 := by kernel_rfl
@[go_sem] theorem fd18_0 : fldOf Try.prog 18 0 = some (0, 17) := by kernel_rfl
@[go_sem] theorem ck18 : cellK Try.prog 8 18 = [none] := by kernel_rfl
@[go_sem] theorem so18 : structOk Try.prog 18 = true := by kernel_rfl
@[go_sem] theorem by18 : Try.prog.bytesOf 18 = 8 := by kernel_rfl
@[go_sem] theorem zr18 : zeroAV Try.prog 18 = some (.agg [.nilp]) := by kernel_rfl
@[go_sem] theorem uk19 : ukOf Try.prog 19 = .struct := by kernel_rfl
@[go_sem] theorem sz19 : szOf Try.prog 19 = 1 := by kernel_rfl
@[go_sem] theorem fd19_0 : fldOf Try.prog 19 0 = some (0, 17) := by kernel_rfl
@[go_sem] theorem ck19 : cellK Try.prog 8 19 = [none] := by kernel_rfl
@[go_sem] theorem so19 : structOk Try.prog 19 = true := by kernel_rfl
@[go_sem] theorem by19 : Try.prog.bytesOf 19 = 8 := by kernel_rfl
@[go_sem] theorem zr19 : zeroAV Try.prog 19 = some (.agg [.nilp]) := by kernel_rfl
@[go_sem] theorem uk20 : ukOf Try.prog 20 = .iface := by kernel_rfl
@[go_sem] theorem sz20 : szOf Try.prog 20 = 1 := by kernel_rfl
@[go_sem] theorem ck20 : cellK Try.prog 8 20 = [none] := by kernel_rfl
@[go_sem] theorem by20 : Try.prog.bytesOf 20 = 16 := by kernel_rfl
@[go_sem] theorem zr20 : zeroAV Try.prog 20 = some (.nili) := by kernel_rfl
@[go_sem] theorem uk21 : ukOf Try.prog 21 = .int .i32 := by kernel_rfl
@[go_sem] theorem sz21 : szOf Try.prog 21 = 1 := by kernel_rfl
@[go_sem] theorem ck21 : cellK Try.prog 8 21 = [none] := by kernel_rfl
@[go_sem] theorem by21 : Try.prog.bytesOf 21 = 4 := by kernel_rfl
@[go_sem] theorem zr21 : zeroAV Try.prog 21 = some (.i .i32 0) := by kernel_rfl
@[go_sem] theorem uk22 : ukOf Try.prog 22 = .slice 64 := by kernel_rfl
@[go_sem] theorem sz22 : szOf Try.prog 22 = 1 := by kernel_rfl
@[go_sem] theorem ck22 : cellK Try.prog 8 22 = [some 3] := by kernel_rfl
@[go_sem] theorem by22 : Try.prog.bytesOf 22 = 24 := by kernel_rfl
@[go_sem] theorem zr22 : zeroAV Try.prog 22 = some (.nsl) := by kernel_rfl
@[go_sem] theorem uk23 : ukOf Try.prog 23 = .struct := by kernel_rfl
@[go_sem] theorem sz23 : szOf Try.prog 23 = 2 := by kernel_rfl
@[go_sem] theorem fd23_0 : fldOf Try.prog 23 0 = some (0, 3) := by kernel_rfl
@[go_sem] theorem fd23_1 : fldOf Try.prog 23 1 = some (1, 22) := by kernel_rfl
@[go_sem] theorem ck23 : cellK Try.prog 8 23 = [none, some 3] := by kernel_rfl
@[go_sem] theorem so23 : structOk Try.prog 23 = true := by kernel_rfl
@[go_sem] theorem by23 : Try.prog.bytesOf 23 = 32 := by kernel_rfl
@[go_sem] theorem zr23 : zeroAV Try.prog 23 = some (.agg [.i .i64 0, .nsl]) := by kernel_rfl
@[go_sem] theorem uk24 : ukOf Try.prog 24 = .struct := by kernel_rfl
@[go_sem] theorem sz24 : szOf Try.prog 24 = 2 := by kernel_rfl
@[go_sem] theorem fd24_0 : fldOf Try.prog 24 0 = some (0, 3) := by kernel_rfl
@[go_sem] theorem fd24_1 : fldOf Try.prog 24 1 = some (1, 22) := by kernel_rfl
@[go_sem] theorem ck24 : cellK Try.prog 8 24 = [none, some 3] := by kernel_rfl
@[go_sem] theorem so24 : structOk Try.prog 24 = true := by kernel_rfl
@[go_sem] theorem by24 : Try.prog.bytesOf 24 = 32 := by kernel_rfl
@[go_sem] theorem zr24 : zeroAV Try.prog 24 = some (.agg [.i .i64 0, .nsl]) := by kernel_rfl
@[go_sem] theorem uk25 : ukOf Try.prog 25 = .func := by kernel_rfl
@[go_sem] theorem sz25 : szOf Try.prog 25 = 1 := by kernel_rfl
@[go_sem] theorem ck25 : cellK Try.prog 8 25 = [none] := by kernel_rfl
@[go_sem] theorem by25 : Try.prog.bytesOf 25 = 8 := by kernel_rfl
@[go_sem] theorem zr25 : zeroAV Try.prog 25 = some (.nilf) := by kernel_rfl
@[go_sem] theorem uk26 : ukOf Try.prog 26 = .func := by kernel_rfl
@[go_sem] theorem sz26 : szOf Try.prog 26 = 1 := by kernel_rfl
@[go_sem] theorem ck26 : cellK Try.prog 8 26 = [none] := by kernel_rfl
@[go_sem] theorem by26 : Try.prog.bytesOf 26 = 8 := by kernel_rfl
@[go_sem] theorem zr26 : zeroAV Try.prog 26 = some (.nilf) := by kernel_rfl
@[go_sem] theorem uk27 : ukOf Try.prog 27 = .int .i64 := by kernel_rfl
@[go_sem] theorem sz27 : szOf Try.prog 27 = 1 := by kernel_rfl
@[go_sem] theorem ck27 : cellK Try.prog 8 27 = [none] := by kernel_rfl
@[go_sem] theorem by27 : Try.prog.bytesOf 27 = 8 := by kernel_rfl
@[go_sem] theorem zr27 : zeroAV Try.prog 27 = some (.i .i64 0) := by kernel_rfl
@[go_sem] theorem uk28 : ukOf Try.prog 28 = .func := by kernel_rfl
@[go_sem] theorem sz28 : szOf Try.prog 28 = 1 := by kernel_rfl
@[go_sem] theorem ck28 : cellK Try.prog 8 28 = [none] := by kernel_rfl
@[go_sem] theorem by28 : Try.prog.bytesOf 28 = 8 := by kernel_rfl
@[go_sem] theorem zr28 : zeroAV Try.prog 28 = some (.nilf) := by kernel_rfl
@[go_sem] theorem uk29 : ukOf Try.prog 29 = .slice 3 := by kernel_rfl
@[go_sem] theorem sz29 : szOf Try.prog 29 = 1 := by kernel_rfl
@[go_sem] theorem ck29 : cellK Try.prog 8 29 = [some 1] := by kernel_rfl
@[go_sem] theorem by29 : Try.prog.bytesOf 29 = 24 := by kernel_rfl
@[go_sem] theorem zr29 : zeroAV Try.prog 29 = some (.nsl) := by kernel_rfl
@[go_sem] theorem uk31 : ukOf Try.prog 31 = .func := by kernel_rfl
@[go_sem] theorem sz31 : szOf Try.prog 31 = 1 := by kernel_rfl
@[go_sem] theorem ck31 : cellK Try.prog 8 31 = [none] := by kernel_rfl
@[go_sem] theorem by31 : Try.prog.bytesOf 31 = 8 := by kernel_rfl
@[go_sem] theorem zr31 : zeroAV Try.prog 31 = some (.nilf) := by kernel_rfl
@[go_sem] theorem uk33 : ukOf Try.prog 33 = .func := by kernel_rfl
@[go_sem] theorem sz33 : szOf Try.prog 33 = 1 := by kernel_rfl
@[go_sem] theorem ck33 : cellK Try.prog 8 33 = [none] := by kernel_rfl
@[go_sem] theorem by33 : Try.prog.bytesOf 33 = 8 := by kernel_rfl
@[go_sem] theorem zr33 : zeroAV Try.prog 33 = some (.nilf) := by kernel_rfl
@[go_sem] theorem uk35 : ukOf Try.prog 35 = .func := by kernel_rfl
@[go_sem] theorem sz35 : szOf Try.prog 35 = 1 := by kernel_rfl
@[go_sem] theorem ck35 : cellK Try.prog 8 35 = [none] := by kernel_rfl
@[go_sem] theorem by35 : Try.prog.bytesOf 35 = 8 := by kernel_rfl
@[go_sem] theorem zr35 : zeroAV Try.prog 35 = some (.nilf) := by kernel_rfl
@[go_sem] theorem uk36 : ukOf Try.prog 36 = .func := by kernel_rfl
@[go_sem] theorem sz36 : szOf Try.prog 36 = 1 := by kernel_rfl
@[go_sem] theorem ck36 : cellK Try.prog 8 36 = [none] := by kernel_rfl
@[go_sem] theorem by36 : Try.prog.bytesOf 36 = 8 := by kernel_rfl
@[go_sem] theorem zr36 : zeroAV Try.prog 36 = some (.nilf) := by kernel_rfl
@[go_sem] theorem uk38 : ukOf Try.prog 38 = .func := by kernel_rfl
@[go_sem] theorem sz38 : szOf Try.prog 38 = 1 := by kernel_rfl
@[go_sem] theorem ck38 : cellK Try.prog 8 38 = [none] := by kernel_rfl
@[go_sem] theorem by38 : Try.prog.bytesOf 38 = 8 := by kernel_rfl
@[go_sem] theorem zr38 : zeroAV Try.prog 38 = some (.nilf) := by kernel_rfl
@[go_sem] theorem uk39 : ukOf Try.prog 39 = .func := by kernel_rfl
@[go_sem] theorem sz39 : szOf Try.prog 39 = 1 := by kernel_rfl
@[go_sem] theorem ck39 : cellK Try.prog 8 39 = [none] := by kernel_rfl
@[go_sem] theorem by39 : Try.prog.bytesOf 39 = 8 := by kernel_rfl
@[go_sem] theorem zr39 : zeroAV Try.prog 39 = some (.nilf) := by kernel_rfl
@[go_sem] theorem uk40 : ukOf Try.prog 40 = .slice 29 := by kernel_rfl
@[go_sem] theorem sz40 : szOf Try.prog 40 = 1 := by kernel_rfl
@[go_sem] theorem ck40 : cellK Try.prog 8 40 = [some 1] := by kernel_rfl
@[go_sem] theorem by40 : Try.prog.bytesOf 40 = 24 := by kernel_rfl
@[go_sem] theorem zr40 : zeroAV Try.prog 40 = some (.nsl) := by kernel_rfl
@[go_sem] theorem uk41 : ukOf Try.prog 41 = .struct := by kernel_rfl
@[go_sem] theorem sz41 : szOf Try.prog 41 = 2 := by kernel_rfl
@[go_sem] theorem fd41_0 : fldOf Try.prog 41 0 = some (0, 3) := by kernel_rfl
@[go_sem] theorem fd41_1 : fldOf Try.prog 41 1 = some (1, 40) := by kernel_rfl
@[go_sem] theorem ck41 : cellK Try.prog 8 41 = [none, some 1] := by kernel_rfl
@[go_sem] theorem so41 : structOk Try.prog 41 = true := by kernel_rfl
@[go_sem] theorem by41 : Try.prog.bytesOf 41 = 32 := by kernel_rfl
@[go_sem] theorem zr41 : zeroAV Try.prog 41 = some (.agg [.i .i64 0, .nsl]) := by kernel_rfl
@[go_sem] theorem uk42 : ukOf Try.prog 42 = .struct := by kernel_rfl
@[go_sem] theorem sz42 : szOf Try.prog 42 = 2 := by kernel_rfl
@[go_sem] theorem fd42_0 : fldOf Try.prog 42 0 = some (0, 3) := by kernel_rfl
@[go_sem] theorem fd42_1 : fldOf Try.prog 42 1 = some (1, 40) := by kernel_rfl
@[go_sem] theorem ck42 : cellK Try.prog 8 42 = [none, some 1] := by kernel_rfl
@[go_sem] theorem so42 : structOk Try.prog 42 = true := by kernel_rfl
@[go_sem] theorem by42 : Try.prog.bytesOf 42 = 32 := by kernel_rfl
@[go_sem] theorem zr42 : zeroAV Try.prog 42 = some (.agg [.i .i64 0, .nsl]) := by kernel_rfl
@[go_sem] theorem uk43 : ukOf Try.prog 43 = .struct := by kernel_rfl
@[go_sem] theorem sz43 : szOf Try.prog 43 = 3 := by kernel_rfl
@[go_sem] theorem fd43_0 : fldOf Try.prog 43 0 = some (0, 29) := by kernel_rfl
@[go_sem] theorem fd43_1 : fldOf Try.prog 43 1 = some (1, 3) := by kernel_rfl
@[go_sem] theorem fd43_2 : fldOf Try.prog 43 2 = some (2, 29) := by kernel_rfl
@[go_sem] theorem ck43 : cellK Try.prog 8 43 = [some 1, none, some 1] := by kernel_rfl
@[go_sem] theorem so43 : structOk Try.prog 43 = true := by kernel_rfl
@[go_sem] theorem by43 : Try.prog.bytesOf 43 = 56 := by kernel_rfl
@[go_sem] theorem zr43 : zeroAV Try.prog 43 = some (.agg [.nsl, .i .i64 0, .nsl]) := by kernel_rfl
@[go_sem] theorem uk44 : ukOf Try.prog 44 = .struct := by kernel_rfl
@[go_sem] theorem sz44 : szOf Try.prog 44 = 3 := by kernel_rfl
@[go_sem] theorem fd44_0 : fldOf Try.prog 44 0 = some (0, 29) := by kernel_rfl
@[go_sem] theorem fd44_1 : fldOf Try.prog 44 1 = some (1, 3) := by kernel_rfl
@[go_sem] theorem fd44_2 : fldOf Try.prog 44 2 = some (2, 29) := by kernel_rfl
@[go_sem] theorem ck44 : cellK Try.prog 8 44 = [some 1, none, some 1] := by kernel_rfl
@[go_sem] theorem so44 : structOk Try.prog 44 = true := by kernel_rfl
@[go_sem] theorem by44 : Try.prog.bytesOf 44 = 56 := by kernel_rfl
@[go_sem] theorem zr44 : zeroAV Try.prog 44 = some (.agg [.nsl, .i .i64 0, .nsl]) := by kernel_rfl
@[go_sem] theorem uk45 : ukOf Try.prog 45 = .func := by kernel_rfl
@[go_sem] theorem sz45 : szOf Try.prog 45 = 1 := by kernel_rfl
@[go_sem] theorem ck45 : cellK Try.prog 8 45 = [none] := by kernel_rfl
@[go_sem] theorem by45 : Try.prog.bytesOf 45 = 8 := by kernel_rfl
@[go_sem] theorem zr45 : zeroAV Try.prog 45 = some (.nilf) := by kernel_rfl
@[go_sem] theorem uk46 : ukOf Try.prog 46 = .func := by kernel_rfl
@[go_sem] theorem sz46 : szOf Try.prog 46 = 1 := by kernel_rfl
@[go_sem] theorem ck46 : cellK Try.prog 8 46 = [none] := by kernel_rfl
@[go_sem] theorem by46 : Try.prog.bytesOf 46 = 8 := by kernel_rfl
@[go_sem] theorem zr46 : zeroAV Try.prog 46 = some (.nilf) := by kernel_rfl
@[go_sem] theorem uk47 : ukOf Try.prog 47 = .func := by kernel_rfl
@[go_sem] theorem sz47 : szOf Try.prog 47 = 1 := by kernel_rfl
@[go_sem] theorem ck47 : cellK Try.prog 8 47 = [none] := by kernel_rfl
@[go_sem] theorem by47 : Try.prog.bytesOf 47 = 8 := by kernel_rfl
@[go_sem] theorem zr47 : zeroAV Try.prog 47 = some (.nilf) := by kernel_rfl
@[go_sem] theorem uk48 : ukOf Try.prog 48 = .func := by kernel_rfl
@[go_sem] theorem sz48 : szOf Try.prog 48 = 1 := by kernel_rfl
@[go_sem] theorem ck48 : cellK Try.prog 8 48 = [none] := by kernel_rfl
@[go_sem] theorem by48 : Try.prog.bytesOf 48 = 8 := by kernel_rfl
@[go_sem] theorem zr48 : zeroAV Try.prog 48 = some (.nilf) := by kernel_rfl
@[go_sem] theorem uk49 : ukOf Try.prog 49 = .func := by kernel_rfl
@[go_sem] theorem sz49 : szOf Try.prog 49 = 1 := by kernel_rfl
@[go_sem] theorem ck49 : cellK Try.prog 8 49 = [none] := by kernel_rfl
@[go_sem] theorem by49 : Try.prog.bytesOf 49 = 8 := by kernel_rfl
@[go_sem] theorem zr49 : zeroAV Try.prog 49 = some (.nilf) := by kernel_rfl
@[go_sem] theorem uk50 : ukOf Try.prog 50 = .func := by kernel_rfl
@[go_sem] theorem sz50 : szOf Try.prog 50 = 1 := by kernel_rfl
@[go_sem] theorem ck50 : cellK Try.prog 8 50 = [none] := by kernel_rfl
@[go_sem] theorem by50 : Try.prog.bytesOf 50 = 8 := by kernel_rfl
@[go_sem] theorem zr50 : zeroAV Try.prog 50 = some (.nilf) := by kernel_rfl
@[go_sem] theorem uk51 : ukOf Try.prog 51 = .slice 4 := by kernel_rfl
@[go_sem] theorem sz51 : szOf Try.prog 51 = 1 := by kernel_rfl
@[go_sem] theorem ck51 : cellK Try.prog 8 51 = [some 1] := by kernel_rfl
@[go_sem] theorem by51 : Try.prog.bytesOf 51 = 24 := by kernel_rfl
@[go_sem] theorem zr51 : zeroAV Try.prog 51 = some (.nsl) := by kernel_rfl
@[go_sem] theorem uk53 : ukOf Try.prog 53 = .func := by kernel_rfl
@[go_sem] theorem sz53 : szOf Try.prog 53 = 1 := by kernel_rfl
@[go_sem] theorem ck53 : cellK Try.prog 8 53 = [none] := by kernel_rfl
@[go_sem] theorem by53 : Try.prog.bytesOf 53 = 8 := by kernel_rfl
@[go_sem] theorem zr53 : zeroAV Try.prog 53 = some (.nilf) := by kernel_rfl
@[go_sem] theorem uk55 : ukOf Try.prog 55 = .func := by kernel_rfl
@[go_sem] theorem sz55 : szOf Try.prog 55 = 1 := by kernel_rfl
@[go_sem] theorem ck55 : cellK Try.prog 8 55 = [none] := by kernel_rfl
@[go_sem] theorem by55 : Try.prog.bytesOf 55 = 8 := by kernel_rfl
@[go_sem] theorem zr55 : zeroAV Try.prog 55 = some (.nilf) := by kernel_rfl
@[go_sem] theorem uk56 : ukOf Try.prog 56 = .func := by kernel_rfl
@[go_sem] theorem sz56 : szOf Try.prog 56 = 1 := by kernel_rfl
@[go_sem] theorem ck56 : cellK Try.prog 8 56 = [none] := by kernel_rfl
@[go_sem] theorem by56 : Try.prog.bytesOf 56 = 8 := by kernel_rfl
@[go_sem] theorem zr56 : zeroAV Try.prog 56 = some (.nilf) := by kernel_rfl
@[go_sem] theorem uk57 : ukOf Try.prog 57 = .func := by kernel_rfl
@[go_sem] theorem sz57 : szOf Try.prog 57 = 1 := by kernel_rfl
@[go_sem] theorem ck57 : cellK Try.prog 8 57 = [none] := by kernel_rfl
@[go_sem] theorem by57 : Try.prog.bytesOf 57 = 8 := by kernel_rfl
@[go_sem] theorem zr57 : zeroAV Try.prog 57 = some (.nilf) := by kernel_rfl
@[go_sem] theorem uk58 : ukOf Try.prog 58 = .func := by kernel_rfl
@[go_sem] theorem sz58 : szOf Try.prog 58 = 1 := by kernel_rfl
@[go_sem] theorem ck58 : cellK Try.prog 8 58 = [none] := by kernel_rfl
@[go_sem] theorem by58 : Try.prog.bytesOf 58 = 8 := by kernel_rfl
@[go_sem] theorem zr58 : zeroAV Try.prog 58 = some (.nilf) := by kernel_rfl
@[go_sem] theorem uk59 : ukOf Try.prog 59 = .func := by kernel_rfl
@[go_sem] theorem sz59 : szOf Try.prog 59 = 1 := by kernel_rfl
@[go_sem] theorem ck59 : cellK Try.prog 8 59 = [none] := by kernel_rfl
@[go_sem] theorem by59 : Try.prog.bytesOf 59 = 8 := by kernel_rfl
@[go_sem] theorem zr59 : zeroAV Try.prog 59 = some (.nilf) := by kernel_rfl
@[go_sem] theorem uk60 : ukOf Try.prog 60 = .func := by kernel_rfl
@[go_sem] theorem sz60 : szOf Try.prog 60 = 1 := by kernel_rfl
@[go_sem] theorem ck60 : cellK Try.prog 8 60 = [none] := by kernel_rfl
@[go_sem] theorem by60 : Try.prog.bytesOf 60 = 8 := by kernel_rfl
@[go_sem] theorem zr60 : zeroAV Try.prog 60 = some (.nilf) := by kernel_rfl
@[go_sem] theorem uk61 : ukOf Try.prog 61 = .func := by kernel_rfl
@[go_sem] theorem sz61 : szOf Try.prog 61 = 1 := by kernel_rfl
@[go_sem] theorem ck61 : cellK Try.prog 8 61 = [none] := by kernel_rfl
@[go_sem] theorem by61 : Try.prog.bytesOf 61 = 8 := by kernel_rfl
@[go_sem] theorem zr61 : zeroAV Try.prog 61 = some (.nilf) := by kernel_rfl
@[go_sem] theorem uk62 : ukOf Try.prog 62 = .func := by kernel_rfl
@[go_sem] theorem sz62 : szOf Try.prog 62 = 1 := by kernel_rfl
@[go_sem] theorem ck62 : cellK Try.prog 8 62 = [none] := by kernel_rfl
@[go_sem] theorem by62 : Try.prog.bytesOf 62 = 8 := by kernel_rfl
@[go_sem] theorem zr62 : zeroAV Try.prog 62 = some (.nilf) := by kernel_rfl
@[go_sem] theorem uk63 : ukOf Try.prog 63 = .struct := by kernel_rfl
@[go_sem] theorem sz63 : szOf Try.prog 63 = 3 := by kernel_rfl
@[go_sem] theorem fd63_0 : fldOf Try.prog 63 0 = some (0, 9) := by kernel_rfl
@[go_sem] theorem fd63_1 : fldOf Try.prog 63 1 = some (1, 3) := by kernel_rfl
@[go_sem] theorem fd63_2 : fldOf Try.prog 63 2 = some (2, 40) := by kernel_rfl
@[go_sem] theorem ck63 : cellK Try.prog 8 63 = [none, none, some 1] := by kernel_rfl
@[go_sem] theorem so63 : structOk Try.prog 63 = true := by kernel_rfl
@[go_sem] theorem by63 : Try.prog.bytesOf 63 = 48 := by kernel_rfl
@[go_sem] theorem zr63 : zeroAV Try.prog 63 = some (.agg [.s ByteArray.empty, .i .i64 0, .nsl]) := by kernel_rfl
@[go_sem] theorem uk64 : ukOf Try.prog 64 = .struct := by kernel_rfl
@[go_sem] theorem sz64 : szOf Try.prog 64 = 3 := by kernel_rfl
@[go_sem] theorem fd64_0 : fldOf Try.prog 64 0 = some (0, 9) := by kernel_rfl
@[go_sem] theorem fd64_1 : fldOf Try.prog 64 1 = some (1, 3) := by kernel_rfl
@[go_sem] theorem fd64_2 : fldOf Try.prog 64 2 = some (2, 40) := by kernel_rfl
@[go_sem] theorem ck64 : cellK Try.prog 8 64 = [none, none, some 1] := by kernel_rfl
@[go_sem] theorem so64 : structOk Try.prog 64 = true := by kernel_rfl
@[go_sem] theorem by64 : Try.prog.bytesOf 64 = 48 := by kernel_rfl
@[go_sem] theorem zr64 : zeroAV Try.prog 64 = some (.agg [.s ByteArray.empty, .i .i64 0, .nsl]) := by kernel_rfl
@[go_sem] theorem uk65 : ukOf Try.prog 65 = .func := by kernel_rfl
@[go_sem] theorem sz65 : szOf Try.prog 65 = 1 := by kernel_rfl
@[go_sem] theorem ck65 : cellK Try.prog 8 65 = [none] := by kernel_rfl
@[go_sem] theorem by65 : Try.prog.bytesOf 65 = 8 := by kernel_rfl
@[go_sem] theorem zr65 : zeroAV Try.prog 65 = some (.nilf) := by kernel_rfl
@[go_sem] theorem uk66 : ukOf Try.prog 66 = .func := by kernel_rfl
@[go_sem] theorem sz66 : szOf Try.prog 66 = 1 := by kernel_rfl
@[go_sem] theorem ck66 : cellK Try.prog 8 66 = [none] := by kernel_rfl
@[go_sem] theorem by66 : Try.prog.bytesOf 66 = 8 := by kernel_rfl
@[go_sem] theorem zr66 : zeroAV Try.prog 66 = some (.nilf) := by kernel_rfl
@[go_sem] theorem uk67 : ukOf Try.prog 67 = .struct := by kernel_rfl
@[go_sem] theorem sz67 : szOf Try.prog 67 = 2 := by kernel_rfl
@[go_sem] theorem fd67_0 : fldOf Try.prog 67 0 = some (0, 9) := by kernel_rfl
@[go_sem] theorem fd67_1 : fldOf Try.prog 67 1 = some (1, 3) := by kernel_rfl
@[go_sem] theorem ck67 : cellK Try.prog 8 67 = [none, none] := by kernel_rfl
@[go_sem] theorem so67 : structOk Try.prog 67 = true := by kernel_rfl
@[go_sem] theorem by67 : Try.prog.bytesOf 67 = 24 := by kernel_rfl
@[go_sem] theorem zr67 : zeroAV Try.prog 67 = some (.agg [.s ByteArray.empty, .i .i64 0]) := by kernel_rfl
@[go_sem] theorem uk68 : ukOf Try.prog 68 = .struct := by kernel_rfl
@[go_sem] theorem sz68 : szOf Try.prog 68 = 2 := by kernel_rfl
@[go_sem] theorem fd68_0 : fldOf Try.prog 68 0 = some (0, 9) := by kernel_rfl
@[go_sem] theorem fd68_1 : fldOf Try.prog 68 1 = some (1, 3) := by kernel_rfl
@[go_sem] theorem ck68 : cellK Try.prog 8 68 = [none, none] := by kernel_rfl
@[go_sem] theorem so68 : structOk Try.prog 68 = true := by kernel_rfl
@[go_sem] theorem by68 : Try.prog.bytesOf 68 = 24 := by kernel_rfl
@[go_sem] theorem zr68 : zeroAV Try.prog 68 = some (.agg [.s ByteArray.empty, .i .i64 0]) := by kernel_rfl
@[go_sem] theorem uk69 : ukOf Try.prog 69 = .struct := by kernel_rfl
@[go_sem] theorem sz69 : szOf Try.prog 69 = 2 := by kernel_rfl
@[go_sem] theorem fd69_0 : fldOf Try.prog 69 0 = some (0, 40) := by kernel_rfl
@[go_sem] theorem fd69_1 : fldOf Try.prog 69 1 = some (1, 51) := by kernel_rfl
@[go_sem] theorem ck69 : cellK Try.prog 8 69 = [some 1, some 1] := by kernel_rfl
@[go_sem] theorem so69 : structOk Try.prog 69 = true := by kernel_rfl
@[go_sem] theorem by69 : Try.prog.bytesOf 69 = 48 := by kernel_rfl
@[go_sem] theorem zr69 : zeroAV Try.prog 69 = some (.agg [.nsl, .nsl]) := by kernel_rfl
@[go_sem] theorem uk70 : ukOf Try.prog 70 = .struct := by kernel_rfl
@[go_sem] theorem sz70 : szOf Try.prog 70 = 2 := by kernel_rfl
@[go_sem] theorem fd70_0 : fldOf Try.prog 70 0 = some (0, 40) := by kernel_rfl
@[go_sem] theorem fd70_1 : fldOf Try.prog 70 1 = some (1, 51) := by kernel_rfl
@[go_sem] theorem ck70 : cellK Try.prog 8 70 = [some 1, some 1] := by kernel_rfl
@[go_sem] theorem so70 : structOk Try.prog 70 = true := by kernel_rfl
@[go_sem] theorem by70 : Try.prog.bytesOf 70 = 48 := by kernel_rfl
@[go_sem] theorem zr70 : zeroAV Try.prog 70 = some (.agg [.nsl, .nsl]) := by kernel_rfl
@[go_sem] theorem uk72 : ukOf Try.prog 72 = .func := by kernel_rfl
@[go_sem] theorem sz72 : szOf Try.prog 72 = 1 := by kernel_rfl
@[go_sem] theorem ck72 : cellK Try.prog 8 72 = [none] := by kernel_rfl
@[go_sem] theorem by72 : Try.prog.bytesOf 72 = 8 := by kernel_rfl
@[go_sem] theorem zr72 : zeroAV Try.prog 72 = some (.nilf) := by kernel_rfl
@[go_sem] theorem uk73 : ukOf Try.prog 73 = .func := by kernel_rfl
@[go_sem] theorem sz73 : szOf Try.prog 73 = 1 := by kernel_rfl
@[go_sem] theorem ck73 : cellK Try.prog 8 73 = [none] := by kernel_rfl
@[go_sem] theorem by73 : Try.prog.bytesOf 73 = 8 := by kernel_rfl
@[go_sem] theorem zr73 : zeroAV Try.prog 73 = some (.nilf) := by kernel_rfl
@[go_sem] theorem uk74 : ukOf Try.prog 74 = .func := by kernel_rfl
@[go_sem] theorem sz74 : szOf Try.prog 74 = 1 := by kernel_rfl
@[go_sem] theorem ck74 : cellK Try.prog 8 74 = [none] := by kernel_rfl
@[go_sem] theorem by74 : Try.prog.bytesOf 74 = 8 := by kernel_rfl
@[go_sem] theorem zr74 : zeroAV Try.prog 74 = some (.nilf) := by kernel_rfl
@[go_sem] theorem uk75 : ukOf Try.prog 75 = .func := by kernel_rfl
@[go_sem] theorem sz75 : szOf Try.prog 75 = 1 := by kernel_rfl
@[go_sem] theorem ck75 : cellK Try.prog 8 75 = [none] := by kernel_rfl
@[go_sem] theorem by75 : Try.prog.bytesOf 75 = 8 := by kernel_rfl
@[go_sem] theorem zr75 : zeroAV Try.prog 75 = some (.nilf) := by kernel_rfl
@[go_sem] theorem uk76 : ukOf Try.prog 76 = .func := by kernel_rfl
@[go_sem] theorem sz76 : szOf Try.prog 76 = 1 := by kernel_rfl
@[go_sem] theorem ck76 : cellK Try.prog 8 76 = [none] := by kernel_rfl
@[go_sem] theorem by76 : Try.prog.bytesOf 76 = 8 := by kernel_rfl
@[go_sem] theorem zr76 : zeroAV Try.prog 76 = some (.nilf) := by kernel_rfl
@[go_sem] theorem uk77 : ukOf Try.prog 77 = .func := by kernel_rfl
@[go_sem] theorem sz77 : szOf Try.prog 77 = 1 := by kernel_rfl
@[go_sem] theorem ck77 : cellK Try.prog 8 77 = [none] := by kernel_rfl
@[go_sem] theorem by77 : Try.prog.bytesOf 77 = 8 := by kernel_rfl
@[go_sem] theorem zr77 : zeroAV Try.prog 77 = some (.nilf) := by kernel_rfl
@[go_sem] theorem uk78 : ukOf Try.prog 78 = .slice 51 := by kernel_rfl
@[go_sem] theorem sz78 : szOf Try.prog 78 = 1 := by kernel_rfl
@[go_sem] theorem ck78 : cellK Try.prog 8 78 = [some 1] := by kernel_rfl
@[go_sem] theorem by78 : Try.prog.bytesOf 78 = 24 := by kernel_rfl
@[go_sem] theorem zr78 : zeroAV Try.prog 78 = some (.nsl) := by kernel_rfl
@[go_sem] theorem uk79 : ukOf Try.prog 79 = .func := by kernel_rfl
@[go_sem] theorem sz79 : szOf Try.prog 79 = 1 := by kernel_rfl
@[go_sem] theorem ck79 : cellK Try.prog 8 79 = [none] := by kernel_rfl
@[go_sem] theorem by79 : Try.prog.bytesOf 79 = 8 := by kernel_rfl
@[go_sem] theorem zr79 : zeroAV Try.prog 79 = some (.nilf) := by kernel_rfl
@[go_sem] theorem uk80 : ukOf Try.prog 80 = .func := by kernel_rfl
@[go_sem] theorem sz80 : szOf Try.prog 80 = 1 := by kernel_rfl
@[go_sem] theorem ck80 : cellK Try.prog 8 80 = [none] := by kernel_rfl
@[go_sem] theorem by80 : Try.prog.bytesOf 80 = 8 := by kernel_rfl
@[go_sem] theorem zr80 : zeroAV Try.prog 80 = some (.nilf) := by kernel_rfl
@[go_sem] theorem uk81 : ukOf Try.prog 81 = .func := by kernel_rfl
@[go_sem] theorem sz81 : szOf Try.prog 81 = 1 := by kernel_rfl
@[go_sem] theorem ck81 : cellK Try.prog 8 81 = [none] := by kernel_rfl
@[go_sem] theorem by81 : Try.prog.bytesOf 81 = 8 := by kernel_rfl
@[go_sem] theorem zr81 : zeroAV Try.prog 81 = some (.nilf) := by kernel_rfl
@[go_sem] theorem uk82 : ukOf Try.prog 82 = .func := by kernel_rfl
@[go_sem] theorem sz82 : szOf Try.prog 82 = 1 := by kernel_rfl
@[go_sem] theorem ck82 : cellK Try.prog 8 82 = [none] := by kernel_rfl
@[go_sem] theorem by82 : Try.prog.bytesOf 82 = 8 := by kernel_rfl
@[go_sem] theorem zr82 : zeroAV Try.prog 82 = some (.nilf) := by kernel_rfl
@[go_sem] theorem uk83 : ukOf Try.prog 83 = .func := by kernel_rfl
@[go_sem] theorem sz83 : szOf Try.prog 83 = 1 := by kernel_rfl
@[go_sem] theorem ck83 : cellK Try.prog 8 83 = [none] := by kernel_rfl
@[go_sem] theorem by83 : Try.prog.bytesOf 83 = 8 := by kernel_rfl
@[go_sem] theorem zr83 : zeroAV Try.prog 83 = some (.nilf) := by kernel_rfl
@[go_sem] theorem uk84 : ukOf Try.prog 84 = .ptr 89 := by kernel_rfl
@[go_sem] theorem sz84 : szOf Try.prog 84 = 1 := by kernel_rfl
@[go_sem] theorem ck84 : cellK Try.prog 8 84 = [none] := by kernel_rfl
@[go_sem] theorem by84 : Try.prog.bytesOf 84 = 8 := by kernel_rfl
@[go_sem] theorem zr84 : zeroAV Try.prog 84 = some (.nilp) := by kernel_rfl
@[go_sem] theorem uk86 : ukOf Try.prog 86 = .func := by kernel_rfl
@[go_sem] theorem sz86 : szOf Try.prog 86 = 1 := by kernel_rfl
@[go_sem] theorem ck86 : cellK Try.prog 8 86 = [none] := by kernel_rfl
@[go_sem] theorem by86 : Try.prog.bytesOf 86 = 8 := by kernel_rfl
@[go_sem] theorem zr86 : zeroAV Try.prog 86 = some (.nilf) := by kernel_rfl
@[go_sem] theorem uk87 : ukOf Try.prog 87 = .map 3 29 := by kernel_rfl
@[go_sem] theorem sz87 : szOf Try.prog 87 = 1 := by kernel_rfl
@[go_sem] theorem ck87 : cellK Try.prog 8 87 = [none] := by kernel_rfl
@[go_sem] theorem by87 : Try.prog.bytesOf 87 = 8 := by kernel_rfl
@[go_sem] theorem zr87 : zeroAV Try.prog 87 = some (.nilm) := by kernel_rfl
@[go_sem] theorem uk88 : ukOf Try.prog 88 = .struct := by kernel_rfl
@[go_sem] theorem sz88 : szOf Try.prog 88 = 13 := by kernel_rfl
@[go_sem] theorem fd88_0 : fldOf Try.prog 88 0 = some (0, 42) := by kernel_rfl
@[go_sem] theorem fd88_1 : fldOf Try.prog 88 1 = some (2, 87) := by kernel_rfl
@[go_sem] theorem fd88_2 : fldOf Try.prog 88 2 = some (3, 29) := by kernel_rfl
@[go_sem] theorem fd88_3 : fldOf Try.prog 88 3 = some (4, 29) := by kernel_rfl
@[go_sem] theorem fd88_4 : fldOf Try.prog 88 4 = some (5, 3) := by kernel_rfl
@[go_sem] theorem fd88_5 : fldOf Try.prog 88 5 = some (6, 29) := by kernel_rfl
@[go_sem] theorem fd88_6 : fldOf Try.prog 88 6 = some (7, 29) := by kernel_rfl
@[go_sem] theorem fd88_7 : fldOf Try.prog 88 7 = some (8, 3) := by kernel_rfl
@[go_sem] theorem fd88_8 : fldOf Try.prog 88 8 = some (9, 4) := by kernel_rfl
@[go_sem] theorem fd88_9 : fldOf Try.prog 88 9 = some (10, 51) := by kernel_rfl
@[go_sem] theorem fd88_10 : fldOf Try.prog 88 10 = some (11, 3) := by kernel_rfl
@[go_sem] theorem fd88_11 : fldOf Try.prog 88 11 = some (12, 4) := by kernel_rfl
@[go_sem] theorem ck88 : cellK Try.prog 8 88 = [none, some 1, none, some 1, some 1, none, some 1, some 1, none, none, some 1, none, none] := by kernel_rfl
@[go_sem] theorem so88 : structOk Try.prog 88 = true := by kernel_rfl
@[go_sem] theorem by88 : Try.prog.bytesOf 88 = 200 := by kernel_rfl
@[go_sem] theorem zr88 : zeroAV Try.prog 88 = some (.agg [.i .i64 0, .nsl, .nilm, .nsl, .nsl, .i .i64 0, .nsl, .nsl, .i .i64 0, .b false, .nsl, .i .i64 0, .b false]) := by kernel_rfl
@[go_sem] theorem uk89 : ukOf Try.prog 89 = .struct := by kernel_rfl
@[go_sem] theorem sz89 : szOf Try.prog 89 = 13 := by kernel_rfl
@[go_sem] theorem fd89_0 : fldOf Try.prog 89 0 = some (0, 42) := by kernel_rfl
@[go_sem] theorem fd89_1 : fldOf Try.prog 89 1 = some (2, 87) := by kernel_rfl
@[go_sem] theorem fd89_2 : fldOf Try.prog 89 2 = some (3, 29) := by kernel_rfl
@[go_sem] theorem fd89_3 : fldOf Try.prog 89 3 = some (4, 29) := by kernel_rfl
@[go_sem] theorem fd89_4 : fldOf Try.prog 89 4 = some (5, 3) := by kernel_rfl
@[go_sem] theorem fd89_5 : fldOf Try.prog 89 5 = some (6, 29) := by kernel_rfl
@[go_sem] theorem fd89_6 : fldOf Try.prog 89 6 = some (7, 29) := by kernel_rfl
@[go_sem] theorem fd89_7 : fldOf Try.prog 89 7 = some (8, 3) := by kernel_rfl
@[go_sem] theorem fd89_8 : fldOf Try.prog 89 8 = some (9, 4) := by kernel_rfl
@[go_sem] theorem fd89_9 : fldOf Try.prog 89 9 = some (10, 51) := by kernel_rfl
@[go_sem] theorem fd89_10 : fldOf Try.prog 89 10 = some (11, 3) := by kernel_rfl
@[go_sem] theorem fd89_11 : fldOf Try.prog 89 11 = some (12, 4) := by kernel_rfl
@[go_sem] theorem ck89 : cellK Try.prog 8 89 = [none, some 1, none, some 1, some 1, none, some 1, some 1, none, none, some 1, none, none] := by kernel_rfl
@[go_sem] theorem so89 : structOk Try.prog 89 = true := by kernel_rfl
@[go_sem] theorem by89 : Try.prog.bytesOf 89 = 200 := by kernel_rfl
@[go_sem] theorem zr89 : zeroAV Try.prog 89 = some (.agg [.i .i64 0, .nsl, .nilm, .nsl, .nsl, .i .i64 0, .nsl, .nsl, .i .i64 0, .b false, .nsl, .i .i64 0, .b false]) := by kernel_rfl
@[go_sem] theorem uk90 : ukOf Try.prog 90 = .ptr 92 := by kernel_rfl
@[go_sem] theorem sz90 : szOf Try.prog 90 = 1 := by kernel_rfl
@[go_sem] theorem ck90 : cellK Try.prog 8 90 = [none] := by kernel_rfl
@[go_sem] theorem by90 : Try.prog.bytesOf 90 = 8 := by kernel_rfl
@[go_sem] theorem zr90 : zeroAV Try.prog 90 = some (.nilp) := by kernel_rfl
@[go_sem] theorem uk91 : ukOf Try.prog 91 = .struct := by kernel_rfl
@[go_sem] theorem sz91 : szOf Try.prog 91 = 3 := by kernel_rfl
@[go_sem] theorem fd91_0 : fldOf Try.prog 91 0 = some (0, 40) := by kernel_rfl
@[go_sem] theorem fd91_1 : fldOf Try.prog 91 1 = some (1, 29) := by kernel_rfl
@[go_sem] theorem fd91_2 : fldOf Try.prog 91 2 = some (2, 3) := by kernel_rfl
@[go_sem] theorem ck91 : cellK Try.prog 8 91 = [some 1, some 1, none] := by kernel_rfl
@[go_sem] theorem so91 : structOk Try.prog 91 = true := by kernel_rfl
@[go_sem] theorem by91 : Try.prog.bytesOf 91 = 56 := by kernel_rfl
@[go_sem] theorem zr91 : zeroAV Try.prog 91 = some (.agg [.nsl, .nsl, .i .i64 0]) := by kernel_rfl
@[go_sem] theorem uk92 : ukOf Try.prog 92 = .struct := by kernel_rfl
@[go_sem] theorem sz92 : szOf Try.prog 92 = 3 := by kernel_rfl
@[go_sem] theorem fd92_0 : fldOf Try.prog 92 0 = some (0, 40) := by kernel_rfl
@[go_sem] theorem fd92_1 : fldOf Try.prog 92 1 = some (1, 29) := by kernel_rfl
@[go_sem] theorem fd92_2 : fldOf Try.prog 92 2 = some (2, 3) := by kernel_rfl
@[go_sem] theorem ck92 : cellK Try.prog 8 92 = [some 1, some 1, none] := by kernel_rfl
@[go_sem] theorem so92 : structOk Try.prog 92 = true := by kernel_rfl
@[go_sem] theorem by92 : Try.prog.bytesOf 92 = 56 := by kernel_rfl
@[go_sem] theorem zr92 : zeroAV Try.prog 92 = some (.agg [.nsl, .nsl, .i .i64 0]) := by kernel_rfl
@[go_sem] theorem uk93 : ukOf Try.prog 93 = .func := by kernel_rfl
@[go_sem] theorem sz93 : szOf Try.prog 93 = 1 := by kernel_rfl
@[go_sem] theorem ck93 : cellK Try.prog 8 93 = [none] := by kernel_rfl
@[go_sem] theorem by93 : Try.prog.bytesOf 93 = 8 := by kernel_rfl
@[go_sem] theorem zr93 : zeroAV Try.prog 93 = some (.nilf) := by kernel_rfl
@[go_sem] theorem uk95 : ukOf Try.prog 95 = .func := by kernel_rfl
@[go_sem] theorem sz95 : szOf Try.prog 95 = 1 := by kernel_rfl
@[go_sem] theorem ck95 : cellK Try.prog 8 95 = [none] := by kernel_rfl
@[go_sem] theorem by95 : Try.prog.bytesOf 95 = 8 := by kernel_rfl
@[go_sem] theorem zr95 : zeroAV Try.prog 95 = some (.nilf) := by kernel_rfl
@[go_sem] theorem uk96 : ukOf Try.prog 96 = .func := by kernel_rfl
@[go_sem] theorem sz96 : szOf Try.prog 96 = 1 := by kernel_rfl
@[go_sem] theorem ck96 : cellK Try.prog 8 96 = [none] := by kernel_rfl
@[go_sem] theorem by96 : Try.prog.bytesOf 96 = 8 := by kernel_rfl
@[go_sem] theorem zr96 : zeroAV Try.prog 96 = some (.nilf) := by kernel_rfl
@[go_sem] theorem uk97 : ukOf Try.prog 97 = .func := by kernel_rfl
@[go_sem] theorem sz97 : szOf Try.prog 97 = 1 := by kernel_rfl
@[go_sem] theorem ck97 : cellK Try.prog 8 97 = [none] := by kernel_rfl
@[go_sem] theorem by97 : Try.prog.bytesOf 97 = 8 := by kernel_rfl
@[go_sem] theorem zr97 : zeroAV Try.prog 97 = some (.nilf) := by kernel_rfl
@[go_sem] theorem uk98 : ukOf Try.prog 98 = .func := by kernel_rfl
@[go_sem] theorem sz98 : szOf Try.prog 98 = 1 := by kernel_rfl
@[go_sem] theorem ck98 : cellK Try.prog 8 98 = [none] := by kernel_rfl
@[go_sem] theorem by98 : Try.prog.bytesOf 98 = 8 := by kernel_rfl
@[go_sem] theorem zr98 : zeroAV Try.prog 98 = some (.nilf) := by kernel_rfl
@[go_sem] theorem uk99 : ukOf Try.prog 99 = .slice 68 := by kernel_rfl
@[go_sem] theorem sz99 : szOf Try.prog 99 = 1 := by kernel_rfl
@[go_sem] theorem ck99 : cellK Try.prog 8 99 = [some 2] := by kernel_rfl
@[go_sem] theorem by99 : Try.prog.bytesOf 99 = 24 := by kernel_rfl
@[go_sem] theorem zr99 : zeroAV Try.prog 99 = some (.nsl) := by kernel_rfl
@[go_sem] theorem uk100 : ukOf Try.prog 100 = .func := by kernel_rfl
@[go_sem] theorem sz100 : szOf Try.prog 100 = 1 := by kernel_rfl
@[go_sem] theorem ck100 : cellK Try.prog 8 100 = [none] := by kernel_rfl
@[go_sem] theorem by100 : Try.prog.bytesOf 100 = 8 := by kernel_rfl
@[go_sem] theorem zr100 : zeroAV Try.prog 100 = some (.nilf) := by kernel_rfl
@[go_sem] theorem uk101 : ukOf Try.prog 101 = .func := by kernel_rfl
@[go_sem] theorem sz101 : szOf Try.prog 101 = 1 := by kernel_rfl
@[go_sem] theorem ck101 : cellK Try.prog 8 101 = [none] := by kernel_rfl
@[go_sem] theorem by101 : Try.prog.bytesOf 101 = 8 := by kernel_rfl
@[go_sem] theorem zr101 : zeroAV Try.prog 101 = some (.nilf) := by kernel_rfl
@[go_sem] theorem uk102 : ukOf Try.prog 102 = .func := by kernel_rfl
@[go_sem] theorem sz102 : szOf Try.prog 102 = 1 := by kernel_rfl
@[go_sem] theorem ck102 : cellK Try.prog 8 102 = [none] := by kernel_rfl
@[go_sem] theorem by102 : Try.prog.bytesOf 102 = 8 := by kernel_rfl
@[go_sem] theorem zr102 : zeroAV Try.prog 102 = some (.nilf) := by kernel_rfl
@[go_sem] theorem uk104 : ukOf Try.prog 104 = .func := by kernel_rfl
@[go_sem] theorem sz104 : szOf Try.prog 104 = 1 := by kernel_rfl
@[go_sem] theorem ck104 : cellK Try.prog 8 104 = [none] := by kernel_rfl
@[go_sem] theorem by104 : Try.prog.bytesOf 104 = 8 := by kernel_rfl
@[go_sem] theorem zr104 : zeroAV Try.prog 104 = some (.nilf) := by kernel_rfl
@[go_sem] theorem uk105 : ukOf Try.prog 105 = .func := by kernel_rfl
@[go_sem] theorem sz105 : szOf Try.prog 105 = 1 := by kernel_rfl
@[go_sem] theorem ck105 : cellK Try.prog 8 105 = [none] := by kernel_rfl
@[go_sem] theorem by105 : Try.prog.bytesOf 105 = 8 := by kernel_rfl
@[go_sem] theorem zr105 : zeroAV Try.prog 105 = some (.nilf) := by kernel_rfl
@[go_sem] theorem uk106 : ukOf Try.prog 106 = .func := by kernel_rfl
@[go_sem] theorem sz106 : szOf Try.prog 106 = 1 := by kernel_rfl
@[go_sem] theorem ck106 : cellK Try.prog 8 106 = [none] := by kernel_rfl
@[go_sem] theorem by106 : Try.prog.bytesOf 106 = 8 := by kernel_rfl
@[go_sem] theorem zr106 : zeroAV Try.prog 106 = some (.nilf) := by kernel_rfl
@[go_sem] theorem uk107 : ukOf Try.prog 107 = .func := by kernel_rfl
@[go_sem] theorem sz107 : szOf Try.prog 107 = 1 := by kernel_rfl
@[go_sem] theorem ck107 : cellK Try.prog 8 107 = [none] := by kernel_rfl
@[go_sem] theorem by107 : Try.prog.bytesOf 107 = 8 := by kernel_rfl
@[go_sem] theorem zr107 : zeroAV Try.prog 107 = some (.nilf) := by kernel_rfl
@[go_sem] theorem uk108 : ukOf Try.prog 108 = .func := by kernel_rfl
@[go_sem] theorem sz108 : szOf Try.prog 108 = 1 := by kernel_rfl
@[go_sem] theorem ck108 : cellK Try.prog 8 108 = [none] := by kernel_rfl
@[go_sem] theorem by108 : Try.prog.bytesOf 108 = 8 := by kernel_rfl
@[go_sem] theorem zr108 : zeroAV Try.prog 108 = some (.nilf) := by kernel_rfl
@[go_sem] theorem uk109 : ukOf Try.prog 109 = .func := by kernel_rfl
@[go_sem] theorem sz109 : szOf Try.prog 109 = 1 := by kernel_rfl
@[go_sem] theorem ck109 : cellK Try.prog 8 109 = [none] := by kernel_rfl
@[go_sem] theorem by109 : Try.prog.bytesOf 109 = 8 := by kernel_rfl
@[go_sem] theorem zr109 : zeroAV Try.prog 109 = some (.nilf) := by kernel_rfl
@[go_sem] theorem uk110 : ukOf Try.prog 110 = .func := by kernel_rfl
@[go_sem] theorem sz110 : szOf Try.prog 110 = 1 := by kernel_rfl
@[go_sem] theorem ck110 : cellK Try.prog 8 110 = [none] := by kernel_rfl
@[go_sem] theorem by110 : Try.prog.bytesOf 110 = 8 := by kernel_rfl
@[go_sem] theorem zr110 : zeroAV Try.prog 110 = some (.nilf) := by kernel_rfl
@[go_sem] theorem uk111 : ukOf Try.prog 111 = .func := by kernel_rfl
@[go_sem] theorem sz111 : szOf Try.prog 111 = 1 := by kernel_rfl
@[go_sem] theorem ck111 : cellK Try.prog 8 111 = [none] := by kernel_rfl
@[go_sem] theorem by111 : Try.prog.bytesOf 111 = 8 := by kernel_rfl
@[go_sem] theorem zr111 : zeroAV Try.prog 111 = some (.nilf) := by kernel_rfl
@[go_sem] theorem uk112 : ukOf Try.prog 112 = .func := by kernel_rfl
@[go_sem] theorem sz112 : szOf Try.prog 112 = 1 := by kernel_rfl
@[go_sem] theorem ck112 : cellK Try.prog 8 112 = [none] := by kernel_rfl
@[go_sem] theorem by112 : Try.prog.bytesOf 112 = 8 := by kernel_rfl
@[go_sem] theorem zr112 : zeroAV Try.prog 112 = some (.nilf) := by kernel_rfl
@[go_sem] theorem uk113 : ukOf Try.prog 113 = .func := by kernel_rfl
@[go_sem] theorem sz113 : szOf Try.prog 113 = 1 := by kernel_rfl
@[go_sem] theorem ck113 : cellK Try.prog 8 113 = [none] := by kernel_rfl
@[go_sem] theorem by113 : Try.prog.bytesOf 113 = 8 := by kernel_rfl
@[go_sem] theorem zr113 : zeroAV Try.prog 113 = some (.nilf) := by kernel_rfl
@[go_sem] theorem uk114 : ukOf Try.prog 114 = .func := by kernel_rfl
@[go_sem] theorem sz114 : szOf Try.prog 114 = 1 := by kernel_rfl
@[go_sem] theorem ck114 : cellK Try.prog 8 114 = [none] := by kernel_rfl
@[go_sem] theorem by114 : Try.prog.bytesOf 114 = 8 := by kernel_rfl
@[go_sem] theorem zr114 : zeroAV Try.prog 114 = some (.nilf) := by kernel_rfl
@[go_sem] theorem uk115 : ukOf Try.prog 115 = .func := by kernel_rfl
@[go_sem] theorem sz115 : szOf Try.prog 115 = 1 := by kernel_rfl
@[go_sem] theorem ck115 : cellK Try.prog 8 115 = [none] := by kernel_rfl
@[go_sem] theorem by115 : Try.prog.bytesOf 115 = 8 := by kernel_rfl
@[go_sem] theorem zr115 : zeroAV Try.prog 115 = some (.nilf) := by kernel_rfl
@[go_sem] theorem uk116 : ukOf Try.prog 116 = .func := by kernel_rfl
@[go_sem] theorem sz116 : szOf Try.prog 116 = 1 := by kernel_rfl
@[go_sem] theorem ck116 : cellK Try.prog 8 116 = [none] := by kernel_rfl
@[go_sem] theorem by116 : Try.prog.bytesOf 116 = 8 := by kernel_rfl
@[go_sem] theorem zr116 : zeroAV Try.prog 116 = some (.nilf) := by kernel_rfl
@[go_sem] theorem uk117 : ukOf Try.prog 117 = .func := by kernel_rfl
@[go_sem] theorem sz117 : szOf Try.prog 117 = 1 := by kernel_rfl
@[go_sem] theorem ck117 : cellK Try.prog 8 117 = [none] := by kernel_rfl
@[go_sem] theorem by117 : Try.prog.bytesOf 117 = 8 := by kernel_rfl
@[go_sem] theorem zr117 : zeroAV Try.prog 117 = some (.nilf) := by kernel_rfl
@[go_sem] theorem uk118 : ukOf Try.prog 118 = .func := by kernel_rfl
@[go_sem] theorem sz118 : szOf Try.prog 118 = 1 := by kernel_rfl
@[go_sem] theorem ck118 : cellK Try.prog 8 118 = [none] := by kernel_rfl
@[go_sem] theorem by118 : Try.prog.bytesOf 118 = 8 := by kernel_rfl
@[go_sem] theorem zr118 : zeroAV Try.prog 118 = some (.nilf) := by kernel_rfl
@[go_sem] theorem uk119 : ukOf Try.prog 119 = .func := by kernel_rfl
@[go_sem] theorem sz119 : szOf Try.prog 119 = 1 := by kernel_rfl
@[go_sem] theorem ck119 : cellK Try.prog 8 119 = [none] := by kernel_rfl
@[go_sem] theorem by119 : Try.prog.bytesOf 119 = 8 := by kernel_rfl
@[go_sem] theorem zr119 : zeroAV Try.prog 119 = some (.nilf) := by kernel_rfl
@[go_sem] theorem uk120 : ukOf Try.prog 120 = .func := by kernel_rfl
@[go_sem] theorem sz120 : szOf Try.prog 120 = 1 := by kernel_rfl
@[go_sem] theorem ck120 : cellK Try.prog 8 120 = [none] := by kernel_rfl
@[go_sem] theorem by120 : Try.prog.bytesOf 120 = 8 := by kernel_rfl
@[go_sem] theorem zr120 : zeroAV Try.prog 120 = some (.nilf) := by kernel_rfl
@[go_sem] theorem uk121 : ukOf Try.prog 121 = .int .u64 := by kernel_rfl
@[go_sem] theorem sz121 : szOf Try.prog 121 = 1 := by kernel_rfl
@[go_sem] theorem ck121 : cellK Try.prog 8 121 = [none] := by kernel_rfl
@[go_sem] theorem by121 : Try.prog.bytesOf 121 = 8 := by kernel_rfl
@[go_sem] theorem zr121 : zeroAV Try.prog 121 = some (.i .u64 0) := by kernel_rfl
@[go_sem] theorem uk122 : ukOf Try.prog 122 = .func := by kernel_rfl
@[go_sem] theorem sz122 : szOf Try.prog 122 = 1 := by kernel_rfl
@[go_sem] theorem ck122 : cellK Try.prog 8 122 = [none] := by kernel_rfl
@[go_sem] theorem by122 : Try.prog.bytesOf 122 = 8 := by kernel_rfl
@[go_sem] theorem zr122 : zeroAV Try.prog 122 = some (.nilf) := by kernel_rfl
@[go_sem] theorem uk123 : ukOf Try.prog 123 = .int .i64 := by kernel_rfl
@[go_sem] theorem sz123 : szOf Try.prog 123 = 1 := by kernel_rfl
@[go_sem] theorem ck123 : cellK Try.prog 8 123 = [none] := by kernel_rfl
@[go_sem] theorem by123 : Try.prog.bytesOf 123 = 8 := by kernel_rfl
@[go_sem] theorem zr123 : zeroAV Try.prog 123 = some (.i .i64 0) := by kernel_rfl
@[go_sem] theorem uk125 : ukOf Try.prog 125 = .func := by kernel_rfl
@[go_sem] theorem sz125 : szOf Try.prog 125 = 1 := by kernel_rfl
@[go_sem] theorem ck125 : cellK Try.prog 8 125 = [none] := by kernel_rfl
@[go_sem] theorem by125 : Try.prog.bytesOf 125 = 8 := by kernel_rfl
@[go_sem] theorem zr125 : zeroAV Try.prog 125 = some (.nilf) := by kernel_rfl
@[go_sem] theorem uk126 : ukOf Try.prog 126 = .func := by kernel_rfl
@[go_sem] theorem sz126 : szOf Try.prog 126 = 1 := by kernel_rfl
@[go_sem] theorem ck126 : cellK Try.prog 8 126 = [none] := by kernel_rfl
@[go_sem] theorem by126 : Try.prog.bytesOf 126 = 8 := by kernel_rfl
@[go_sem] theorem zr126 : zeroAV Try.prog 126 = some (.nilf) := by kernel_rfl
@[go_sem] theorem uk127 : ukOf Try.prog 127 = .func := by kernel_rfl
@[go_sem] theorem sz127 : szOf Try.prog 127 = 1 := by kernel_rfl
@[go_sem] theorem ck127 : cellK Try.prog 8 127 = [none] := by kernel_rfl
@[go_sem] theorem by127 : Try.prog.bytesOf 127 = 8 := by kernel_rfl
@[go_sem] theorem zr127 : zeroAV Try.prog 127 = some (.nilf) := by kernel_rfl
@[go_sem] theorem uk128 : ukOf Try.prog 128 = .func := by kernel_rfl
@[go_sem] theorem sz128 : szOf Try.prog 128 = 1 := by kernel_rfl
@[go_sem] theorem ck128 : cellK Try.prog 8 128 = [none] := by kernel_rfl
@[go_sem] theorem by128 : Try.prog.bytesOf 128 = 8 := by kernel_rfl
@[go_sem] theorem zr128 : zeroAV Try.prog 128 = some (.nilf) := by kernel_rfl
@[go_sem] theorem uk129 : ukOf Try.prog 129 = .func := by kernel_rfl
@[go_sem] theorem sz129 : szOf Try.prog 129 = 1 := by kernel_rfl
@[go_sem] theorem ck129 : cellK Try.prog 8 129 = [none] := by kernel_rfl
@[go_sem] theorem by129 : Try.prog.bytesOf 129 = 8 := by kernel_rfl
@[go_sem] theorem zr129 : zeroAV Try.prog 129 = some (.nilf) := by kernel_rfl
@[go_sem] theorem uk130 : ukOf Try.prog 130 = .int .u32 := by kernel_rfl
@[go_sem] theorem sz130 : szOf Try.prog 130 = 1 := by kernel_rfl
@[go_sem] theorem ck130 : cellK Try.prog 8 130 = [none] := by kernel_rfl
@[go_sem] theorem by130 : Try.prog.bytesOf 130 = 4 := by kernel_rfl
@[go_sem] theorem zr130 : zeroAV Try.prog 130 = some (.i .u32 0) := by kernel_rfl
@[go_sem] theorem uk131 : ukOf Try.prog 131 = .func := by kernel_rfl
@[go_sem] theorem sz131 : szOf Try.prog 131 = 1 := by kernel_rfl
@[go_sem] theorem ck131 : cellK Try.prog 8 131 = [none] := by kernel_rfl
@[go_sem] theorem by131 : Try.prog.bytesOf 131 = 8 := by kernel_rfl
@[go_sem] theorem zr131 : zeroAV Try.prog 131 = some (.nilf) := by kernel_rfl
@[go_sem] theorem uk132 : ukOf Try.prog 132 = .int .u64 := by kernel_rfl
@[go_sem] theorem sz132 : szOf Try.prog 132 = 1 := by kernel_rfl
@[go_sem] theorem ck132 : cellK Try.prog 8 132 = [none] := by kernel_rfl
@[go_sem] theorem by132 : Try.prog.bytesOf 132 = 8 := by kernel_rfl
@[go_sem] theorem zr132 : zeroAV Try.prog 132 = some (.i .u64 0) := by kernel_rfl
@[go_sem] theorem uk133 : ukOf Try.prog 133 = .int .u64 := by kernel_rfl
@[go_sem] theorem sz133 : szOf Try.prog 133 = 1 := by kernel_rfl
@[go_sem] theorem ck133 : cellK Try.prog 8 133 = [none] := by kernel_rfl
@[go_sem] theorem by133 : Try.prog.bytesOf 133 = 8 := by kernel_rfl
@[go_sem] theorem zr133 : zeroAV Try.prog 133 = some (.i .u64 0) := by kernel_rfl
@[go_sem] theorem uk134 : ukOf Try.prog 134 = .func := by kernel_rfl
@[go_sem] theorem sz134 : szOf Try.prog 134 = 1 := by kernel_rfl
@[go_sem] theorem ck134 : cellK Try.prog 8 134 = [none] := by kernel_rfl
@[go_sem] theorem by134 : Try.prog.bytesOf 134 = 8 := by kernel_rfl
@[go_sem] theorem zr134 : zeroAV Try.prog 134 = some (.nilf) := by kernel_rfl
@[go_sem] theorem uk135 : ukOf Try.prog 135 = .func := by kernel_rfl
@[go_sem] theorem sz135 : szOf Try.prog 135 = 1 := by kernel_rfl
@[go_sem] theorem ck135 : cellK Try.prog 8 135 = [none] := by kernel_rfl
@[go_sem] theorem by135 : Try.prog.bytesOf 135 = 8 := by kernel_rfl
@[go_sem] theorem zr135 : zeroAV Try.prog 135 = some (.nilf) := by kernel_rfl
@[go_sem] theorem uk136 : ukOf Try.prog 136 = .func := by kernel_rfl
@[go_sem] theorem sz136 : szOf Try.prog 136 = 1 := by kernel_rfl
@[go_sem] theorem ck136 : cellK Try.prog 8 136 = [none] := by kernel_rfl
@[go_sem] theorem by136 : Try.prog.bytesOf 136 = 8 := by kernel_rfl
@[go_sem] theorem zr136 : zeroAV Try.prog 136 = some (.nilf) := by kernel_rfl
@[go_sem] theorem uk137 : ukOf Try.prog 137 = .ptr 3 := by kernel_rfl
@[go_sem] theorem sz137 : szOf Try.prog 137 = 1 := by kernel_rfl
@[go_sem] theorem ck137 : cellK Try.prog 8 137 = [none] := by kernel_rfl
@[go_sem] theorem by137 : Try.prog.bytesOf 137 = 8 := by kernel_rfl
@[go_sem] theorem zr137 : zeroAV Try.prog 137 = some (.nilp) := by kernel_rfl
@[go_sem] theorem uk138 : ukOf Try.prog 138 = .func := by kernel_rfl
@[go_sem] theorem sz138 : szOf Try.prog 138 = 1 := by kernel_rfl
@[go_sem] theorem ck138 : cellK Try.prog 8 138 = [none] := by kernel_rfl
@[go_sem] theorem by138 : Try.prog.bytesOf 138 = 8 := by kernel_rfl
@[go_sem] theorem zr138 : zeroAV Try.prog 138 = some (.nilf) := by kernel_rfl
@[go_sem] theorem uk139 : ukOf Try.prog 139 = .ptr 133 := by kernel_rfl
@[go_sem] theorem sz139 : szOf Try.prog 139 = 1 := by kernel_rfl
@[go_sem] theorem ck139 : cellK Try.prog 8 139 = [none] := by kernel_rfl
@[go_sem] theorem by139 : Try.prog.bytesOf 139 = 8 := by kernel_rfl
@[go_sem] theorem zr139 : zeroAV Try.prog 139 = some (.nilp) := by kernel_rfl
@[go_sem] theorem uk141 : ukOf Try.prog 141 = .func := by kernel_rfl
@[go_sem] theorem sz141 : szOf Try.prog 141 = 1 := by kernel_rfl
@[go_sem] theorem ck141 : cellK Try.prog 8 141 = [none] := by kernel_rfl
@[go_sem] theorem by141 : Try.prog.bytesOf 141 = 8 := by kernel_rfl
@[go_sem] theorem zr141 : zeroAV Try.prog 141 = some (.nilf) := by kernel_rfl
@[go_sem] theorem uk142 : ukOf Try.prog 142 = .func := by kernel_rfl
@[go_sem] theorem sz142 : szOf Try.prog 142 = 1 := by kernel_rfl
@[go_sem] theorem ck142 : cellK Try.prog 8 142 = [none] := by kernel_rfl
@[go_sem] theorem by142 : Try.prog.bytesOf 142 = 8 := by kernel_rfl
@[go_sem] theorem zr142 : zeroAV Try.prog 142 = some (.nilf) := by kernel_rfl
@[go_sem] theorem uk143 : ukOf Try.prog 143 = .struct := by kernel_rfl
@[go_sem] theorem sz143 : szOf Try.prog 143 = 4 := by kernel_rfl
@[go_sem] theorem fd143_0 : fldOf Try.prog 143 0 = some (0, 17) := by kernel_rfl
@[go_sem] theorem fd143_1 : fldOf Try.prog 143 1 = some (1, 17) := by kernel_rfl
@[go_sem] theorem fd143_2 : fldOf Try.prog 143 2 = some (2, 17) := by kernel_rfl
@[go_sem] theorem fd143_3 : fldOf Try.prog 143 3 = some (3, 9) := by kernel_rfl
@[go_sem] theorem ck143 : cellK Try.prog 8 143 = [none, none, none, none] := by kernel_rfl
@[go_sem] theorem so143 : structOk Try.prog 143 = true := by kernel_rfl
@[go_sem] theorem by143 : Try.prog.bytesOf 143 = 40 := by kernel_rfl
@[go_sem] theorem zr143 : zeroAV Try.prog 143 = some (.agg [.nilp, .nilp, .nilp, .s ByteArray.empty]) := by kernel_rfl
@[go_sem] theorem uk144 : ukOf Try.prog 144 = .struct := by kernel_rfl
@[go_sem] theorem sz144 : szOf Try.prog 144 = 4 := by kernel_rfl
@[go_sem] theorem fd144_0 : fldOf Try.prog 144 0 = some (0, 17) := by kernel_rfl
@[go_sem] theorem fd144_1 : fldOf Try.prog 144 1 = some (1, 17) := by kernel_rfl
@[go_sem] theorem fd144_2 : fldOf Try.prog 144 2 = some (2, 17) := by kernel_rfl
@[go_sem] theorem fd144_3 : fldOf Try.prog 144 3 = some (3, 9) := by kernel_rfl
@[go_sem] theorem ck144 : cellK Try.prog 8 144 = [none, none, none, none] := by kernel_rfl
@[go_sem] theorem so144 : structOk Try.prog 144 = true := by kernel_rfl
@[go_sem] theorem by144 : Try.prog.bytesOf 144 = 40 := by kernel_rfl
@[go_sem] theorem zr144 : zeroAV Try.prog 144 = some (.agg [.nilp, .nilp, .nilp, .s ByteArray.empty]) := by kernel_rfl
@[go_sem] theorem uk145 : ukOf Try.prog 145 = .arr 0 16 := by kernel_rfl
@[go_sem] theorem sz145 : szOf Try.prog 145 = 0 := by kernel_rfl
@[go_sem] theorem ck145 : cellK Try.prog 8 145 = [] := by kernel_rfl
@[go_sem] theorem so145 : structOk Try.prog 145 = true := by kernel_rfl
@[go_sem] theorem by145 : Try.prog.bytesOf 145 = 0 := by kernel_rfl
@[go_sem] theorem zr145 : zeroAV Try.prog 145 = some (.agg []) := by kernel_rfl
@[go_sem] theorem uk146 : ukOf Try.prog 146 = .struct := by kernel_rfl
@[go_sem] theorem sz146 : szOf Try.prog 146 = 0 := by kernel_rfl
@[go_sem] theorem fd146_0 : fldOf Try.prog 146 0 = some (0, 145) := by kernel_rfl
@[go_sem] theorem ck146 : cellK Try.prog 8 146 = [] := by kernel_rfl
@[go_sem] theorem so146 : structOk Try.prog 146 = true := by kernel_rfl
@[go_sem] theorem by146 : Try.prog.bytesOf 146 = 0 := by kernel_rfl
@[go_sem] theorem zr146 : zeroAV Try.prog 146 = some (.agg []) := by kernel_rfl
@[go_sem] theorem uk147 : ukOf Try.prog 147 = .struct := by kernel_rfl
@[go_sem] theorem sz147 : szOf Try.prog 147 = 0 := by kernel_rfl
@[go_sem] theorem fd147_0 : fldOf Try.prog 147 0 = some (0, 145) := by kernel_rfl
@[go_sem] theorem ck147 : cellK Try.prog 8 147 = [] := by kernel_rfl
@[go_sem] theorem so147 : structOk Try.prog 147 = true := by kernel_rfl
@[go_sem] theorem by147 : Try.prog.bytesOf 147 = 0 := by kernel_rfl
@[go_sem] theorem zr147 : zeroAV Try.prog 147 = some (.agg []) := by kernel_rfl
@[go_sem] theorem uk148 : ukOf Try.prog 148 = .func := by kernel_rfl
@[go_sem] theorem sz148 : szOf Try.prog 148 = 1 := by kernel_rfl
@[go_sem] theorem ck148 : cellK Try.prog 8 148 = [none] := by kernel_rfl
@[go_sem] theorem by148 : Try.prog.bytesOf 148 = 8 := by kernel_rfl
@[go_sem] theorem zr148 : zeroAV Try.prog 148 = some (.nilf) := by kernel_rfl
@[go_sem] theorem uk149 : ukOf Try.prog 149 = .int .u8 := by kernel_rfl
@[go_sem] theorem sz149 : szOf Try.prog 149 = 1 := by kernel_rfl
@[go_sem] theorem ck149 : cellK Try.prog 8 149 = [none] := by kernel_rfl
@[go_sem] theorem by149 : Try.prog.bytesOf 149 = 1 := by kernel_rfl
@[go_sem] theorem zr149 : zeroAV Try.prog 149 = some (.i .u8 0) := by kernel_rfl
@[go_sem] theorem uk150 : ukOf Try.prog 150 = .int .u8 := by kernel_rfl
@[go_sem] theorem sz150 : szOf Try.prog 150 = 1 := by kernel_rfl
@[go_sem] theorem ck150 : cellK Try.prog 8 150 = [none] := by kernel_rfl
@[go_sem] theorem by150 : Try.prog.bytesOf 150 = 1 := by kernel_rfl
@[go_sem] theorem zr150 : zeroAV Try.prog 150 = some (.i .u8 0) := by kernel_rfl
@[go_sem] theorem uk151 : ukOf Try.prog 151 = .func := by kernel_rfl
@[go_sem] theorem sz151 : szOf Try.prog 151 = 1 := by kernel_rfl
@[go_sem] theorem ck151 : cellK Try.prog 8 151 = [none] := by kernel_rfl
@[go_sem] theorem by151 : Try.prog.bytesOf 151 = 8 := by kernel_rfl
@[go_sem] theorem zr151 : zeroAV Try.prog 151 = some (.nilf) := by kernel_rfl
@[go_sem] theorem uk152 : ukOf Try.prog 152 = .ptr 5 := by kernel_rfl
@[go_sem] theorem sz152 : szOf Try.prog 152 = 1 := by kernel_rfl
@[go_sem] theorem ck152 : cellK Try.prog 8 152 = [none] := by kernel_rfl
@[go_sem] theorem by152 : Try.prog.bytesOf 152 = 8 := by kernel_rfl
@[go_sem] theorem zr152 : zeroAV Try.prog 152 = some (.nilp) := by kernel_rfl
@[go_sem] theorem uk153 : ukOf Try.prog 153 = .int .i32 := by kernel_rfl
@[go_sem] theorem sz153 : szOf Try.prog 153 = 1 := by kernel_rfl
@[go_sem] theorem ck153 : cellK Try.prog 8 153 = [none] := by kernel_rfl
@[go_sem] theorem by153 : Try.prog.bytesOf 153 = 4 := by kernel_rfl
@[go_sem] theorem zr153 : zeroAV Try.prog 153 = some (.i .i32 0) := by kernel_rfl
@[go_sem] theorem uk154 : ukOf Try.prog 154 = .int .i32 := by kernel_rfl
@[go_sem] theorem sz154 : szOf Try.prog 154 = 1 := by kernel_rfl
@[go_sem] theorem ck154 : cellK Try.prog 8 154 = [none] := by kernel_rfl
@[go_sem] theorem by154 : Try.prog.bytesOf 154 = 4 := by kernel_rfl
@[go_sem] theorem zr154 : zeroAV Try.prog 154 = some (.i .i32 0) := by kernel_rfl
@[go_sem] theorem uk155 : ukOf Try.prog 155 = .struct := by kernel_rfl
@[go_sem] theorem sz155 : szOf Try.prog 155 = 11 := by kernel_rfl
@[go_sem] theorem fd155_0 : fldOf Try.prog 155 0 = some (0, 12) := by kernel_rfl
@[go_sem] theorem fd155_1 : fldOf Try.prog 155 1 = some (1, 12) := by kernel_rfl
@[go_sem] theorem fd155_2 : fldOf Try.prog 155 2 = some (2, 130) := by kernel_rfl
@[go_sem] theorem fd155_3 : fldOf Try.prog 155 3 = some (3, 149) := by kernel_rfl
@[go_sem] theorem fd155_4 : fldOf Try.prog 155 4 = some (4, 5) := by kernel_rfl
@[go_sem] theorem fd155_5 : fldOf Try.prog 155 5 = some (5, 5) := by kernel_rfl
@[go_sem] theorem fd155_6 : fldOf Try.prog 155 6 = some (6, 150) := by kernel_rfl
@[go_sem] theorem fd155_7 : fldOf Try.prog 155 7 = some (7, 151) := by kernel_rfl
@[go_sem] theorem fd155_8 : fldOf Try.prog 155 8 = some (8, 152) := by kernel_rfl
@[go_sem] theorem fd155_9 : fldOf Try.prog 155 9 = some (9, 153) := by kernel_rfl
@[go_sem] theorem fd155_10 : fldOf Try.prog 155 10 = some (10, 154) := by kernel_rfl
@[go_sem] theorem ck155 : cellK Try.prog 8 155 = [none, none, none, none, none, none, none, none, none, none, none] := by kernel_rfl
@[go_sem] theorem so155 : structOk Try.prog 155 = true := by kernel_rfl
@[go_sem] theorem by155 : Try.prog.bytesOf 155 = 48 := by kernel_rfl
@[go_sem] theorem zr155 : zeroAV Try.prog 155 = some (.agg [.i .u64 0, .i .u64 0, .i .u32 0, .i .u8 0, .i .u8 0, .i .u8 0, .i .u8 0, .nilf, .nilp, .i .i32 0, .i .i32 0]) := by kernel_rfl
@[go_sem] theorem uk156 : ukOf Try.prog 156 = .struct := by kernel_rfl
@[go_sem] theorem sz156 : szOf Try.prog 156 = 11 := by kernel_rfl
@[go_sem] theorem fd156_0 : fldOf Try.prog 156 0 = some (0, 12) := by kernel_rfl
@[go_sem] theorem fd156_1 : fldOf Try.prog 156 1 = some (1, 12) := by kernel_rfl
@[go_sem] theorem fd156_2 : fldOf Try.prog 156 2 = some (2, 130) := by kernel_rfl
@[go_sem] theorem fd156_3 : fldOf Try.prog 156 3 = some (3, 149) := by kernel_rfl
@[go_sem] theorem fd156_4 : fldOf Try.prog 156 4 = some (4, 5) := by kernel_rfl
@[go_sem] theorem fd156_5 : fldOf Try.prog 156 5 = some (5, 5) := by kernel_rfl
@[go_sem] theorem fd156_6 : fldOf Try.prog 156 6 = some (6, 150) := by kernel_rfl
@[go_sem] theorem fd156_7 : fldOf Try.prog 156 7 = some (7, 151) := by kernel_rfl
@[go_sem] theorem fd156_8 : fldOf Try.prog 156 8 = some (8, 152) := by kernel_rfl
@[go_sem] theorem fd156_9 : fldOf Try.prog 156 9 = some (9, 153) := by kernel_rfl
@[go_sem] theorem fd156_10 : fldOf Try.prog 156 10 = some (10, 154) := by kernel_rfl
@[go_sem] theorem ck156 : cellK Try.prog 8 156 = [none, none, none, none, none, none, none, none, none, none, none] := by kernel_rfl
@[go_sem] theorem so156 : structOk Try.prog 156 = true := by kernel_rfl
@[go_sem] theorem by156 : Try.prog.bytesOf 156 = 48 := by kernel_rfl
@[go_sem] theorem zr156 : zeroAV Try.prog 156 = some (.agg [.i .u64 0, .i .u64 0, .i .u32 0, .i .u8 0, .i .u8 0, .i .u8 0, .i .u8 0, .nilf, .nilp, .i .i32 0, .i .i32 0]) := by kernel_rfl
end Go.AW.TyTry
